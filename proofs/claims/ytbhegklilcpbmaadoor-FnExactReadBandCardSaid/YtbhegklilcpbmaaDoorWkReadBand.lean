/-
  The walks that the law FnExactReadBand reaches: each function computes its model. Printed by our own program.
-/
import Derived.Test.YtbhegklilcpbmaaDoorProg
import Derived.Test.YtbhegklilcpbmaaDoorMod
import Derived.Test.YtbhegklilcpbmaaDoorZero
import Derived.KernelRfl
import Derived.Test.YtbhegklilcpbmaaDoorStr
import Derived.Shelf.Strings.OnBuilder
import Derived.Test.YtbhegklilcpbmaaDoorErr
import Derived.Shelf.Strings.Split
import Derived.Test.YtbhegklilcpbmaaDoorTab
import Derived.Shelf.Strconv.Itoa4
import Derived.Shelf.Strconv.ParseIntPublic10
import Derived.Shelf.Strings.Prefix
namespace Go.Proofs.YtbhegklilcpbmaaDoor.fnExactReadBandW
open Go Go.RowKit Go.Wk
set_option linter.unusedVariables false
set_option maxRecDepth 100000
theorem hmix : Tryd.prog.follows .mixedOrders = true := by kernel_rfl
theorem sz2 : ∀ w, (Go.sizeOf 2).run Tryd.prog w = .ok 1 w := fun _ => by kernel_rfl
theorem sz9 : ∀ w, (Go.sizeOf 9).run Tryd.prog w = .ok 1 w := fun _ => by kernel_rfl
theorem sz52 : ∀ w, (Go.sizeOf 52).run Tryd.prog w = .ok 5 w := fun _ => by kernel_rfl
theorem zero52 : Zero Tryd.prog 52 [(pEq (.string ByteArray.empty)), (pEq (.int .i64 (0 : Int))), (pEq (.int .i64 (0 : Int))), (pEq (.int .i64 (0 : Int))), (pEq (.int .i64 (0 : Int)))] := ⟨(.agg #[.string ByteArray.empty, .int .i64 0, .int .i64 0, .int .i64 0, .int .i64 0]), [.string ByteArray.empty, .int .i64 0, .int .i64 0, .int .i64 0, .int .i64 0], fun _ => by kernel_rfl, rfl, fun _ _ => ⟨rfl, ⟨rfl, ⟨rfl, ⟨rfl, ⟨rfl, trivial⟩⟩⟩⟩⟩⟩
theorem zero84 : Zero Tryd.prog 84 ((cArr (cK .i64)) (List.replicate 4 (0 : Int))) := ⟨(.agg #[.int .i64 0, .int .i64 0, .int .i64 0, .int .i64 0]), [.int .i64 0, .int .i64 0, .int .i64 0, .int .i64 0], fun _ => by kernel_rfl, rfl, fun _ _ => ⟨rfl, ⟨rfl, ⟨rfl, ⟨rfl, trivial⟩⟩⟩⟩⟩
theorem bl52 : ∀ ps, Tryd.prog.built 52 ps = Instr.fill (fun x => (#[(0, 1), (1, 1), (2, 1), (3, 1), (4, 1)] : Array (Nat × Nat))[x]?) (List.toArray [.string ByteArray.empty, .int .i64 0, .int .i64 0, .int .i64 0, .int .i64 0]) ps := fun _ => by kernel_rfl
theorem bz52 : ∀ I w, Vals I w [(pEq (.string ByteArray.empty)), (pEq (.int .i64 (0 : Int))), (pEq (.int .i64 (0 : Int))), (pEq (.int .i64 (0 : Int))), (pEq (.int .i64 (0 : Int)))] [.string ByteArray.empty, .int .i64 0, .int .i64 0, .int .i64 0, .int .i64 0] := fun _ _ => ⟨rfl, ⟨rfl, ⟨rfl, ⟨rfl, ⟨rfl, trivial⟩⟩⟩⟩⟩
theorem bz52o : ∀ I w, Vals I w [(pEq (.string ByteArray.empty)), (pEq (.int .i64 (0 : Int))), (pEq (.int .i64 (0 : Int))), (pEq (.int .i64 (0 : Int))), (pEq (.int .i64 (0 : Int)))] [.string ByteArray.empty, .int .i64 0, .int .i64 0, .int .i64 0, .int .i64 0] := fun _ _ => ⟨rfl, ⟨rfl, ⟨rfl, ⟨rfl, ⟨rfl, trivial⟩⟩⟩⟩⟩
theorem el2i : (Tryd.prog.info? 2).map (fun i => (i.zero, i.size, i.bytes)) = some (some (.int .i64 0), 1, 8) := by kernel_rfl
theorem el2 : Elem Tryd.prog 2 1 8 (cK .i64) (0 : Int) := by
  obtain ⟨i, h1, h2, h3, h4⟩ := info_parts el2i
  exact ⟨i, (.int .i64 0), [.int .i64 0], h1, h2, h3, h4, rfl, rfl, by decide, fun _ _ => ⟨rfl, trivial⟩, fun _ => rfl, fun _ _ _ _ h => ones_of ((OneCs.cons OneC.int OneCs.nil)) h⟩
theorem el9i : (Tryd.prog.info? 9).map (fun i => (i.zero, i.size, i.bytes)) = some (some (.string ByteArray.empty), 1, 16) := by kernel_rfl
theorem el9 : Elem Tryd.prog 9 1 16 cS ByteArray.empty := by
  obtain ⟨i, h1, h2, h3, h4⟩ := info_parts el9i
  exact ⟨i, (.string ByteArray.empty), [.string ByteArray.empty], h1, h2, h3, h4, rfl, rfl, by decide, fun _ _ => ⟨rfl, trivial⟩, fun _ => rfl, fun _ _ _ _ h => ones_of ((OneCs.cons OneC.str OneCs.nil)) h⟩
section
open Go.Shelf
def join61_ren : Go.Shelf.Ren := ⟨fun | 156 => 61 | 165 => 95 | 166 => 96 | 169 => 97 | 240 => 115 | 241 => 116 | 276 => 127 | 277 => 128 | n => n, fun | 31 => 79 | 9 => 9 | 3 => 3 | 4 => 4 | 0 => 0 | 20 => 20 | 72 => 95 | 76 => 99 | 70 => 92 | 37 => 93 | 75 => 98 | 127 => 116 | 164 => 122 | 5 => 5 | 80 => 101 | n => n, fun | n => n⟩
theorem join61 : Go.Proofs.Lays.n156 Tryd.prog join61_ren := {
  mixed := by kernel_rfl
  f156 := Tryd.func61.trans (congrArg some (by kernel_rfl))
  f165 := Tryd.func95.trans (congrArg some (by kernel_rfl))
  f166 := Tryd.func96.trans (congrArg some (by kernel_rfl))
  f169 := Tryd.func97.trans (congrArg some (by kernel_rfl))
  f240 := Tryd.func115.trans (congrArg some (by kernel_rfl))
  f241 := Tryd.func116.trans (congrArg some (by kernel_rfl))
  f276 := Tryd.func127.trans (congrArg some (by kernel_rfl))
  f277 := Tryd.func128.trans (congrArg some (by kernel_rfl))
  t0 := Tryd.underlying0
  a0 := Tryd.isAgg0
  z0 := Tryd.sizeOf0
  v0 := Tryd.zeroValue0
  t3 := Tryd.underlying3
  a3 := Tryd.isAgg3
  z3 := Tryd.sizeOf3
  v3 := Tryd.zeroValue3
  t4 := Tryd.underlying4
  a4 := Tryd.isAgg4
  z4 := Tryd.sizeOf4
  v4 := Tryd.zeroValue4
  t9 := Tryd.underlying9
  a9 := Tryd.isAgg9
  z9 := Tryd.sizeOf9
  v9 := Tryd.zeroValue9
  t20 := Tryd.underlying20
  a20 := Tryd.isAgg20
  z20 := Tryd.sizeOf20
  v20 := Tryd.zeroValue20
  t31 := Tryd.underlying79
  a31 := Tryd.isAgg79
  z31 := Tryd.sizeOf79
  v31 := Tryd.zeroValue79
  t37 := Tryd.underlying93
  a37 := Tryd.isAgg93
  z37 := Tryd.sizeOf93
  v37 := Tryd.zeroValue93
  t70 := Tryd.underlying92
  a70 := Tryd.isAgg92
  z70 := Tryd.sizeOf92
  v70 := Tryd.zeroValue92
  t72 := Tryd.underlying95
  a72 := Tryd.isAgg95
  z72 := Tryd.sizeOf95
  v72 := Tryd.zeroValue95
  t75 := Tryd.underlying98
  a75 := Tryd.isAgg98
  z75 := Tryd.sizeOf98
  v75 := Tryd.zeroValue98
  t76 := Tryd.underlying99
  a76 := Tryd.isAgg99
  z76 := Tryd.sizeOf99
  v76 := Tryd.zeroValue99
  t127 := Tryd.underlying116
  a127 := Tryd.isAgg116
  z127 := Tryd.sizeOf116
  v127 := Tryd.zeroValue116
  t164 := Tryd.underlying122
  a164 := Tryd.isAgg122
  z164 := Tryd.sizeOf122
  v164 := Tryd.zeroValue122 }
end
theorem joinX61 : Go.Proofs.Builder.Extra Tryd.prog join61_ren := {
  sizeBuilder := by kernel_rfl
  liesBuilder := by kernel_rfl
  t5 := Tryd.underlying5
  a5 := Tryd.isAgg5
  z5 := Tryd.sizeOf5
  v5 := Tryd.zeroValue5
  infoByte := by kernel_rfl
  cellsByte := by kernel_rfl
  sizeByte := by kernel_rfl
  neB5 := by decide }
theorem joinAt61 : JoinAt Tryd.prog 61 := Go.Proofs.Any.strings_Join join61 joinX61
theorem joinNone61 : JoinNone Tryd.prog 61 := Go.Proofs.Any.strings_Join_none join61 joinX61

section
open Go.Shelf
def split65_ren : Go.Shelf.Ren := ⟨fun | 146 => 65 | 221 => 100 | 268 => 118 | 138 => 119 | 143 => 120 | 195 => 133 | 197 => 134 | 218 => 135 | 219 => 136 | 260 => 148 | 217 => 149 | 225 => 150 | 224 => 151 | 267 => 152 | 266 => 160 | 314 => 161 | n => n, fun | 9 => 9 | 31 => 79 | 3 => 3 | 4 => 4 | 0 => 0 | 105 => 133 | 21 => 21 | 5 => 5 | 46 => 139 | 119 => 157 | 139 => 160 | 138 => 159 | 146 => 161 | 51 => 147 | n => n, fun | 1 => 0 | 3 => 4 | 4 => 5 | n => n⟩
theorem split65 : Go.Proofs.Lays.n146 Tryd.prog split65_ren := {
  mixed := by kernel_rfl
  f138 := Tryd.func119.trans (congrArg some (by kernel_rfl))
  f143 := Tryd.func120.trans (congrArg some (by kernel_rfl))
  f146 := Tryd.func65.trans (congrArg some (by kernel_rfl))
  f195 := Tryd.func133.trans (congrArg some (by kernel_rfl))
  f197 := Tryd.func134.trans (congrArg some (by kernel_rfl))
  f217 := Tryd.func149.trans (congrArg some (by kernel_rfl))
  f218 := Tryd.func135.trans (congrArg some (by kernel_rfl))
  f219 := Tryd.func136.trans (congrArg some (by kernel_rfl))
  f221 := Tryd.func100.trans (congrArg some (by kernel_rfl))
  f224 := Tryd.func151.trans (congrArg some (by kernel_rfl))
  f225 := Tryd.func150.trans (congrArg some (by kernel_rfl))
  f260 := Tryd.func148.trans (congrArg some (by kernel_rfl))
  f266 := Tryd.func160.trans (congrArg some (by kernel_rfl))
  f267 := Tryd.func152.trans (congrArg some (by kernel_rfl))
  f268 := Tryd.func118.trans (congrArg some (by kernel_rfl))
  f314 := Tryd.func161.trans (congrArg some (by kernel_rfl))
  t0 := Tryd.underlying0
  a0 := Tryd.isAgg0
  z0 := Tryd.sizeOf0
  v0 := Tryd.zeroValue0
  t3 := Tryd.underlying3
  a3 := Tryd.isAgg3
  z3 := Tryd.sizeOf3
  v3 := Tryd.zeroValue3
  t4 := Tryd.underlying4
  a4 := Tryd.isAgg4
  z4 := Tryd.sizeOf4
  v4 := Tryd.zeroValue4
  t5 := Tryd.underlying5
  a5 := Tryd.isAgg5
  z5 := Tryd.sizeOf5
  v5 := Tryd.zeroValue5
  t9 := Tryd.underlying9
  a9 := Tryd.isAgg9
  z9 := Tryd.sizeOf9
  v9 := Tryd.zeroValue9
  t21 := Tryd.underlying21
  a21 := Tryd.isAgg21
  z21 := Tryd.sizeOf21
  v21 := Tryd.zeroValue21
  t31 := Tryd.underlying79
  a31 := Tryd.isAgg79
  z31 := Tryd.sizeOf79
  v31 := Tryd.zeroValue79
  t46 := Tryd.underlying139
  a46 := Tryd.isAgg139
  z46 := Tryd.sizeOf139
  v46 := Tryd.zeroValue139
  t51 := Tryd.underlying147
  a51 := Tryd.isAgg147
  z51 := Tryd.sizeOf147
  v51 := Tryd.zeroValue147
  t105 := Tryd.underlying133
  a105 := Tryd.isAgg133
  z105 := Tryd.sizeOf133
  v105 := Tryd.zeroValue133
  t119 := Tryd.underlying157
  a119 := Tryd.isAgg157
  z119 := Tryd.sizeOf157
  t138 := Tryd.underlying159
  a138 := Tryd.isAgg159
  z138 := Tryd.sizeOf159
  v138 := Tryd.zeroValue159
  t139 := Tryd.underlying160
  a139 := Tryd.isAgg160
  z139 := Tryd.sizeOf160
  v139 := Tryd.zeroValue160
  t146 := Tryd.underlying161
  a146 := Tryd.isAgg161
  z146 := Tryd.sizeOf161
  v146 := Tryd.zeroValue161
  g1 := by kernel_rfl
  g3 := by kernel_rfl
  g4 := by kernel_rfl }
end
theorem splitAt65 : SplitAt Tryd.prog 65 (split65_ren.g 1) (split65_ren.t 9) := fun s sep m w hs hm h1 => Go.Proofs.Any.strings_Split split65 (by kernel_rfl) s sep m w hs hm h1

section
open Go.Shelf
def lays98_ren : Go.Shelf.Ren := ⟨fun | 173 => 98 | 246 => 117 | 283 => 129 | 284 => 130 | 285 => 131 | 286 => 132 | 129 => 144 | 317 => 143 | 318 => 145 | 319 => 146 | 320 => 147 | 337 => 158 | 338 => 159 | n => n, fun | 2 => 2 | 3 => 3 | 9 => 9 | 4 => 4 | 171 => 126 | 0 => 0 | 53 => 127 | 37 => 93 | 5 => 5 | 173 => 130 | 212 => 146 | 51 => 147 | 20 => 20 | 213 => 148 | 46 => 139 | 232 => 166 | 233 => 167 | n => n, fun | 17 => 1 | 18 => 6 | 19 => 7 | n => n⟩
theorem lays98 : Go.Proofs.LaysM.n173 Tryd.prog lays98_ren := {
  mixed := by kernel_rfl
  f129 := Tryd.func144.trans (congrArg some (by kernel_rfl))
  f173 := Tryd.func98.trans (congrArg some (by kernel_rfl))
  f246 := Tryd.func117.trans (congrArg some (by kernel_rfl))
  f283 := Tryd.func129.trans (congrArg some (by kernel_rfl))
  f284 := Tryd.func130.trans (congrArg some (by kernel_rfl))
  f285 := Tryd.func131.trans (congrArg some (by kernel_rfl))
  f286 := Tryd.func132.trans (congrArg some (by kernel_rfl))
  f317 := Tryd.func143.trans (congrArg some (by kernel_rfl))
  f318 := Tryd.func145.trans (congrArg some (by kernel_rfl))
  f319 := Tryd.func146.trans (congrArg some (by kernel_rfl))
  f320 := Tryd.func147.trans (congrArg some (by kernel_rfl))
  f337 := Tryd.func158.trans (congrArg some (by kernel_rfl))
  f338 := Tryd.func159.trans (congrArg some (by kernel_rfl))
  t0 := Tryd.underlying0
  a0 := Tryd.isAgg0
  z0 := Tryd.sizeOf0
  v0 := Tryd.zeroValue0
  t2 := Tryd.underlying2
  a2 := Tryd.isAgg2
  z2 := Tryd.sizeOf2
  v2 := Tryd.zeroValue2
  t3 := Tryd.underlying3
  a3 := Tryd.isAgg3
  z3 := Tryd.sizeOf3
  v3 := Tryd.zeroValue3
  t4 := Tryd.underlying4
  a4 := Tryd.isAgg4
  z4 := Tryd.sizeOf4
  v4 := Tryd.zeroValue4
  t5 := Tryd.underlying5
  a5 := Tryd.isAgg5
  z5 := Tryd.sizeOf5
  v5 := Tryd.zeroValue5
  t9 := Tryd.underlying9
  a9 := Tryd.isAgg9
  z9 := Tryd.sizeOf9
  v9 := Tryd.zeroValue9
  t20 := Tryd.underlying20
  a20 := Tryd.isAgg20
  z20 := Tryd.sizeOf20
  v20 := Tryd.zeroValue20
  t37 := Tryd.underlying93
  a37 := Tryd.isAgg93
  z37 := Tryd.sizeOf93
  v37 := Tryd.zeroValue93
  t46 := Tryd.underlying139
  a46 := Tryd.isAgg139
  z46 := Tryd.sizeOf139
  v46 := Tryd.zeroValue139
  t51 := Tryd.underlying147
  a51 := Tryd.isAgg147
  z51 := Tryd.sizeOf147
  v51 := Tryd.zeroValue147
  t53 := Tryd.underlying127
  a53 := Tryd.isAgg127
  z53 := Tryd.sizeOf127
  v53 := Tryd.zeroValue127
  t171 := Tryd.underlying126
  a171 := Tryd.isAgg126
  z171 := Tryd.sizeOf126
  v171 := Tryd.zeroValue126
  t173 := Tryd.underlying130
  a173 := Tryd.isAgg130
  z173 := Tryd.sizeOf130
  v173 := Tryd.zeroValue130
  t212 := Tryd.underlying146
  a212 := Tryd.isAgg146
  z212 := Tryd.sizeOf146
  v212 := Tryd.zeroValue146
  t213 := Tryd.underlying148
  a213 := Tryd.isAgg148
  z213 := Tryd.sizeOf148
  t232 := Tryd.underlying166
  a232 := Tryd.isAgg166
  z232 := Tryd.sizeOf166
  v232 := Tryd.zeroValue166
  t233 := Tryd.underlying167
  a233 := Tryd.isAgg167
  z233 := Tryd.sizeOf167
  v233 := Tryd.zeroValue167
  g17 := by kernel_rfl
  g18 := by kernel_rfl
  g19 := by kernel_rfl
  i0 := by kernel_rfl
  i2 := by kernel_rfl
  i3 := by kernel_rfl
  i4 := by kernel_rfl
  i5 := by kernel_rfl
  i9 := by kernel_rfl
  i20 := by kernel_rfl
  i37 := by kernel_rfl
  i46 := by kernel_rfl
  i51 := by kernel_rfl
  i53 := by kernel_rfl
  i171 := by kernel_rfl
  i173 := by kernel_rfl
  i212 := by kernel_rfl
  i232 := by kernel_rfl
  i233 := by kernel_rfl
  m17 := by kernel_rfl
  m18 := by kernel_rfl
  m19 := by kernel_rfl }
end


section
open Go.Shelf
def parse101_ren : Go.Shelf.Ren := ⟨fun | 174 => 101 | 247 => 121 | 245 => 122 | 287 => 137 | 279 => 138 | 280 => 139 | 281 => 140 | 282 => 141 | 321 => 153 | 322 => 154 | 316 => 155 | 171 => 157 | 205 => 156 | 243 => 162 | 246 => 117 | 283 => 129 | 284 => 130 | 285 => 131 | 286 => 132 | 129 => 144 | 317 => 143 | 318 => 145 | 319 => 146 | 320 => 147 | 337 => 158 | 338 => 159 | n => n, fun | 9 => 9 | 3 => 3 | 2 => 2 | 75 => 98 | 85 => 105 | 4 => 4 | 167 => 136 | 5 => 5 | 53 => 127 | 175 => 137 | 46 => 139 | 168 => 140 | 37 => 93 | 0 => 0 | 210 => 154 | 21 => 21 | 127 => 116 | 145 => 165 | 143 => 163 | 171 => 126 | 173 => 130 | 212 => 146 | 51 => 147 | 20 => 20 | 213 => 148 | 232 => 166 | 233 => 167 | 80 => 101 | n => n, fun | 15 => 2 | 16 => 3 | 17 => 1 | 18 => 6 | 19 => 7 | n => n⟩
theorem parse101 : Go.Proofs.LaysC.n174 Tryd.prog parse101_ren := {
  mixed := by kernel_rfl
  f129 := Tryd.func144.trans (congrArg some (by kernel_rfl))
  f171 := Tryd.func157.trans (congrArg some (by kernel_rfl))
  f174 := Tryd.func101.trans (congrArg some (by kernel_rfl))
  f205 := Tryd.func156.trans (congrArg some (by kernel_rfl))
  f243 := Tryd.func162.trans (congrArg some (by kernel_rfl))
  f245 := Tryd.func122.trans (congrArg some (by kernel_rfl))
  f246 := Tryd.func117.trans (congrArg some (by kernel_rfl))
  f247 := Tryd.func121.trans (congrArg some (by kernel_rfl))
  f279 := Tryd.func138.trans (congrArg some (by kernel_rfl))
  f280 := Tryd.func139.trans (congrArg some (by kernel_rfl))
  f281 := Tryd.func140.trans (congrArg some (by kernel_rfl))
  f282 := Tryd.func141.trans (congrArg some (by kernel_rfl))
  f283 := Tryd.func129.trans (congrArg some (by kernel_rfl))
  f284 := Tryd.func130.trans (congrArg some (by kernel_rfl))
  f285 := Tryd.func131.trans (congrArg some (by kernel_rfl))
  f286 := Tryd.func132.trans (congrArg some (by kernel_rfl))
  f287 := Tryd.func137.trans (congrArg some (by kernel_rfl))
  f316 := Tryd.func155.trans (congrArg some (by kernel_rfl))
  f317 := Tryd.func143.trans (congrArg some (by kernel_rfl))
  f318 := Tryd.func145.trans (congrArg some (by kernel_rfl))
  f319 := Tryd.func146.trans (congrArg some (by kernel_rfl))
  f320 := Tryd.func147.trans (congrArg some (by kernel_rfl))
  f321 := Tryd.func153.trans (congrArg some (by kernel_rfl))
  f322 := Tryd.func154.trans (congrArg some (by kernel_rfl))
  f337 := Tryd.func158.trans (congrArg some (by kernel_rfl))
  f338 := Tryd.func159.trans (congrArg some (by kernel_rfl))
  t0 := Tryd.underlying0
  a0 := Tryd.isAgg0
  z0 := Tryd.sizeOf0
  v0 := Tryd.zeroValue0
  t2 := Tryd.underlying2
  a2 := Tryd.isAgg2
  z2 := Tryd.sizeOf2
  v2 := Tryd.zeroValue2
  t3 := Tryd.underlying3
  a3 := Tryd.isAgg3
  z3 := Tryd.sizeOf3
  v3 := Tryd.zeroValue3
  t4 := Tryd.underlying4
  a4 := Tryd.isAgg4
  z4 := Tryd.sizeOf4
  v4 := Tryd.zeroValue4
  t5 := Tryd.underlying5
  a5 := Tryd.isAgg5
  z5 := Tryd.sizeOf5
  v5 := Tryd.zeroValue5
  t9 := Tryd.underlying9
  a9 := Tryd.isAgg9
  z9 := Tryd.sizeOf9
  v9 := Tryd.zeroValue9
  t20 := Tryd.underlying20
  a20 := Tryd.isAgg20
  z20 := Tryd.sizeOf20
  v20 := Tryd.zeroValue20
  t21 := Tryd.underlying21
  a21 := Tryd.isAgg21
  z21 := Tryd.sizeOf21
  v21 := Tryd.zeroValue21
  t37 := Tryd.underlying93
  a37 := Tryd.isAgg93
  z37 := Tryd.sizeOf93
  v37 := Tryd.zeroValue93
  t46 := Tryd.underlying139
  a46 := Tryd.isAgg139
  z46 := Tryd.sizeOf139
  v46 := Tryd.zeroValue139
  t51 := Tryd.underlying147
  a51 := Tryd.isAgg147
  z51 := Tryd.sizeOf147
  v51 := Tryd.zeroValue147
  t53 := Tryd.underlying127
  a53 := Tryd.isAgg127
  z53 := Tryd.sizeOf127
  v53 := Tryd.zeroValue127
  t75 := Tryd.underlying98
  a75 := Tryd.isAgg98
  z75 := Tryd.sizeOf98
  v75 := Tryd.zeroValue98
  t85 := Tryd.underlying105
  a85 := Tryd.isAgg105
  z85 := Tryd.sizeOf105
  v85 := Tryd.zeroValue105
  t127 := Tryd.underlying116
  a127 := Tryd.isAgg116
  z127 := Tryd.sizeOf116
  v127 := Tryd.zeroValue116
  t143 := Tryd.underlying163
  a143 := Tryd.isAgg163
  z143 := Tryd.sizeOf163
  v143 := Tryd.zeroValue163
  t145 := Tryd.underlying165
  a145 := Tryd.isAgg165
  z145 := Tryd.sizeOf165
  v145 := Tryd.zeroValue165
  t167 := Tryd.underlying136
  a167 := Tryd.isAgg136
  z167 := Tryd.sizeOf136
  v167 := Tryd.zeroValue136
  t168 := Tryd.underlying140
  a168 := Tryd.isAgg140
  z168 := Tryd.sizeOf140
  v168 := Tryd.zeroValue140
  t171 := Tryd.underlying126
  a171 := Tryd.isAgg126
  z171 := Tryd.sizeOf126
  v171 := Tryd.zeroValue126
  t173 := Tryd.underlying130
  a173 := Tryd.isAgg130
  z173 := Tryd.sizeOf130
  v173 := Tryd.zeroValue130
  t175 := Tryd.underlying137
  a175 := Tryd.isAgg137
  z175 := Tryd.sizeOf137
  v175 := Tryd.zeroValue137
  t210 := Tryd.underlying154
  a210 := Tryd.isAgg154
  z210 := Tryd.sizeOf154
  v210 := Tryd.zeroValue154
  t212 := Tryd.underlying146
  a212 := Tryd.isAgg146
  z212 := Tryd.sizeOf146
  v212 := Tryd.zeroValue146
  t213 := Tryd.underlying148
  a213 := Tryd.isAgg148
  z213 := Tryd.sizeOf148
  t232 := Tryd.underlying166
  a232 := Tryd.isAgg166
  z232 := Tryd.sizeOf166
  v232 := Tryd.zeroValue166
  t233 := Tryd.underlying167
  a233 := Tryd.isAgg167
  z233 := Tryd.sizeOf167
  v233 := Tryd.zeroValue167
  g15 := by kernel_rfl
  g16 := by kernel_rfl
  g17 := by kernel_rfl
  g18 := by kernel_rfl
  g19 := by kernel_rfl
  t80 := Tryd.underlying101
  a80 := Tryd.isAgg101
  z80 := Tryd.sizeOf101
  v80 := Tryd.zeroValue101
  i0 := by kernel_rfl
  i2 := by kernel_rfl
  i3 := by kernel_rfl
  i4 := by kernel_rfl
  i5 := by kernel_rfl
  i9 := by kernel_rfl
  i20 := by kernel_rfl
  i21 := by kernel_rfl
  i37 := by kernel_rfl
  i46 := by kernel_rfl
  i51 := by kernel_rfl
  i53 := by kernel_rfl
  i75 := by kernel_rfl
  i80 := by kernel_rfl
  i85 := by kernel_rfl
  i127 := by kernel_rfl
  i143 := by kernel_rfl
  i145 := by kernel_rfl
  i167 := by kernel_rfl
  i168 := by kernel_rfl
  i171 := by kernel_rfl
  i173 := by kernel_rfl
  i175 := by kernel_rfl
  i210 := by kernel_rfl
  i212 := by kernel_rfl
  i232 := by kernel_rfl
  i233 := by kernel_rfl
  m15 := by kernel_rfl
  m16 := by kernel_rfl
  m17 := by kernel_rfl
  m18 := by kernel_rfl
  m19 := by kernel_rfl
  c0 := by kernel_rfl
  c2 := by kernel_rfl
  c3 := by kernel_rfl
  c4 := by kernel_rfl
  c5 := by kernel_rfl
  c9 := by kernel_rfl
  c20 := by kernel_rfl
  c21 := by kernel_rfl
  c37 := by kernel_rfl
  c46 := by kernel_rfl
  c51 := by kernel_rfl
  c53 := by kernel_rfl
  c75 := by kernel_rfl
  c80 := by kernel_rfl
  c85 := by kernel_rfl
  c127 := by kernel_rfl
  c143 := by kernel_rfl
  c145 := by kernel_rfl
  c167 := by kernel_rfl
  c168 := by kernel_rfl
  c171 := by kernel_rfl
  c173 := by kernel_rfl
  c175 := by kernel_rfl
  c210 := by kernel_rfl
  c212 := by kernel_rfl
  c213 := by kernel_rfl
  c232 := by kernel_rfl
  c233 := by kernel_rfl }
end
theorem parseOk101 : ParseOk Tryd.prog 101 (parse101_ren.t 5) := fun s hs v hv w => Go.Proofs.Any.strconv_ParseInt_10_at64_ok parse101 s hs v hv w
theorem parseSyn101 : ParseNot Tryd.prog 101 (parse101_ren.g 15) (parse101_ren.t 168) .syntax (fun _ => 0) := fun s hs hp ev w h1 h2 => (Go.Proofs.Any.strconv_ParseInt_10_at64_syntax parse101 s hs hp ev w h1 h2).mono fun e w' ⟨N, he, _, _, hb⟩ => ⟨N, he, hb⟩
theorem parseRng101 : ParseNot Tryd.prog 101 (parse101_ren.g 16) (parse101_ren.t 168) .range (fun s => Go.Lib.intSat 64 s.data.toList) := fun s hs hp ev w h1 h2 => (Go.Proofs.Any.strconv_ParseInt_10_at64_range parse101 s hs hp ev w h1 h2).mono fun e w' ⟨N, he, _, _, hb⟩ => ⟨N, he, hb⟩

section
open Go.Shelf
def trim102_ren : Go.Shelf.Ren := ⟨fun | 101 => 102 | 208 => 123 | 206 => 142 | n => n, fun | 9 => 9 | 4 => 4 | 3 => 3 | n => n, fun | n => n⟩
theorem trim102 : Go.Proofs.Lays.n101 Tryd.prog trim102_ren := {
  mixed := by kernel_rfl
  f101 := Tryd.func102.trans (congrArg some (by kernel_rfl))
  f206 := Tryd.func142.trans (congrArg some (by kernel_rfl))
  f208 := Tryd.func123.trans (congrArg some (by kernel_rfl))
  t3 := Tryd.underlying3
  a3 := Tryd.isAgg3
  z3 := Tryd.sizeOf3
  v3 := Tryd.zeroValue3
  t4 := Tryd.underlying4
  a4 := Tryd.isAgg4
  z4 := Tryd.sizeOf4
  v4 := Tryd.zeroValue4
  t9 := Tryd.underlying9
  a9 := Tryd.isAgg9
  z9 := Tryd.sizeOf9
  v9 := Tryd.zeroValue9 }
end
theorem trimAt102 : TrimAt Tryd.prog 102 := Go.Proofs.Any.strings_TrimPrefix trim102


theorem o_spec_l01Split {s_0 : ByteArray} {by_1 : Int}  {r : (List ByteArray)} (h : m_spec_l01Split s_0 by_1 = some r) : CallH Tryd.prog 63 [(pEq (.string s_0)), (pEq (.int .u8 by_1))] [] (fun g : G3 => (pEq (.slice g.1 g.2.1 g.2.2))) (fun g : G3 => [oSl 9 1 cS g.1 g.2.1 g.2.2 r]) := by
  unfold m_spec_l01Split at h
  refine CallH.enter Tryd.func63 rfl Tryd.ntmps63 rfl fun W I0 H => ?_
  refine Tr.weak (Γ' := [(0, (pEq (.string s_0))), (1, (pEq (.int .u8 by_1)))]) ⟨rfl, rfl, trivial⟩ ?_
  refine Tr.seq ?_
  refine Tr.region ?_
  refine RegL.pure (p := (pEq (.slice none 0 0))) rfl rfl rfl (J_assign rfl Opd.con) ?_
  refine RegL.nil ?_
  refine Ct.then_tr ?_
  refine Tr.weak (Γ' := [(0, (pEq (.string s_0))), (1, (pEq (.int .u8 by_1)))]) ⟨rfl, rfl, trivial⟩ ?_
  refine Tr.seq ?_
  refine Tr.region ?_
  refine RegL.step (γ := Option Addr) (p := fun a => pEq (.slice a 0 0)) (Ω' := fun a => [oSl 9 1 cS a 0 0 ([] : (List ByteArray))]) rfl rfl rfl (M_buildSlice (qss := []) rfl Tryd.underlying79 el9 rfl Parts.nil rfl rfl) fun o2 => ?_
  refine RegL.pure (p := (pEq (.slice o2 0 0))) rfl rfl rfl (J_assign rfl (Opd.tmp rfl)) ?_
  refine RegL.nil ?_
  refine Ct.then_tr ?_
  refine Tr.weak (Γ' := [(0, (pEq (.string s_0))), (1, (pEq (.int .u8 by_1))), (5, (pEq (.slice o2 0 0)))]) ⟨rfl, rfl, rfl, trivial⟩ ?_
  refine Tr.seq ?_
  refine Tr.region ?_
  refine RegL.pure (p := (pEq (.int .i64 (0 : Int)))) rfl rfl rfl (J_assign rfl Opd.con) ?_
  refine RegL.nil ?_
  refine Ct.then_tr ?_
  refine Tr.weak (Γ' := [(0, (pEq (.string s_0))), (1, (pEq (.int .u8 by_1))), (5, (pEq (.slice o2 0 0))), (6, (pEq (.int .i64 (0 : Int))))]) ⟨rfl, rfl, rfl, rfl, trivial⟩ ?_
  refine Tr.seq ?_
  refine Tr.seq ?_
  refine Tr.region ?_
  refine RegL.pure (p := (pEq (.int .i64 (0 : Int)))) rfl rfl rfl (J_assign rfl Opd.con) ?_
  refine RegL.nil ?_
  refine Ct.then_tr ?_
  refine Tr.weak (Γ' := [(0, (pEq (.string s_0))), (1, (pEq (.int .u8 by_1))), (5, (pEq (.slice o2 0 0))), (6, (pEq (.int .i64 (0 : Int)))), (7, (pEq (.int .i64 (0 : Int))))]) ⟨rfl, rfl, rfl, rfl, rfl, trivial⟩ ?_
  replace h := bind_some h; obtain ⟨x3, hx3, h⟩ := h
  refine Tr.cut (γ := G3) (Γm := fun g => [(0, (pEq (.string s_0))), (5, (pEq (.slice g.1 g.2.1 g.2.2))), (6, (pEq (.int .i64 x3.1)))]) (Ωm := fun g => [oSl 9 1 cS g.1 g.2.1 g.2.2 x3.2]) ?_ (fun g15 => ?_)
  · clear h
    have h := hx3
    clear hx3
    refine Tr.block ?_
    refine Tr.weak (Γ' := [(0, (pEq (.string s_0))), (1, (pEq (.int .u8 by_1))), (5, (pEq (.slice o2 0 0))), (6, (pEq (.int .i64 (0 : Int)))), (7, (pEq (.int .i64 (0 : Int))))]) ⟨rfl, rfl, rfl, rfl, rfl, trivial⟩ ?_
    refine Tr.loop (γ := G3) (σ := (Int × Int × (List ByteArray))) (Γσ := fun s g => [(0, (pEq (.string s_0))), (1, (pEq (.int .u8 by_1))), (5, (pEq (.slice g.1 g.2.1 g.2.2))), (6, (pEq (.int .i64 s.1))), (7, (pEq (.int .i64 s.2.1)))]) (Ωσ := fun s g => [oSl 9 1 cS g.1 g.2.1 g.2.2 s.2.2]) (g := (o2, 0, 0)) h ?_
    clear h
    rintro ⟨v5, v6, v7⟩ g8 t h
    replace h : m_spec_l01Split_B4 s_0 by_1 v5 v6 v7 = some t := h
    unfold m_spec_l01Split_B4 at h
    refine Tr.weakO (Γ' := [(0, (pEq (.string s_0))), (1, (pEq (.int .u8 by_1))), (5, (pEq (.slice g8.1 g8.2.1 g8.2.2))), (6, (pEq (.int .i64 v5))), (7, (pEq (.int .i64 v6)))]) (Ω' := [oSl 9 1 cS g8.1 g8.2.1 g8.2.2 v7]) rfl ⟨rfl, rfl, rfl, rfl, rfl, trivial⟩ ?_
    refine Tr.seq ?_
    refine Tr.seq ?_
    refine Tr.region ?_
    refine RegL.pure (p := (pEq (.int .i64 v6))) rfl rfl rfl (J_move rfl (Opd.tmp rfl)) ?_
    refine RegL.pure (p := (pEq (.string s_0))) rfl rfl rfl (J_move rfl (Opd.tmp rfl)) ?_
    refine RegL.pure (p := (pEq (.int .i64 (s_0.size : Int)))) rfl rfl rfl (J_slen rfl Tryd.underlying9 (Opd.tmp rfl) rfl) ?_
    refine RegL.pure (p := (pEq (.bool (decide (v6 < (s_0.size : Int)))))) rfl rfl rfl (J_bin rfl (Opd.tmp rfl) (Opd.tmp rfl) B_lss) ?_
    refine RegL.nil ?_
    refine Ct.then_tr ?_
    refine Tr.weak (Γ' := [(0, (pEq (.string s_0))), (1, (pEq (.int .u8 by_1))), (5, (pEq (.slice g8.1 g8.2.1 g8.2.2))), (6, (pEq (.int .i64 v5))), (7, (pEq (.int .i64 v6))), (12, (pEq (.bool (decide (v6 < (s_0.size : Int))))))]) ⟨rfl, rfl, rfl, rfl, rfl, rfl, trivial⟩ ?_
    refine Tr.cond (Opd.tmp rfl) (fun hc => ?_) (fun hc => ?_)
    · replace h := bif_t hc h
      refine Tr.skip ?_
      refine Ct.then_tr ?_
      refine Tr.weak (Γ' := [(0, (pEq (.string s_0))), (1, (pEq (.int .u8 by_1))), (5, (pEq (.slice g8.1 g8.2.1 g8.2.2))), (6, (pEq (.int .i64 v5))), (7, (pEq (.int .i64 v6)))]) ⟨rfl, rfl, rfl, rfl, rfl, trivial⟩ ?_
      refine Tr.seq ?_
      refine Tr.block ?_
      refine Tr.seq ?_
      refine Tr.region ?_
      refine RegL.pure (p := (pEq (.string s_0))) rfl rfl rfl (J_move rfl (Opd.tmp rfl)) ?_
      refine RegL.pure (p := (pEq (.int .i64 v6))) rfl rfl rfl (J_move rfl (Opd.tmp rfl)) ?_
      replace h := bind_some h; obtain ⟨y9, hy9, h⟩ := h
      refine RegL.pure (p := (pEq (.int .u8 (y9.toNat : Int)))) rfl rfl rfl (J_sidx rfl Tryd.underlying9 (Opd.tmp rfl) (Opd.tmp rfl) hy9) ?_
      refine RegL.pure (p := (pEq (.int .u8 by_1))) rfl rfl rfl (J_move rfl (Opd.tmp rfl)) ?_
      refine RegL.pure (p := (pEq (.bool ((y9.toNat : Int) == by_1)))) rfl rfl rfl (J_bin rfl (Opd.tmp rfl) (Opd.tmp rfl) B_eql) ?_
      refine RegL.nil ?_
      refine Ct.then_tr ?_
      refine Tr.weak (Γ' := [(0, (pEq (.string s_0))), (1, (pEq (.int .u8 by_1))), (5, (pEq (.slice g8.1 g8.2.1 g8.2.2))), (6, (pEq (.int .i64 v5))), (7, (pEq (.int .i64 v6))), (19, (pEq (.bool ((y9.toNat : Int) == by_1))))]) ⟨rfl, rfl, rfl, rfl, rfl, rfl, trivial⟩ ?_
      replace h := bind_some h; obtain ⟨x10, hx10, h⟩ := h
      refine Tr.cut (γ := G3) (Γm := fun g => [(0, (pEq (.string s_0))), (1, (pEq (.int .u8 by_1))), (5, (pEq (.slice g.1 g.2.1 g.2.2))), (6, (pEq (.int .i64 x10.1))), (7, (pEq (.int .i64 v6)))]) (Ωm := fun g => [oSl 9 1 cS g.1 g.2.1 g.2.2 x10.2]) ?_ (fun g14 => ?_)
      · clear h
        have h := hx10
        clear hx10
        refine Tr.cond (Opd.tmp rfl) (fun hc => ?_) (fun hc => ?_)
        · replace h := bif_t hc h
          refine Tr.seq ?_
          refine Tr.region ?_
          refine RegL.pure (p := (pEq (.slice g8.1 g8.2.1 g8.2.2))) rfl rfl rfl (J_move rfl (Opd.tmp rfl)) ?_
          refine RegL.pure (p := (pEq (.string s_0))) rfl rfl rfl (J_move rfl (Opd.tmp rfl)) ?_
          refine RegL.pure (p := (pEq (.int .i64 v5))) rfl rfl rfl (J_move rfl (Opd.tmp rfl)) ?_
          refine RegL.pure (p := (pEq (.int .i64 v6))) rfl rfl rfl (J_move rfl (Opd.tmp rfl)) ?_
          replace h := bind_some h; obtain ⟨x11, hx11, h⟩ := h
          refine RegL.pure (p := (pEq (.string x11))) rfl rfl rfl (J_strSlice rfl Tryd.underlying9 (Opd.tmp rfl) (SOpd.some (Opd.tmp rfl)) (SOpd.some (Opd.tmp rfl)) hx11) ?_
          refine RegL.pure (p := (pSl 1 cS ([x11] : (List ByteArray)))) rfl rfl rfl (J_buildSlice (l := ([x11] : (List ByteArray))) (qss := [(0, cS x11)]) rfl Tryd.underlying79 el9 rfl (Parts.cons (Part.one (Opd.tmp rfl) OneC.str) Parts.nil) rfl rfl) ?_
          replace h := bind_some h; obtain ⟨x12, hx12, h⟩ := h
          refine RegL.step (γ := Option Addr × Nat) (p := fun g => pEq (.slice g.1 x12.length g.2)) (Ω' := fun g => [oSl 9 1 cS g.1 x12.length g.2 x12]) rfl rfl rfl (M_appendI rfl Tryd.underlying79 el9 (Opd.tmp rfl) (Opd.tmp rfl) hx12) fun g13 => ?_
          refine RegL.pure (p := (pEq (.slice g13.1 x12.length g13.2))) rfl rfl rfl (J_assign rfl (Opd.tmp rfl)) ?_
          refine RegL.nil ?_
          refine Ct.then_tr ?_
          refine Tr.weak (Γ' := [(0, (pEq (.string s_0))), (1, (pEq (.int .u8 by_1))), (5, (pEq (.slice g13.1 x12.length g13.2))), (7, (pEq (.int .i64 v6)))]) ⟨rfl, rfl, rfl, rfl, trivial⟩ ?_
          refine Tr.region ?_
          refine RegL.pure (p := (pEq (.int .i64 v6))) rfl rfl rfl (J_move rfl (Opd.tmp rfl)) ?_
          refine RegL.pure (p := (pEq (.int .i64 (w64 (v6 + (1 : Int)))))) rfl rfl rfl (J_bin rfl (Opd.tmp rfl) Opd.con B_add) ?_
          refine RegL.pure (p := (pEq (.int .i64 (w64 (v6 + (1 : Int)))))) rfl rfl rfl (J_assign rfl (Opd.tmp rfl)) ?_
          refine RegL.nil ?_
          replace h := Option.some.inj h; subst h
          exact Ct.mid (g13.1, x12.length, g13.2) rfl ⟨rfl, rfl, rfl, rfl, rfl, trivial⟩
        · replace h := bif_f hc h
          refine Tr.skip ?_
          replace h := Option.some.inj h; subst h
          exact Ct.mid (g8.1, g8.2.1, g8.2.2) rfl ⟨rfl, rfl, rfl, rfl, rfl, trivial⟩
      · clear hx10
        refine Ct.blk_normal ?_
        refine Ct.then_tr ?_
        refine Tr.weak (Γ' := [(0, (pEq (.string s_0))), (1, (pEq (.int .u8 by_1))), (5, (pEq (.slice g14.1 g14.2.1 g14.2.2))), (6, (pEq (.int .i64 x10.1))), (7, (pEq (.int .i64 v6)))]) ⟨rfl, rfl, rfl, rfl, rfl, trivial⟩ ?_
        refine Tr.region ?_
        refine RegL.pure (p := (pEq (.int .i64 v6))) rfl rfl rfl (J_move rfl (Opd.tmp rfl)) ?_
        refine RegL.pure (p := (pEq (.int .i64 (w64 (v6 + (1 : Int)))))) rfl rfl rfl (J_bin rfl (Opd.tmp rfl) Opd.con B_add) ?_
        refine RegL.pure (p := (pEq (.int .i64 (w64 (v6 + (1 : Int)))))) rfl rfl rfl (J_assign rfl (Opd.tmp rfl)) ?_
        refine RegL.nil ?_
        replace h := Option.some.inj h; subst h
        exact Ct.again (g14.1, g14.2.1, g14.2.2) rfl ⟨rfl, rfl, rfl, rfl, rfl, trivial⟩
    · replace h := bif_f hc h
      refine Tr.exit ?_
      refine Ct.then_exit ?_
      replace h := map_some h; obtain ⟨r1, h, rfl⟩ := h
      refine Ct.out_exit fun e => ?_
      subst e
      refine Ct.blk_exit ?_
      replace h := Option.some.inj h; subst h
      exact Ct.mid (g8.1, g8.2.1, g8.2.2) rfl ⟨rfl, rfl, rfl, trivial⟩
  · clear hx3
    refine Ct.then_tr ?_
    refine Tr.weak (Γ' := [(0, (pEq (.string s_0))), (5, (pEq (.slice g15.1 g15.2.1 g15.2.2))), (6, (pEq (.int .i64 x3.1)))]) ⟨rfl, rfl, rfl, trivial⟩ ?_
    refine Tr.seq ?_
    refine Tr.region ?_
    refine RegL.pure (p := (pEq (.slice g15.1 g15.2.1 g15.2.2))) rfl rfl rfl (J_move rfl (Opd.tmp rfl)) ?_
    refine RegL.pure (p := (pEq (.string s_0))) rfl rfl rfl (J_move rfl (Opd.tmp rfl)) ?_
    refine RegL.pure (p := (pEq (.int .i64 x3.1))) rfl rfl rfl (J_move rfl (Opd.tmp rfl)) ?_
    replace h := bind_some h; obtain ⟨x16, hx16, h⟩ := h
    refine RegL.pure (p := (pEq (.string x16))) rfl rfl rfl (J_strSlice rfl Tryd.underlying9 (Opd.tmp rfl) (SOpd.some (Opd.tmp rfl)) SOpd.none hx16) ?_
    refine RegL.pure (p := (pSl 1 cS ([x16] : (List ByteArray)))) rfl rfl rfl (J_buildSlice (l := ([x16] : (List ByteArray))) (qss := [(0, cS x16)]) rfl Tryd.underlying79 el9 rfl (Parts.cons (Part.one (Opd.tmp rfl) OneC.str) Parts.nil) rfl rfl) ?_
    replace h := bind_some h; obtain ⟨x17, hx17, h⟩ := h
    refine RegL.step (γ := Option Addr × Nat) (p := fun g => pEq (.slice g.1 x17.length g.2)) (Ω' := fun g => [oSl 9 1 cS g.1 x17.length g.2 x17]) rfl rfl rfl (M_appendI rfl Tryd.underlying79 el9 (Opd.tmp rfl) (Opd.tmp rfl) hx17) fun g18 => ?_
    refine RegL.pure (p := (pEq (.slice g18.1 x17.length g18.2))) rfl rfl rfl (J_assign rfl (Opd.tmp rfl)) ?_
    refine RegL.nil ?_
    refine Ct.then_tr ?_
    refine Tr.weak (Γ' := [(4, (pEq (.slice g18.1 x17.length g18.2)))]) ⟨rfl, trivial⟩ ?_
    refine Tr.ret ?_
    replace h := Option.some.inj h; subst h
    exact Ct.retH1 (Ωx := []) (g18.1, x17.length, g18.2) rfl (RvOk.tmp rfl) rfl

theorem c_spec_l01Split {s_0 : ByteArray} {by_1 : Int} {r : (List ByteArray)} (h : m_spec_l01Split s_0 by_1 = some r) : CallJ Tryd.prog 63 [(pEq (.string s_0)), (pEq (.int .u8 by_1))] (pSl 1 cS r) :=
  CallH.frozen (o_spec_l01Split h) (fun g => (Conv.row (f := cS) 0 (fun _ => rfl) rfl))

theorem c_spec_l01Digit {c_0 : Int} {r : Bool} (h : m_spec_l01Digit c_0 = some r) : CallJ Tryd.prog 99 [(pEq (.int .u8 c_0))] (pEq (.bool r)) := by
  unfold m_spec_l01Digit at h
  refine CallJ.enterH Tryd.func99 rfl Tryd.ntmps99 rfl fun W I0 H => ?_
  refine Tr.weak (Γ' := [(0, (pEq (.int .u8 c_0)))]) ⟨rfl, trivial⟩ ?_
  refine Tr.seq ?_
  refine Tr.region ?_
  refine RegL.pure (p := (pEq (.bool false))) rfl rfl rfl (J_assign rfl Opd.con) ?_
  refine RegL.nil ?_
  refine Ct.then_tr ?_
  refine Tr.weak (Γ' := [(0, (pEq (.int .u8 c_0)))]) ⟨rfl, trivial⟩ ?_
  refine Tr.seq ?_
  replace h := bind_some h; obtain ⟨x1, hx1, h⟩ := h
  refine Tr.cut (γ := Unit) (Γm := fun g => [(2, (pEq (.bool x1)))]) (Ωm := fun g => []) ?_ (fun g3 => ?_)
  · clear h
    have h := hx1
    clear hx1
    refine Tr.region ?_
    refine RegL.pure (p := (pEq (.int .u8 c_0))) rfl rfl rfl (J_move rfl (Opd.tmp rfl)) ?_
    refine RegL.pure (p := (pEq (.bool (decide ((48 : Int) ≤ c_0))))) rfl rfl rfl (J_bin rfl (Opd.tmp rfl) Opd.con B_geq) ?_
    refine RegL.pure (p := (pEq (.bool (decide ((48 : Int) ≤ c_0))))) rfl rfl rfl (J_move rfl (Opd.tmp rfl)) ?_
    rcases Bool.eq_false_or_eq_true (decide ((48 : Int) ≤ c_0)) with hc2 | hc2
    · replace h := bif_t hc2 h
      refine RegL.pureG (p := (pEq (.int .u8 c_0))) rfl rfl rfl hc2 rfl rfl (J_move rfl (Opd.tmp rfl)) ?_
      refine RegL.pureG (p := (pEq (.bool (decide (c_0 ≤ (57 : Int)))))) rfl rfl rfl hc2 rfl rfl (J_bin rfl (Opd.tmp rfl) Opd.con B_leq) ?_
      refine RegL.pure (p := (pEq (.bool (decide (c_0 ≤ (57 : Int)))))) rfl rfl rfl (J_pick rfl (Opd.tmp rfl) (fun _ => (Opd.tmp rfl)) (fun hf => absurd (hc2.symm.trans hf) (by decide))) ?_
      refine RegL.pure (p := (pEq (.bool (decide (c_0 ≤ (57 : Int)))))) rfl rfl rfl (J_assign rfl (Opd.tmp rfl)) ?_
      refine RegL.nil ?_
      replace h := Option.some.inj h; subst h
      exact Ct.mid () rfl ⟨rfl, trivial⟩
    · replace h := bif_f hc2 h
      refine RegL.skipG rfl rfl rfl hc2 rfl rfl ?_
      refine RegL.skipG rfl rfl rfl hc2 rfl rfl ?_
      refine RegL.pure (p := (pEq (.bool false))) rfl rfl rfl (J_pick rfl (Opd.tmp rfl) (fun hf => absurd (hc2.symm.trans hf) (by decide)) (fun _ => Opd.con)) ?_
      refine RegL.pure (p := (pEq (.bool false))) rfl rfl rfl (J_assign rfl (Opd.tmp rfl)) ?_
      refine RegL.nil ?_
      replace h := Option.some.inj h; subst h
      exact Ct.mid () rfl ⟨rfl, trivial⟩
  · clear hx1
    refine Ct.then_tr ?_
    refine Tr.weak (Γ' := [(2, (pEq (.bool x1)))]) ⟨rfl, trivial⟩ ?_
    refine Tr.ret ?_
    replace h := Option.some.inj h; subst h
    exact Ct.retH1 (Ωx := []) () rfl (RvOk.tmp rfl) rfl

theorem c_spec_l01Number {s_0 : ByteArray} {r : (Int × Bool)} (h : m_spec_l01Number s_0 = some r) : CallJ Tryd.prog 64 [(pEq (.string s_0))] (pTup [(pEq (.int .i64 r.1)), (pEq (.bool r.2))]) := by
  unfold m_spec_l01Number at h
  refine CallJ.enterH Tryd.func64 rfl Tryd.ntmps64 rfl fun W I0 H => ?_
  refine Tr.weak (Γ' := [(0, (pEq (.string s_0)))]) ⟨rfl, trivial⟩ ?_
  refine Tr.seq ?_
  refine Tr.region ?_
  refine RegL.pure (p := (pEq (.int .i64 (0 : Int)))) rfl rfl rfl (J_assign rfl Opd.con) ?_
  refine RegL.pure (p := (pEq (.bool false))) rfl rfl rfl (J_assign rfl Opd.con) ?_
  refine RegL.nil ?_
  refine Ct.then_tr ?_
  refine Tr.weak (Γ' := [(0, (pEq (.string s_0)))]) ⟨rfl, trivial⟩ ?_
  refine Tr.seq ?_
  refine Tr.region ?_
  refine RegL.pure (p := (pEq (.int .i64 (0 : Int)))) rfl rfl rfl (J_assign rfl Opd.con) ?_
  refine RegL.nil ?_
  refine Ct.then_tr ?_
  refine Tr.weak (Γ' := [(0, (pEq (.string s_0))), (4, (pEq (.int .i64 (0 : Int))))]) ⟨rfl, rfl, trivial⟩ ?_
  refine Tr.seq ?_
  refine Tr.seq ?_
  replace h := bind_some h; obtain ⟨x1, hx1, h⟩ := h
  refine Tr.cut (γ := Unit) (Γm := fun g => [(0, (pEq (.string s_0))), (4, (pEq (.int .i64 (0 : Int)))), (14, (pEq (.bool x1)))]) (Ωm := fun g => []) ?_ (fun g4 => ?_)
  · clear h
    have h := hx1
    clear hx1
    refine Tr.region ?_
    refine RegL.pure (p := (pEq (.string s_0))) rfl rfl rfl (J_move rfl (Opd.tmp rfl)) ?_
    refine RegL.pure (p := (pEq (.int .i64 (s_0.size : Int)))) rfl rfl rfl (J_slen rfl Tryd.underlying9 (Opd.tmp rfl) rfl) ?_
    refine RegL.pure (p := (pEq (.bool (decide ((0 : Int) < (s_0.size : Int)))))) rfl rfl rfl (J_bin rfl (Opd.tmp rfl) Opd.con B_gtr) ?_
    refine RegL.pure (p := (pEq (.bool (decide ((0 : Int) < (s_0.size : Int)))))) rfl rfl rfl (J_move rfl (Opd.tmp rfl)) ?_
    rcases Bool.eq_false_or_eq_true (decide ((0 : Int) < (s_0.size : Int))) with hc2 | hc2
    · replace h := bif_t hc2 h
      refine RegL.pureG (p := (pEq (.string s_0))) rfl rfl rfl hc2 rfl rfl (J_move rfl (Opd.tmp rfl)) ?_
      replace h := bind_some h; obtain ⟨y3, hy3, h⟩ := h
      refine RegL.pureG (p := (pEq (.int .u8 (y3.toNat : Int)))) rfl rfl rfl hc2 rfl rfl (J_sidx rfl Tryd.underlying9 (Opd.tmp rfl) Opd.con hy3) ?_
      refine RegL.pureG (p := (pEq (.bool ((y3.toNat : Int) == (45 : Int))))) rfl rfl rfl hc2 rfl rfl (J_bin rfl (Opd.tmp rfl) Opd.con B_eql) ?_
      refine RegL.pure (p := (pEq (.bool ((y3.toNat : Int) == (45 : Int))))) rfl rfl rfl (J_pick rfl (Opd.tmp rfl) (fun _ => (Opd.tmp rfl)) (fun hf => absurd (hc2.symm.trans hf) (by decide))) ?_
      refine RegL.nil ?_
      replace h := Option.some.inj h; subst h
      exact Ct.mid () rfl ⟨rfl, rfl, rfl, trivial⟩
    · replace h := bif_f hc2 h
      refine RegL.skipG rfl rfl rfl hc2 rfl rfl ?_
      refine RegL.skipG rfl rfl rfl hc2 rfl rfl ?_
      refine RegL.skipG rfl rfl rfl hc2 rfl rfl ?_
      refine RegL.pure (p := (pEq (.bool false))) rfl rfl rfl (J_pick rfl (Opd.tmp rfl) (fun hf => absurd (hc2.symm.trans hf) (by decide)) (fun _ => Opd.con)) ?_
      refine RegL.nil ?_
      replace h := Option.some.inj h; subst h
      exact Ct.mid () rfl ⟨rfl, rfl, rfl, trivial⟩
  · clear hx1
    refine Ct.then_tr ?_
    refine Tr.weak (Γ' := [(0, (pEq (.string s_0))), (4, (pEq (.int .i64 (0 : Int)))), (14, (pEq (.bool x1)))]) ⟨rfl, rfl, rfl, trivial⟩ ?_
    replace h := bind_some h; obtain ⟨x5, hx5, h⟩ := h
    refine Tr.cut (γ := Unit) (Γm := fun g => [(0, (pEq (.string s_0))), (4, (pEq (.int .i64 x5)))]) (Ωm := fun g => []) ?_ (fun g6 => ?_)
    · clear h
      have h := hx5
      clear hx5
      refine Tr.cond (Opd.tmp rfl) (fun hc => ?_) (fun hc => ?_)
      · replace h := bif_t hc h
        refine Tr.region ?_
        refine RegL.pure (p := (pEq (.int .i64 (1 : Int)))) rfl rfl rfl (J_assign rfl Opd.con) ?_
        refine RegL.nil ?_
        replace h := Option.some.inj h; subst h
        exact Ct.mid () rfl ⟨rfl, rfl, trivial⟩
      · replace h := bif_f hc h
        refine Tr.skip ?_
        replace h := Option.some.inj h; subst h
        exact Ct.mid () rfl ⟨rfl, rfl, trivial⟩
    · clear hx5
      refine Ct.then_tr ?_
      refine Tr.weak (Γ' := [(0, (pEq (.string s_0))), (4, (pEq (.int .i64 x5)))]) ⟨rfl, rfl, trivial⟩ ?_
      refine Tr.seq ?_
      refine Tr.seq ?_
      replace h := bind_some h; obtain ⟨x7, hx7, h⟩ := h
      refine Tr.cut (γ := Unit) (Γm := fun g => [(0, (pEq (.string s_0))), (4, (pEq (.int .i64 x5))), (36, (pEq (.bool x7)))]) (Ωm := fun g => []) ?_ (fun g12 => ?_)
      · clear h
        have h := hx7
        clear hx7
        refine Tr.region ?_
        refine RegL.pure (p := (pEq (.string s_0))) rfl rfl rfl (J_move rfl (Opd.tmp rfl)) ?_
        refine RegL.pure (p := (pEq (.int .i64 (s_0.size : Int)))) rfl rfl rfl (J_slen rfl Tryd.underlying9 (Opd.tmp rfl) rfl) ?_
        refine RegL.pure (p := (pEq (.int .i64 x5))) rfl rfl rfl (J_move rfl (Opd.tmp rfl)) ?_
        refine RegL.pure (p := (pEq (.bool ((s_0.size : Int) == x5)))) rfl rfl rfl (J_bin rfl (Opd.tmp rfl) (Opd.tmp rfl) B_eql) ?_
        refine RegL.pure (p := (pEq (.bool ((s_0.size : Int) == x5)))) rfl rfl rfl (J_move rfl (Opd.tmp rfl)) ?_
        rcases Bool.eq_false_or_eq_true ((s_0.size : Int) == x5) with hc8 | hc8
        · replace h := bif_t hc8 h
          refine RegL.skipG rfl rfl rfl hc8 rfl rfl ?_
          refine RegL.skipG rfl rfl rfl hc8 rfl rfl ?_
          refine RegL.skipG rfl rfl rfl hc8 rfl rfl ?_
          refine RegL.skipG rfl rfl rfl hc8 rfl rfl ?_
          refine RegL.skipG rfl rfl rfl hc8 rfl rfl ?_
          refine RegL.pure (p := (pEq (.bool true))) rfl rfl rfl (J_pick rfl (Opd.tmp rfl) (fun _ => Opd.con) (fun hf => absurd (hc8.symm.trans hf) (by decide))) ?_
          refine RegL.pure (p := (pEq (.bool true))) rfl rfl rfl (J_move rfl (Opd.tmp rfl)) ?_
          refine RegL.skipG rfl rfl rfl rfl rfl rfl ?_
          refine RegL.skipG rfl rfl rfl rfl rfl rfl ?_
          refine RegL.skipG rfl rfl rfl rfl rfl rfl ?_
          refine RegL.skipG rfl rfl rfl rfl rfl rfl ?_
          refine RegL.skipG rfl rfl rfl rfl rfl rfl ?_
          refine RegL.skipU rfl rfl rfl rfl rfl ?_
          refine RegL.skipU rfl rfl rfl rfl rfl ?_
          refine RegL.skipU rfl rfl rfl rfl rfl ?_
          refine RegL.skipG rfl rfl rfl rfl rfl rfl ?_
          refine RegL.pure (p := (pEq (.bool true))) rfl rfl rfl (J_pick rfl (Opd.tmp rfl) (fun _ => Opd.con) (fun hf => absurd hf (by decide))) ?_
          refine RegL.nil ?_
          replace h := Option.some.inj h; subst h
          exact Ct.mid () rfl ⟨rfl, rfl, rfl, trivial⟩
        · replace h := bif_f hc8 h
          refine RegL.pureG (p := (pEq (.string s_0))) rfl rfl rfl hc8 rfl rfl (J_move rfl (Opd.tmp rfl)) ?_
          refine RegL.pureG (p := (pEq (.int .i64 (s_0.size : Int)))) rfl rfl rfl hc8 rfl rfl (J_slen rfl Tryd.underlying9 (Opd.tmp rfl) rfl) ?_
          refine RegL.pureG (p := (pEq (.int .i64 x5))) rfl rfl rfl hc8 rfl rfl (J_move rfl (Opd.tmp rfl)) ?_
          refine RegL.pureG (p := (pEq (.int .i64 (w64 ((s_0.size : Int) - x5))))) rfl rfl rfl hc8 rfl rfl (J_bin rfl (Opd.tmp rfl) (Opd.tmp rfl) B_sub) ?_
          refine RegL.pureG (p := (pEq (.bool (decide ((18 : Int) < (w64 ((s_0.size : Int) - x5))))))) rfl rfl rfl hc8 rfl rfl (J_bin rfl (Opd.tmp rfl) Opd.con B_gtr) ?_
          refine RegL.pure (p := (pEq (.bool (decide ((18 : Int) < (w64 ((s_0.size : Int) - x5))))))) rfl rfl rfl (J_pick rfl (Opd.tmp rfl) (fun hf => absurd (hc8.symm.trans hf) (by decide)) (fun _ => (Opd.tmp rfl))) ?_
          refine RegL.pure (p := (pEq (.bool (decide ((18 : Int) < (w64 ((s_0.size : Int) - x5))))))) rfl rfl rfl (J_move rfl (Opd.tmp rfl)) ?_
          rcases Bool.eq_false_or_eq_true (decide ((18 : Int) < (w64 ((s_0.size : Int) - x5)))) with hc9 | hc9
          · replace h := bif_t hc9 h
            refine RegL.skipG rfl rfl rfl hc9 rfl rfl ?_
            refine RegL.skipG rfl rfl rfl hc9 rfl rfl ?_
            refine RegL.skipG rfl rfl rfl hc9 rfl rfl ?_
            refine RegL.skipG rfl rfl rfl hc9 rfl rfl ?_
            refine RegL.skipG rfl rfl rfl hc9 rfl rfl ?_
            refine RegL.skipU rfl rfl rfl rfl rfl ?_
            refine RegL.skipU rfl rfl rfl rfl rfl ?_
            refine RegL.skipU rfl rfl rfl rfl rfl ?_
            refine RegL.skipG rfl rfl rfl hc9 rfl rfl ?_
            refine RegL.pure (p := (pEq (.bool true))) rfl rfl rfl (J_pick rfl (Opd.tmp rfl) (fun _ => Opd.con) (fun hf => absurd (hc9.symm.trans hf) (by decide))) ?_
            refine RegL.nil ?_
            replace h := Option.some.inj h; subst h
            exact Ct.mid () rfl ⟨rfl, rfl, rfl, trivial⟩
          · replace h := bif_f hc9 h
            refine RegL.pureG (p := (pEq (.string s_0))) rfl rfl rfl hc9 rfl rfl (J_move rfl (Opd.tmp rfl)) ?_
            refine RegL.pureG (p := (pEq (.int .i64 x5))) rfl rfl rfl hc9 rfl rfl (J_move rfl (Opd.tmp rfl)) ?_
            replace h := bind_some h; obtain ⟨y10, hy10, h⟩ := h
            refine RegL.pureG (p := (pEq (.int .u8 (y10.toNat : Int)))) rfl rfl rfl hc9 rfl rfl (J_sidx rfl Tryd.underlying9 (Opd.tmp rfl) (Opd.tmp rfl) hy10) ?_
            refine RegL.pureG (p := (pEq (.bool ((y10.toNat : Int) == (48 : Int))))) rfl rfl rfl hc9 rfl rfl (J_bin rfl (Opd.tmp rfl) Opd.con B_eql) ?_
            refine RegL.pureG (p := (pEq (.bool ((y10.toNat : Int) == (48 : Int))))) rfl rfl rfl hc9 rfl rfl (J_move rfl (Opd.tmp rfl)) ?_
            rcases Bool.eq_false_or_eq_true ((y10.toNat : Int) == (48 : Int)) with hc11 | hc11
            · replace h := bif_t hc11 h
              refine RegL.pureG (p := (pEq (.string s_0))) rfl rfl rfl hc11 rfl rfl (J_move rfl (Opd.tmp rfl)) ?_
              refine RegL.pureG (p := (pEq (.int .i64 (s_0.size : Int)))) rfl rfl rfl hc11 rfl rfl (J_slen rfl Tryd.underlying9 (Opd.tmp rfl) rfl) ?_
              refine RegL.pureG (p := (pEq (.bool (decide ((1 : Int) < (s_0.size : Int)))))) rfl rfl rfl hc11 rfl rfl (J_bin rfl (Opd.tmp rfl) Opd.con B_gtr) ?_
              refine RegL.pureG (p := (pEq (.bool (decide ((1 : Int) < (s_0.size : Int)))))) rfl rfl rfl hc9 rfl rfl (J_pick rfl (Opd.tmp rfl) (fun _ => (Opd.tmp rfl)) (fun hf => absurd (hc11.symm.trans hf) (by decide))) ?_
              refine RegL.pure (p := (pEq (.bool (decide ((1 : Int) < (s_0.size : Int)))))) rfl rfl rfl (J_pick rfl (Opd.tmp rfl) (fun hf => absurd (hc9.symm.trans hf) (by decide)) (fun _ => (Opd.tmp rfl))) ?_
              refine RegL.nil ?_
              replace h := Option.some.inj h; subst h
              exact Ct.mid () rfl ⟨rfl, rfl, rfl, trivial⟩
            · replace h := bif_f hc11 h
              refine RegL.skipG rfl rfl rfl hc11 rfl rfl ?_
              refine RegL.skipG rfl rfl rfl hc11 rfl rfl ?_
              refine RegL.skipG rfl rfl rfl hc11 rfl rfl ?_
              refine RegL.pureG (p := (pEq (.bool false))) rfl rfl rfl hc9 rfl rfl (J_pick rfl (Opd.tmp rfl) (fun hf => absurd (hc11.symm.trans hf) (by decide)) (fun _ => Opd.con)) ?_
              refine RegL.pure (p := (pEq (.bool false))) rfl rfl rfl (J_pick rfl (Opd.tmp rfl) (fun hf => absurd (hc9.symm.trans hf) (by decide)) (fun _ => (Opd.tmp rfl))) ?_
              refine RegL.nil ?_
              replace h := Option.some.inj h; subst h
              exact Ct.mid () rfl ⟨rfl, rfl, rfl, trivial⟩
      · clear hx7
        refine Ct.then_tr ?_
        refine Tr.weak (Γ' := [(0, (pEq (.string s_0))), (4, (pEq (.int .i64 x5))), (36, (pEq (.bool x7)))]) ⟨rfl, rfl, rfl, trivial⟩ ?_
        refine Tr.cond (Opd.tmp rfl) (fun hc => ?_) (fun hc => ?_)
        · replace h := bif_t hc h
          refine Tr.seq ?_
          refine Tr.region ?_
          refine RegL.pure (p := (pEq (.int .i64 (0 : Int)))) rfl rfl rfl (J_assign rfl Opd.con) ?_
          refine RegL.pure (p := (pEq (.bool false))) rfl rfl rfl (J_assign rfl Opd.con) ?_
          refine RegL.nil ?_
          refine Ct.then_tr ?_
          refine Tr.weak (Γ' := [(2, (pEq (.int .i64 (0 : Int)))), (3, (pEq (.bool false)))]) ⟨rfl, rfl, trivial⟩ ?_
          refine Tr.ret ?_
          refine Ct.then_ret ?_
          replace h := Option.some.inj h; subst h
          exact Ct.retH2 (Ωx := []) () rfl (RvOk.tmp rfl) (RvOk.tmp rfl) rfl rfl
        · replace h := bif_f hc h
          refine Tr.skip ?_
          refine Ct.then_tr ?_
          refine Tr.weak (Γ' := [(0, (pEq (.string s_0))), (4, (pEq (.int .i64 x5)))]) ⟨rfl, rfl, trivial⟩ ?_
          refine Tr.seq ?_
          refine Tr.region ?_
          refine RegL.pure (p := (pEq (.int .i64 (0 : Int)))) rfl rfl rfl (J_assign rfl Opd.con) ?_
          refine RegL.nil ?_
          refine Ct.then_tr ?_
          refine Tr.weak (Γ' := [(0, (pEq (.string s_0))), (4, (pEq (.int .i64 x5))), (5, (pEq (.int .i64 (0 : Int))))]) ⟨rfl, rfl, rfl, trivial⟩ ?_
          refine Tr.seq ?_
          refine Tr.seq ?_
          refine Tr.region ?_
          refine RegL.pure (p := (pEq (.int .i64 x5))) rfl rfl rfl (J_move rfl (Opd.tmp rfl)) ?_
          refine RegL.pure (p := (pEq (.int .i64 x5))) rfl rfl rfl (J_assign rfl (Opd.tmp rfl)) ?_
          refine RegL.nil ?_
          refine Ct.then_tr ?_
          refine Tr.weak (Γ' := [(0, (pEq (.string s_0))), (4, (pEq (.int .i64 x5))), (5, (pEq (.int .i64 (0 : Int)))), (6, (pEq (.int .i64 x5)))]) ⟨rfl, rfl, rfl, rfl, trivial⟩ ?_
          refine Tr.block ?_
          refine Tr.weak (Γ' := [(0, (pEq (.string s_0))), (4, (pEq (.int .i64 x5))), (5, (pEq (.int .i64 (0 : Int)))), (6, (pEq (.int .i64 x5)))]) ⟨rfl, rfl, rfl, rfl, trivial⟩ ?_
          refine Tr.loop (γ := Unit) (σ := (Int × Int)) (Γσ := fun s g => [(0, (pEq (.string s_0))), (4, (pEq (.int .i64 x5))), (5, (pEq (.int .i64 s.1))), (6, (pEq (.int .i64 s.2)))]) (Ωσ := fun s g => []) (g := ()) h ?_
          clear h
          rintro ⟨v14, v15⟩ g16 t h
          replace h : m_spec_l01Number_B13 s_0 x5 v14 v15 = some t := h
          unfold m_spec_l01Number_B13 at h
          refine Tr.weakO (Γ' := [(0, (pEq (.string s_0))), (4, (pEq (.int .i64 x5))), (5, (pEq (.int .i64 v14))), (6, (pEq (.int .i64 v15)))]) (Ω' := []) rfl ⟨rfl, rfl, rfl, rfl, trivial⟩ ?_
          refine Tr.seq ?_
          refine Tr.seq ?_
          refine Tr.region ?_
          refine RegL.pure (p := (pEq (.int .i64 v15))) rfl rfl rfl (J_move rfl (Opd.tmp rfl)) ?_
          refine RegL.pure (p := (pEq (.string s_0))) rfl rfl rfl (J_move rfl (Opd.tmp rfl)) ?_
          refine RegL.pure (p := (pEq (.int .i64 (s_0.size : Int)))) rfl rfl rfl (J_slen rfl Tryd.underlying9 (Opd.tmp rfl) rfl) ?_
          refine RegL.pure (p := (pEq (.bool (decide (v15 < (s_0.size : Int)))))) rfl rfl rfl (J_bin rfl (Opd.tmp rfl) (Opd.tmp rfl) B_lss) ?_
          refine RegL.nil ?_
          refine Ct.then_tr ?_
          refine Tr.weak (Γ' := [(0, (pEq (.string s_0))), (4, (pEq (.int .i64 x5))), (5, (pEq (.int .i64 v14))), (6, (pEq (.int .i64 v15))), (41, (pEq (.bool (decide (v15 < (s_0.size : Int))))))]) ⟨rfl, rfl, rfl, rfl, rfl, trivial⟩ ?_
          refine Tr.cond (Opd.tmp rfl) (fun hc => ?_) (fun hc => ?_)
          · replace h := bif_t hc h
            refine Tr.skip ?_
            refine Ct.then_tr ?_
            refine Tr.weak (Γ' := [(0, (pEq (.string s_0))), (4, (pEq (.int .i64 x5))), (5, (pEq (.int .i64 v14))), (6, (pEq (.int .i64 v15)))]) ⟨rfl, rfl, rfl, rfl, trivial⟩ ?_
            refine Tr.seq ?_
            refine Tr.block ?_
            refine Tr.seq ?_
            refine Tr.seq ?_
            refine Tr.region ?_
            refine RegL.pure (p := (pEq (.string s_0))) rfl rfl rfl (J_move rfl (Opd.tmp rfl)) ?_
            refine RegL.pure (p := (pEq (.int .i64 v15))) rfl rfl rfl (J_move rfl (Opd.tmp rfl)) ?_
            replace h := bind_some h; obtain ⟨y17, hy17, h⟩ := h
            refine RegL.pure (p := (pEq (.int .u8 (y17.toNat : Int)))) rfl rfl rfl (J_sidx rfl Tryd.underlying9 (Opd.tmp rfl) (Opd.tmp rfl) hy17) ?_
            replace h := bind_some h; obtain ⟨x18, hx18, h⟩ := h
            refine RegL.pure (p := (pEq (.bool x18))) rfl rfl rfl (J_call rfl Tryd.call99 (c_spec_l01Digit hx18) (Opds.cons (Opd.tmp rfl) Opds.nil)) ?_
            refine RegL.pure (p := (pEq (.bool (!x18)))) rfl rfl rfl (J_not rfl (Opd.tmp rfl)) ?_
            refine RegL.nil ?_
            refine Ct.then_tr ?_
            refine Tr.weak (Γ' := [(0, (pEq (.string s_0))), (4, (pEq (.int .i64 x5))), (5, (pEq (.int .i64 v14))), (6, (pEq (.int .i64 v15))), (48, (pEq (.bool (!x18))))]) ⟨rfl, rfl, rfl, rfl, rfl, trivial⟩ ?_
            refine Tr.cond (Opd.tmp rfl) (fun hc => ?_) (fun hc => ?_)
            · replace h := bif_t hc h
              refine Tr.seq ?_
              refine Tr.region ?_
              refine RegL.pure (p := (pEq (.int .i64 (0 : Int)))) rfl rfl rfl (J_assign rfl Opd.con) ?_
              refine RegL.pure (p := (pEq (.bool false))) rfl rfl rfl (J_assign rfl Opd.con) ?_
              refine RegL.nil ?_
              refine Ct.then_tr ?_
              refine Tr.weak (Γ' := [(2, (pEq (.int .i64 (0 : Int)))), (3, (pEq (.bool false)))]) ⟨rfl, rfl, trivial⟩ ?_
              refine Tr.ret ?_
              refine Ct.then_ret ?_
              refine Ct.blk_ret ?_
              refine Ct.then_ret ?_
              replace h := map_some h; obtain ⟨r1, h, rfl⟩ := h
              refine Ct.out_ret fun e => ?_
              subst e
              refine Ct.blk_ret ?_
              refine Ct.then_ret ?_
              replace h := Option.some.inj h; subst h
              exact Ct.retH2 (Ωx := []) () rfl (RvOk.tmp rfl) (RvOk.tmp rfl) rfl rfl
            · replace h := bif_f hc h
              refine Tr.skip ?_
              refine Ct.then_tr ?_
              refine Tr.weak (Γ' := [(0, (pEq (.string s_0))), (4, (pEq (.int .i64 x5))), (5, (pEq (.int .i64 v14))), (6, (pEq (.int .i64 v15)))]) ⟨rfl, rfl, rfl, rfl, trivial⟩ ?_
              refine Tr.region ?_
              refine RegL.pure (p := (pEq (.int .i64 v14))) rfl rfl rfl (J_move rfl (Opd.tmp rfl)) ?_
              refine RegL.pure (p := (pEq (.int .i64 (w64 ((10 : Int) * v14))))) rfl rfl rfl (J_bin rfl Opd.con (Opd.tmp rfl) B_mul) ?_
              refine RegL.pure (p := (pEq (.string s_0))) rfl rfl rfl (J_move rfl (Opd.tmp rfl)) ?_
              refine RegL.pure (p := (pEq (.int .i64 v15))) rfl rfl rfl (J_move rfl (Opd.tmp rfl)) ?_
              replace h := bind_some h; obtain ⟨y19, hy19, h⟩ := h
              refine RegL.pure (p := (pEq (.int .u8 (y19.toNat : Int)))) rfl rfl rfl (J_sidx rfl Tryd.underlying9 (Opd.tmp rfl) (Opd.tmp rfl) hy19) ?_
              refine RegL.pure (p := (pEq (.int .u8 (IntKind.wrap .u8 ((y19.toNat : Int) - (48 : Int)))))) rfl rfl rfl (J_bin rfl (Opd.tmp rfl) Opd.con B_sub) ?_
              refine RegL.pure (p := (pEq (.int .i64 (w64 ((IntKind.wrap .u8 ((y19.toNat : Int) - (48 : Int)))))))) rfl rfl rfl (J_conv rfl Tryd.underlying5 Tryd.underlying2 (Opd.tmp rfl)) ?_
              refine RegL.pure (p := (pEq (.int .i64 (w64 ((w64 ((10 : Int) * v14)) + (w64 ((IntKind.wrap .u8 ((y19.toNat : Int) - (48 : Int)))))))))) rfl rfl rfl (J_bin rfl (Opd.tmp rfl) (Opd.tmp rfl) B_add) ?_
              refine RegL.pure (p := (pEq (.int .i64 (w64 ((w64 ((10 : Int) * v14)) + (w64 ((IntKind.wrap .u8 ((y19.toNat : Int) - (48 : Int)))))))))) rfl rfl rfl (J_assign rfl (Opd.tmp rfl)) ?_
              refine RegL.nil ?_
              refine Ct.blk_normal ?_
              refine Ct.then_tr ?_
              refine Tr.weak (Γ' := [(0, (pEq (.string s_0))), (4, (pEq (.int .i64 x5))), (5, (pEq (.int .i64 (w64 ((w64 ((10 : Int) * v14)) + (w64 ((IntKind.wrap .u8 ((y19.toNat : Int) - (48 : Int)))))))))), (6, (pEq (.int .i64 v15)))]) ⟨rfl, rfl, rfl, rfl, trivial⟩ ?_
              refine Tr.region ?_
              refine RegL.pure (p := (pEq (.int .i64 v15))) rfl rfl rfl (J_move rfl (Opd.tmp rfl)) ?_
              refine RegL.pure (p := (pEq (.int .i64 (w64 (v15 + (1 : Int)))))) rfl rfl rfl (J_bin rfl (Opd.tmp rfl) Opd.con B_add) ?_
              refine RegL.pure (p := (pEq (.int .i64 (w64 (v15 + (1 : Int)))))) rfl rfl rfl (J_assign rfl (Opd.tmp rfl)) ?_
              refine RegL.nil ?_
              replace h := Option.some.inj h; subst h
              exact Ct.again () rfl ⟨rfl, rfl, rfl, rfl, trivial⟩
          · replace h := bif_f hc h
            refine Tr.exit ?_
            refine Ct.then_exit ?_
            replace h := map_some h; obtain ⟨r1, h, rfl⟩ := h
            refine Ct.out_exit fun e => ?_
            subst e
            refine Ct.blk_exit ?_
            refine Ct.then_tr ?_
            refine Tr.weak (Γ' := [(4, (pEq (.int .i64 x5))), (5, (pEq (.int .i64 v14)))]) ⟨rfl, rfl, trivial⟩ ?_
            refine Tr.seq ?_
            refine Tr.seq ?_
            refine Tr.region ?_
            refine RegL.pure (p := (pEq (.int .i64 x5))) rfl rfl rfl (J_move rfl (Opd.tmp rfl)) ?_
            refine RegL.pure (p := (pEq (.bool (x5 == (1 : Int))))) rfl rfl rfl (J_bin rfl (Opd.tmp rfl) Opd.con B_eql) ?_
            refine RegL.nil ?_
            refine Ct.then_tr ?_
            refine Tr.weak (Γ' := [(5, (pEq (.int .i64 v14))), (58, (pEq (.bool (x5 == (1 : Int)))))]) ⟨rfl, rfl, trivial⟩ ?_
            replace h := bind_some h; obtain ⟨x20, hx20, h⟩ := h
            refine Tr.cut (γ := Unit) (Γm := fun g => [(5, (pEq (.int .i64 x20)))]) (Ωm := fun g => []) ?_ (fun g21 => ?_)
            · clear h
              have h := hx20
              clear hx20
              refine Tr.cond (Opd.tmp rfl) (fun hc => ?_) (fun hc => ?_)
              · replace h := bif_t hc h
                refine Tr.region ?_
                refine RegL.pure (p := (pEq (.int .i64 v14))) rfl rfl rfl (J_move rfl (Opd.tmp rfl)) ?_
                refine RegL.pure (p := (pEq (.int .i64 (w64 (0 - v14))))) rfl rfl rfl (J_neg rfl (Opd.tmp rfl)) ?_
                refine RegL.pure (p := (pEq (.int .i64 (w64 (0 - v14))))) rfl rfl rfl (J_assign rfl (Opd.tmp rfl)) ?_
                refine RegL.nil ?_
                replace h := Option.some.inj h; subst h
                exact Ct.mid () rfl ⟨rfl, trivial⟩
              · replace h := bif_f hc h
                refine Tr.skip ?_
                replace h := Option.some.inj h; subst h
                exact Ct.mid () rfl ⟨rfl, trivial⟩
            · clear hx20
              refine Ct.then_tr ?_
              refine Tr.weak (Γ' := [(5, (pEq (.int .i64 x20)))]) ⟨rfl, trivial⟩ ?_
              refine Tr.seq ?_
              refine Tr.region ?_
              refine RegL.pure (p := (pEq (.int .i64 x20))) rfl rfl rfl (J_move rfl (Opd.tmp rfl)) ?_
              refine RegL.pure (p := (pEq (.int .i64 x20))) rfl rfl rfl (J_assign rfl (Opd.tmp rfl)) ?_
              refine RegL.pure (p := (pEq (.bool true))) rfl rfl rfl (J_assign rfl Opd.con) ?_
              refine RegL.nil ?_
              refine Ct.then_tr ?_
              refine Tr.weak (Γ' := [(2, (pEq (.int .i64 x20))), (3, (pEq (.bool true)))]) ⟨rfl, rfl, trivial⟩ ?_
              refine Tr.ret ?_
              replace h := Option.some.inj h; subst h
              exact Ct.retH2 (Ωx := []) () rfl (RvOk.tmp rfl) (RvOk.tmp rfl) rfl rfl

theorem c_spec_l01Small {c_0 : Int} {r : Bool} (h : m_spec_l01Small c_0 = some r) : CallJ Tryd.prog 113 [(pEq (.int .u8 c_0))] (pEq (.bool r)) := by
  unfold m_spec_l01Small at h
  refine CallJ.enterH Tryd.func113 rfl Tryd.ntmps113 rfl fun W I0 H => ?_
  refine Tr.weak (Γ' := [(0, (pEq (.int .u8 c_0)))]) ⟨rfl, trivial⟩ ?_
  refine Tr.seq ?_
  refine Tr.region ?_
  refine RegL.pure (p := (pEq (.bool false))) rfl rfl rfl (J_assign rfl Opd.con) ?_
  refine RegL.nil ?_
  refine Ct.then_tr ?_
  refine Tr.weak (Γ' := [(0, (pEq (.int .u8 c_0)))]) ⟨rfl, trivial⟩ ?_
  refine Tr.seq ?_
  replace h := bind_some h; obtain ⟨x1, hx1, h⟩ := h
  refine Tr.cut (γ := Unit) (Γm := fun g => [(2, (pEq (.bool x1)))]) (Ωm := fun g => []) ?_ (fun g3 => ?_)
  · clear h
    have h := hx1
    clear hx1
    refine Tr.region ?_
    refine RegL.pure (p := (pEq (.int .u8 c_0))) rfl rfl rfl (J_move rfl (Opd.tmp rfl)) ?_
    refine RegL.pure (p := (pEq (.bool (decide ((97 : Int) ≤ c_0))))) rfl rfl rfl (J_bin rfl (Opd.tmp rfl) Opd.con B_geq) ?_
    refine RegL.pure (p := (pEq (.bool (decide ((97 : Int) ≤ c_0))))) rfl rfl rfl (J_move rfl (Opd.tmp rfl)) ?_
    rcases Bool.eq_false_or_eq_true (decide ((97 : Int) ≤ c_0)) with hc2 | hc2
    · replace h := bif_t hc2 h
      refine RegL.pureG (p := (pEq (.int .u8 c_0))) rfl rfl rfl hc2 rfl rfl (J_move rfl (Opd.tmp rfl)) ?_
      refine RegL.pureG (p := (pEq (.bool (decide (c_0 ≤ (122 : Int)))))) rfl rfl rfl hc2 rfl rfl (J_bin rfl (Opd.tmp rfl) Opd.con B_leq) ?_
      refine RegL.pure (p := (pEq (.bool (decide (c_0 ≤ (122 : Int)))))) rfl rfl rfl (J_pick rfl (Opd.tmp rfl) (fun _ => (Opd.tmp rfl)) (fun hf => absurd (hc2.symm.trans hf) (by decide))) ?_
      refine RegL.pure (p := (pEq (.bool (decide (c_0 ≤ (122 : Int)))))) rfl rfl rfl (J_assign rfl (Opd.tmp rfl)) ?_
      refine RegL.nil ?_
      replace h := Option.some.inj h; subst h
      exact Ct.mid () rfl ⟨rfl, trivial⟩
    · replace h := bif_f hc2 h
      refine RegL.skipG rfl rfl rfl hc2 rfl rfl ?_
      refine RegL.skipG rfl rfl rfl hc2 rfl rfl ?_
      refine RegL.pure (p := (pEq (.bool false))) rfl rfl rfl (J_pick rfl (Opd.tmp rfl) (fun hf => absurd (hc2.symm.trans hf) (by decide)) (fun _ => Opd.con)) ?_
      refine RegL.pure (p := (pEq (.bool false))) rfl rfl rfl (J_assign rfl (Opd.tmp rfl)) ?_
      refine RegL.nil ?_
      replace h := Option.some.inj h; subst h
      exact Ct.mid () rfl ⟨rfl, trivial⟩
  · clear hx1
    refine Ct.then_tr ?_
    refine Tr.weak (Γ' := [(2, (pEq (.bool x1)))]) ⟨rfl, trivial⟩ ?_
    refine Tr.ret ?_
    replace h := Option.some.inj h; subst h
    exact Ct.retH1 (Ωx := []) () rfl (RvOk.tmp rfl) rfl

theorem c_spec_l01Name {s_0 : ByteArray} {r : Bool} (h : m_spec_l01Name s_0 = some r) : CallJ Tryd.prog 90 [(pEq (.string s_0))] (pEq (.bool r)) := by
  unfold m_spec_l01Name at h
  refine CallJ.enterH Tryd.func90 rfl Tryd.ntmps90 rfl fun W I0 H => ?_
  refine Tr.weak (Γ' := [(0, (pEq (.string s_0)))]) ⟨rfl, trivial⟩ ?_
  refine Tr.seq ?_
  refine Tr.region ?_
  refine RegL.pure (p := (pEq (.bool false))) rfl rfl rfl (J_assign rfl Opd.con) ?_
  refine RegL.nil ?_
  refine Ct.then_tr ?_
  refine Tr.weak (Γ' := [(0, (pEq (.string s_0)))]) ⟨rfl, trivial⟩ ?_
  refine Tr.seq ?_
  refine Tr.seq ?_
  replace h := bind_some h; obtain ⟨x1, hx1, h⟩ := h
  refine Tr.cut (γ := Unit) (Γm := fun g => [(0, (pEq (.string s_0))), (16, (pEq (.bool x1)))]) (Ωm := fun g => []) ?_ (fun g6 => ?_)
  · clear h
    have h := hx1
    clear hx1
    refine Tr.region ?_
    refine RegL.pure (p := (pEq (.string s_0))) rfl rfl rfl (J_move rfl (Opd.tmp rfl)) ?_
    refine RegL.pure (p := (pEq (.bool (s_0.toList == (ByteArray.mk #[]).toList)))) rfl rfl rfl (J_bin rfl (Opd.tmp rfl) Opd.con B_seql) ?_
    refine RegL.pure (p := (pEq (.bool (s_0.toList == (ByteArray.mk #[]).toList)))) rfl rfl rfl (J_move rfl (Opd.tmp rfl)) ?_
    rcases Bool.eq_false_or_eq_true (s_0.toList == (ByteArray.mk #[]).toList) with hc2 | hc2
    · replace h := bif_t hc2 h
      refine RegL.skipG rfl rfl rfl hc2 rfl rfl ?_
      refine RegL.skipG rfl rfl rfl hc2 rfl rfl ?_
      refine RegL.skipG rfl rfl rfl hc2 rfl rfl ?_
      refine RegL.pure (p := (pEq (.bool true))) rfl rfl rfl (J_pick rfl (Opd.tmp rfl) (fun _ => Opd.con) (fun hf => absurd (hc2.symm.trans hf) (by decide))) ?_
      refine RegL.pure (p := (pEq (.bool true))) rfl rfl rfl (J_move rfl (Opd.tmp rfl)) ?_
      refine RegL.skipG rfl rfl rfl rfl rfl rfl ?_
      refine RegL.skipG rfl rfl rfl rfl rfl rfl ?_
      refine RegL.skipG rfl rfl rfl rfl rfl rfl ?_
      refine RegL.skipG rfl rfl rfl rfl rfl rfl ?_
      refine RegL.pure (p := (pEq (.bool true))) rfl rfl rfl (J_pick rfl (Opd.tmp rfl) (fun _ => Opd.con) (fun hf => absurd hf (by decide))) ?_
      refine RegL.nil ?_
      replace h := Option.some.inj h; subst h
      exact Ct.mid () rfl ⟨rfl, rfl, trivial⟩
    · replace h := bif_f hc2 h
      refine RegL.pureG (p := (pEq (.string s_0))) rfl rfl rfl hc2 rfl rfl (J_move rfl (Opd.tmp rfl)) ?_
      refine RegL.pureG (p := (pEq (.int .i64 (s_0.size : Int)))) rfl rfl rfl hc2 rfl rfl (J_slen rfl Tryd.underlying9 (Opd.tmp rfl) rfl) ?_
      refine RegL.pureG (p := (pEq (.bool (decide ((10 : Int) < (s_0.size : Int)))))) rfl rfl rfl hc2 rfl rfl (J_bin rfl (Opd.tmp rfl) Opd.con B_gtr) ?_
      refine RegL.pure (p := (pEq (.bool (decide ((10 : Int) < (s_0.size : Int)))))) rfl rfl rfl (J_pick rfl (Opd.tmp rfl) (fun hf => absurd (hc2.symm.trans hf) (by decide)) (fun _ => (Opd.tmp rfl))) ?_
      refine RegL.pure (p := (pEq (.bool (decide ((10 : Int) < (s_0.size : Int)))))) rfl rfl rfl (J_move rfl (Opd.tmp rfl)) ?_
      rcases Bool.eq_false_or_eq_true (decide ((10 : Int) < (s_0.size : Int))) with hc3 | hc3
      · replace h := bif_t hc3 h
        refine RegL.skipG rfl rfl rfl hc3 rfl rfl ?_
        refine RegL.skipG rfl rfl rfl hc3 rfl rfl ?_
        refine RegL.skipG rfl rfl rfl hc3 rfl rfl ?_
        refine RegL.skipG rfl rfl rfl hc3 rfl rfl ?_
        refine RegL.pure (p := (pEq (.bool true))) rfl rfl rfl (J_pick rfl (Opd.tmp rfl) (fun _ => Opd.con) (fun hf => absurd (hc3.symm.trans hf) (by decide))) ?_
        refine RegL.nil ?_
        replace h := Option.some.inj h; subst h
        exact Ct.mid () rfl ⟨rfl, rfl, trivial⟩
      · replace h := bif_f hc3 h
        refine RegL.pureG (p := (pEq (.string s_0))) rfl rfl rfl hc3 rfl rfl (J_move rfl (Opd.tmp rfl)) ?_
        replace h := bind_some h; obtain ⟨y4, hy4, h⟩ := h
        refine RegL.pureG (p := (pEq (.int .u8 (y4.toNat : Int)))) rfl rfl rfl hc3 rfl rfl (J_sidx rfl Tryd.underlying9 (Opd.tmp rfl) Opd.con hy4) ?_
        replace h := bind_some h; obtain ⟨x5, hx5, h⟩ := h
        refine RegL.pureG (p := (pEq (.bool x5))) rfl rfl rfl hc3 rfl rfl (J_call rfl Tryd.call113 (c_spec_l01Small hx5) (Opds.cons (Opd.tmp rfl) Opds.nil)) ?_
        refine RegL.pureG (p := (pEq (.bool (!x5)))) rfl rfl rfl hc3 rfl rfl (J_not rfl (Opd.tmp rfl)) ?_
        refine RegL.pure (p := (pEq (.bool (!x5)))) rfl rfl rfl (J_pick rfl (Opd.tmp rfl) (fun hf => absurd (hc3.symm.trans hf) (by decide)) (fun _ => (Opd.tmp rfl))) ?_
        refine RegL.nil ?_
        replace h := Option.some.inj h; subst h
        exact Ct.mid () rfl ⟨rfl, rfl, trivial⟩
  · clear hx1
    refine Ct.then_tr ?_
    refine Tr.weak (Γ' := [(0, (pEq (.string s_0))), (16, (pEq (.bool x1)))]) ⟨rfl, rfl, trivial⟩ ?_
    refine Tr.cond (Opd.tmp rfl) (fun hc => ?_) (fun hc => ?_)
    · replace h := bif_t hc h
      refine Tr.seq ?_
      refine Tr.region ?_
      refine RegL.pure (p := (pEq (.bool false))) rfl rfl rfl (J_assign rfl Opd.con) ?_
      refine RegL.nil ?_
      refine Ct.then_tr ?_
      refine Tr.weak (Γ' := [(2, (pEq (.bool false)))]) ⟨rfl, trivial⟩ ?_
      refine Tr.ret ?_
      refine Ct.then_ret ?_
      replace h := Option.some.inj h; subst h
      exact Ct.retH1 (Ωx := []) () rfl (RvOk.tmp rfl) rfl
    · replace h := bif_f hc h
      refine Tr.skip ?_
      refine Ct.then_tr ?_
      refine Tr.weak (Γ' := [(0, (pEq (.string s_0)))]) ⟨rfl, trivial⟩ ?_
      refine Tr.seq ?_
      refine Tr.seq ?_
      refine Tr.region ?_
      refine RegL.pure (p := (pEq (.int .i64 (0 : Int)))) rfl rfl rfl (J_assign rfl Opd.con) ?_
      refine RegL.nil ?_
      refine Ct.then_tr ?_
      refine Tr.weak (Γ' := [(0, (pEq (.string s_0))), (3, (pEq (.int .i64 (0 : Int))))]) ⟨rfl, rfl, trivial⟩ ?_
      refine Tr.block ?_
      refine Tr.weak (Γ' := [(0, (pEq (.string s_0))), (3, (pEq (.int .i64 (0 : Int))))]) ⟨rfl, rfl, trivial⟩ ?_
      refine Tr.loop (γ := Unit) (σ := Int) (Γσ := fun s g => [(0, (pEq (.string s_0))), (3, (pEq (.int .i64 s)))]) (Ωσ := fun s g => []) (g := ()) h ?_
      clear h
      rintro v8 g9 t h
      replace h : m_spec_l01Name_B7 s_0 v8 = some t := h
      unfold m_spec_l01Name_B7 at h
      refine Tr.weakO (Γ' := [(0, (pEq (.string s_0))), (3, (pEq (.int .i64 v8)))]) (Ω' := []) rfl ⟨rfl, rfl, trivial⟩ ?_
      refine Tr.seq ?_
      refine Tr.seq ?_
      refine Tr.region ?_
      refine RegL.pure (p := (pEq (.int .i64 v8))) rfl rfl rfl (J_move rfl (Opd.tmp rfl)) ?_
      refine RegL.pure (p := (pEq (.string s_0))) rfl rfl rfl (J_move rfl (Opd.tmp rfl)) ?_
      refine RegL.pure (p := (pEq (.int .i64 (s_0.size : Int)))) rfl rfl rfl (J_slen rfl Tryd.underlying9 (Opd.tmp rfl) rfl) ?_
      refine RegL.pure (p := (pEq (.bool (decide (v8 < (s_0.size : Int)))))) rfl rfl rfl (J_bin rfl (Opd.tmp rfl) (Opd.tmp rfl) B_lss) ?_
      refine RegL.nil ?_
      refine Ct.then_tr ?_
      refine Tr.weak (Γ' := [(0, (pEq (.string s_0))), (3, (pEq (.int .i64 v8))), (20, (pEq (.bool (decide (v8 < (s_0.size : Int))))))]) ⟨rfl, rfl, rfl, trivial⟩ ?_
      refine Tr.cond (Opd.tmp rfl) (fun hc => ?_) (fun hc => ?_)
      · replace h := bif_t hc h
        refine Tr.skip ?_
        refine Ct.then_tr ?_
        refine Tr.weak (Γ' := [(0, (pEq (.string s_0))), (3, (pEq (.int .i64 v8)))]) ⟨rfl, rfl, trivial⟩ ?_
        refine Tr.seq ?_
        refine Tr.block ?_
        refine Tr.seq ?_
        replace h := bind_some h; obtain ⟨x10, hx10, h⟩ := h
        refine Tr.cut (γ := Unit) (Γm := fun g => [(0, (pEq (.string s_0))), (3, (pEq (.int .i64 v8))), (34, (pEq (.bool x10)))]) (Ωm := fun g => []) ?_ (fun g16 => ?_)
        · clear h
          have h := hx10
          clear hx10
          refine Tr.region ?_
          refine RegL.pure (p := (pEq (.string s_0))) rfl rfl rfl (J_move rfl (Opd.tmp rfl)) ?_
          refine RegL.pure (p := (pEq (.int .i64 v8))) rfl rfl rfl (J_move rfl (Opd.tmp rfl)) ?_
          replace h := bind_some h; obtain ⟨y11, hy11, h⟩ := h
          refine RegL.pure (p := (pEq (.int .u8 (y11.toNat : Int)))) rfl rfl rfl (J_sidx rfl Tryd.underlying9 (Opd.tmp rfl) (Opd.tmp rfl) hy11) ?_
          replace h := bind_some h; obtain ⟨x12, hx12, h⟩ := h
          refine RegL.pure (p := (pEq (.bool x12))) rfl rfl rfl (J_call rfl Tryd.call113 (c_spec_l01Small hx12) (Opds.cons (Opd.tmp rfl) Opds.nil)) ?_
          refine RegL.pure (p := (pEq (.bool (!x12)))) rfl rfl rfl (J_not rfl (Opd.tmp rfl)) ?_
          refine RegL.pure (p := (pEq (.bool (!x12)))) rfl rfl rfl (J_move rfl (Opd.tmp rfl)) ?_
          rcases Bool.eq_false_or_eq_true (!x12) with hc13 | hc13
          · replace h := bif_t hc13 h
            refine RegL.pureG (p := (pEq (.string s_0))) rfl rfl rfl hc13 rfl rfl (J_move rfl (Opd.tmp rfl)) ?_
            refine RegL.pureG (p := (pEq (.int .i64 v8))) rfl rfl rfl hc13 rfl rfl (J_move rfl (Opd.tmp rfl)) ?_
            replace h := bind_some h; obtain ⟨y14, hy14, h⟩ := h
            refine RegL.pureG (p := (pEq (.int .u8 (y14.toNat : Int)))) rfl rfl rfl hc13 rfl rfl (J_sidx rfl Tryd.underlying9 (Opd.tmp rfl) (Opd.tmp rfl) hy14) ?_
            replace h := bind_some h; obtain ⟨x15, hx15, h⟩ := h
            refine RegL.pureG (p := (pEq (.bool x15))) rfl rfl rfl hc13 rfl rfl (J_call rfl Tryd.call99 (c_spec_l01Digit hx15) (Opds.cons (Opd.tmp rfl) Opds.nil)) ?_
            refine RegL.pureG (p := (pEq (.bool (!x15)))) rfl rfl rfl hc13 rfl rfl (J_not rfl (Opd.tmp rfl)) ?_
            refine RegL.pure (p := (pEq (.bool (!x15)))) rfl rfl rfl (J_pick rfl (Opd.tmp rfl) (fun _ => (Opd.tmp rfl)) (fun hf => absurd (hc13.symm.trans hf) (by decide))) ?_
            refine RegL.nil ?_
            replace h := Option.some.inj h; subst h
            exact Ct.mid () rfl ⟨rfl, rfl, rfl, trivial⟩
          · replace h := bif_f hc13 h
            refine RegL.skipG rfl rfl rfl hc13 rfl rfl ?_
            refine RegL.skipG rfl rfl rfl hc13 rfl rfl ?_
            refine RegL.skipG rfl rfl rfl hc13 rfl rfl ?_
            refine RegL.skipG rfl rfl rfl hc13 rfl rfl ?_
            refine RegL.skipG rfl rfl rfl hc13 rfl rfl ?_
            refine RegL.pure (p := (pEq (.bool false))) rfl rfl rfl (J_pick rfl (Opd.tmp rfl) (fun hf => absurd (hc13.symm.trans hf) (by decide)) (fun _ => Opd.con)) ?_
            refine RegL.nil ?_
            replace h := Option.some.inj h; subst h
            exact Ct.mid () rfl ⟨rfl, rfl, rfl, trivial⟩
        · clear hx10
          refine Ct.then_tr ?_
          refine Tr.weak (Γ' := [(0, (pEq (.string s_0))), (3, (pEq (.int .i64 v8))), (34, (pEq (.bool x10)))]) ⟨rfl, rfl, rfl, trivial⟩ ?_
          refine Tr.cond (Opd.tmp rfl) (fun hc => ?_) (fun hc => ?_)
          · replace h := bif_t hc h
            refine Tr.seq ?_
            refine Tr.region ?_
            refine RegL.pure (p := (pEq (.bool false))) rfl rfl rfl (J_assign rfl Opd.con) ?_
            refine RegL.nil ?_
            refine Ct.then_tr ?_
            refine Tr.weak (Γ' := [(2, (pEq (.bool false)))]) ⟨rfl, trivial⟩ ?_
            refine Tr.ret ?_
            refine Ct.blk_ret ?_
            refine Ct.then_ret ?_
            replace h := map_some h; obtain ⟨r1, h, rfl⟩ := h
            refine Ct.out_ret fun e => ?_
            subst e
            refine Ct.blk_ret ?_
            refine Ct.then_ret ?_
            replace h := Option.some.inj h; subst h
            exact Ct.retH1 (Ωx := []) () rfl (RvOk.tmp rfl) rfl
          · replace h := bif_f hc h
            refine Tr.skip ?_
            refine Ct.blk_normal ?_
            refine Ct.then_tr ?_
            refine Tr.weak (Γ' := [(0, (pEq (.string s_0))), (3, (pEq (.int .i64 v8)))]) ⟨rfl, rfl, trivial⟩ ?_
            refine Tr.region ?_
            refine RegL.pure (p := (pEq (.int .i64 v8))) rfl rfl rfl (J_move rfl (Opd.tmp rfl)) ?_
            refine RegL.pure (p := (pEq (.int .i64 (w64 (v8 + (1 : Int)))))) rfl rfl rfl (J_bin rfl (Opd.tmp rfl) Opd.con B_add) ?_
            refine RegL.pure (p := (pEq (.int .i64 (w64 (v8 + (1 : Int)))))) rfl rfl rfl (J_assign rfl (Opd.tmp rfl)) ?_
            refine RegL.nil ?_
            replace h := Option.some.inj h; subst h
            exact Ct.again () rfl ⟨rfl, rfl, trivial⟩
      · replace h := bif_f hc h
        refine Tr.exit ?_
        refine Ct.then_exit ?_
        replace h := map_some h; obtain ⟨r1, h, rfl⟩ := h
        refine Ct.out_exit fun e => ?_
        subst e
        refine Ct.blk_exit ?_
        refine Ct.then_tr ?_
        refine Tr.weak (Γ' := []) trivial ?_
        refine Tr.seq ?_
        refine Tr.region ?_
        refine RegL.pure (p := (pEq (.bool true))) rfl rfl rfl (J_assign rfl Opd.con) ?_
        refine RegL.nil ?_
        refine Ct.then_tr ?_
        refine Tr.weak (Γ' := [(2, (pEq (.bool true)))]) ⟨rfl, trivial⟩ ?_
        refine Tr.ret ?_
        replace h := Option.some.inj h; subst h
        exact Ct.retH1 (Ωx := []) () rfl (RvOk.tmp rfl) rfl

theorem c_spec_l00In {n_0 : Int} {low_1 : Int} {high_2 : Int} {r : Bool} (h : m_spec_l00In n_0 low_1 high_2 = some r) : CallJ Tryd.prog 38 [(pEq (.int .i64 n_0)), (pEq (.int .i64 low_1)), (pEq (.int .i64 high_2))] (pEq (.bool r)) := by
  unfold m_spec_l00In at h
  refine CallJ.enterH Tryd.func38 rfl Tryd.ntmps38 rfl fun W I0 H => ?_
  refine Tr.weak (Γ' := [(0, (pEq (.int .i64 n_0))), (1, (pEq (.int .i64 low_1))), (2, (pEq (.int .i64 high_2)))]) ⟨rfl, rfl, rfl, trivial⟩ ?_
  refine Tr.seq ?_
  refine Tr.region ?_
  refine RegL.pure (p := (pEq (.bool false))) rfl rfl rfl (J_assign rfl Opd.con) ?_
  refine RegL.nil ?_
  refine Ct.then_tr ?_
  refine Tr.weak (Γ' := [(0, (pEq (.int .i64 n_0))), (1, (pEq (.int .i64 low_1))), (2, (pEq (.int .i64 high_2)))]) ⟨rfl, rfl, rfl, trivial⟩ ?_
  refine Tr.seq ?_
  replace h := bind_some h; obtain ⟨x1, hx1, h⟩ := h
  refine Tr.cut (γ := Unit) (Γm := fun g => [(6, (pEq (.bool x1)))]) (Ωm := fun g => []) ?_ (fun g3 => ?_)
  · clear h
    have h := hx1
    clear hx1
    refine Tr.region ?_
    refine RegL.pure (p := (pEq (.int .i64 n_0))) rfl rfl rfl (J_move rfl (Opd.tmp rfl)) ?_
    refine RegL.pure (p := (pEq (.int .i64 low_1))) rfl rfl rfl (J_move rfl (Opd.tmp rfl)) ?_
    refine RegL.pure (p := (pEq (.bool (decide (low_1 ≤ n_0))))) rfl rfl rfl (J_bin rfl (Opd.tmp rfl) (Opd.tmp rfl) B_geq) ?_
    refine RegL.pure (p := (pEq (.bool (decide (low_1 ≤ n_0))))) rfl rfl rfl (J_move rfl (Opd.tmp rfl)) ?_
    rcases Bool.eq_false_or_eq_true (decide (low_1 ≤ n_0)) with hc2 | hc2
    · replace h := bif_t hc2 h
      refine RegL.pureG (p := (pEq (.int .i64 n_0))) rfl rfl rfl hc2 rfl rfl (J_move rfl (Opd.tmp rfl)) ?_
      refine RegL.pureG (p := (pEq (.int .i64 high_2))) rfl rfl rfl hc2 rfl rfl (J_move rfl (Opd.tmp rfl)) ?_
      refine RegL.pureG (p := (pEq (.bool (decide (n_0 ≤ high_2))))) rfl rfl rfl hc2 rfl rfl (J_bin rfl (Opd.tmp rfl) (Opd.tmp rfl) B_leq) ?_
      refine RegL.pure (p := (pEq (.bool (decide (n_0 ≤ high_2))))) rfl rfl rfl (J_pick rfl (Opd.tmp rfl) (fun _ => (Opd.tmp rfl)) (fun hf => absurd (hc2.symm.trans hf) (by decide))) ?_
      refine RegL.pure (p := (pEq (.bool (decide (n_0 ≤ high_2))))) rfl rfl rfl (J_assign rfl (Opd.tmp rfl)) ?_
      refine RegL.nil ?_
      replace h := Option.some.inj h; subst h
      exact Ct.mid () rfl ⟨rfl, trivial⟩
    · replace h := bif_f hc2 h
      refine RegL.skipG rfl rfl rfl hc2 rfl rfl ?_
      refine RegL.skipG rfl rfl rfl hc2 rfl rfl ?_
      refine RegL.skipG rfl rfl rfl hc2 rfl rfl ?_
      refine RegL.pure (p := (pEq (.bool false))) rfl rfl rfl (J_pick rfl (Opd.tmp rfl) (fun hf => absurd (hc2.symm.trans hf) (by decide)) (fun _ => Opd.con)) ?_
      refine RegL.pure (p := (pEq (.bool false))) rfl rfl rfl (J_assign rfl (Opd.tmp rfl)) ?_
      refine RegL.nil ?_
      replace h := Option.some.inj h; subst h
      exact Ct.mid () rfl ⟨rfl, trivial⟩
  · clear hx1
    refine Ct.then_tr ?_
    refine Tr.weak (Γ' := [(6, (pEq (.bool x1)))]) ⟨rfl, trivial⟩ ?_
    refine Tr.ret ?_
    replace h := Option.some.inj h; subst h
    exact Ct.retH1 (Ωx := []) () rfl (RvOk.tmp rfl) rfl

theorem c_spec_l15Count {b_0 : GBand} {r : Int} (h : m_spec_l15Count b_0 = some r) : CallJ Tryd.prog 91 [(pPtr (cGBand b_0))] (pEq (.int .i64 r)) := by
  unfold m_spec_l15Count at h
  refine CallJ.enterH Tryd.func91 rfl Tryd.ntmps91 rfl fun W I0 H => ?_
  refine Tr.weak (Γ' := [(0, (pPtr (cGBand b_0)))]) ⟨rfl, trivial⟩ ?_
  refine Tr.seq ?_
  refine Tr.region ?_
  refine RegL.pure (p := (pEq (.int .i64 (0 : Int)))) rfl rfl rfl (J_assign rfl Opd.con) ?_
  refine RegL.nil ?_
  refine Ct.then_tr ?_
  refine Tr.weak (Γ' := [(0, (pPtr (cGBand b_0)))]) ⟨rfl, trivial⟩ ?_
  refine Tr.seq ?_
  replace h := bind_some h; obtain ⟨x1, hx1, h⟩ := h
  refine Tr.drawD (n := 17) (m := 14) (es := [some (Ent.mk [(0, (pPtr (cGBand b_0)))] (pPtr (cGBand b_0)) true), some (Ent.mk [(3, (pPtr (cGBand b_0)))] (pPtr (cGBand b_0)) true), some (Ent.mk [(4, (pPtr (cGBand b_0)))] (pPtr ((cK .i64) b_0.High)) true), some (Ent.mk [(5, (pPtr ((cK .i64) b_0.High)))] (pEq (.int .i64 b_0.High)) true), some (Ent.mk [(0, (pPtr (cGBand b_0)))] (pPtr (cGBand b_0)) true), some (Ent.mk [(7, (pPtr (cGBand b_0)))] (pPtr (cGBand b_0)) true), some (Ent.mk [(8, (pPtr (cGBand b_0)))] (pPtr ((cK .i64) b_0.Low)) true), some (Ent.mk [(9, (pPtr ((cK .i64) b_0.Low)))] (pEq (.int .i64 b_0.Low)) true), some (Ent.mk [(6, (pEq (.int .i64 b_0.High))), (10, (pEq (.int .i64 b_0.Low)))] (pEq (.int .i64 (w64 (b_0.High - b_0.Low)))) true), some (Ent.mk [(0, (pPtr (cGBand b_0)))] (pPtr (cGBand b_0)) true), some (Ent.mk [(12, (pPtr (cGBand b_0)))] (pPtr (cGBand b_0)) true), some (Ent.mk [(13, (pPtr (cGBand b_0)))] (pPtr ((cK .i64) b_0.Raster)) true), some (Ent.mk [(14, (pPtr ((cK .i64) b_0.Raster)))] (pEq (.int .i64 b_0.Raster)) true), some (Ent.mk [(11, (pEq (.int .i64 (w64 (b_0.High - b_0.Low))))), (15, (pEq (.int .i64 b_0.Raster)))] (pEq (.int .i64 x1)) true)]) (rd := [[0], [3], [4], [5], [0], [7], [8], [9], [6, 10], [0], [12], [13], [14], [11, 15]]) rfl hmix (by kernel_rfl) fun hD => ?_
  refine RD.fin (es := [Ent.mk [(0, (pPtr (cGBand b_0)))] (pPtr (cGBand b_0)) true, Ent.mk [(3, (pPtr (cGBand b_0)))] (pPtr (cGBand b_0)) true, Ent.mk [(4, (pPtr (cGBand b_0)))] (pPtr ((cK .i64) b_0.High)) true, Ent.mk [(5, (pPtr ((cK .i64) b_0.High)))] (pEq (.int .i64 b_0.High)) true, Ent.mk [(0, (pPtr (cGBand b_0)))] (pPtr (cGBand b_0)) true, Ent.mk [(7, (pPtr (cGBand b_0)))] (pPtr (cGBand b_0)) true, Ent.mk [(8, (pPtr (cGBand b_0)))] (pPtr ((cK .i64) b_0.Low)) true, Ent.mk [(9, (pPtr ((cK .i64) b_0.Low)))] (pEq (.int .i64 b_0.Low)) true, Ent.mk [(6, (pEq (.int .i64 b_0.High))), (10, (pEq (.int .i64 b_0.Low)))] (pEq (.int .i64 (w64 (b_0.High - b_0.Low)))) true, Ent.mk [(0, (pPtr (cGBand b_0)))] (pPtr (cGBand b_0)) true, Ent.mk [(12, (pPtr (cGBand b_0)))] (pPtr (cGBand b_0)) true, Ent.mk [(13, (pPtr (cGBand b_0)))] (pPtr ((cK .i64) b_0.Raster)) true, Ent.mk [(14, (pPtr ((cK .i64) b_0.Raster)))] (pEq (.int .i64 b_0.Raster)) true, Ent.mk [(11, (pEq (.int .i64 (w64 (b_0.High - b_0.Low))))), (15, (pEq (.int .i64 b_0.Raster)))] (pEq (.int .i64 x1)) true]) (done := []) hD ⟨.inr ⟨(OpJ.w (J_move rfl (Opd.tmp rfl))), ⟨rfl, trivial⟩, rfl, rfl⟩, ⟨.inr ⟨(OpJ.w (J_nilCheck rfl (Opd.tmp rfl))), ⟨rfl, trivial⟩, rfl, rfl⟩, ⟨.inr ⟨(OpJ.w (J_fieldAddr rfl Tryd.underlying52 rfl sz2 (by decide) (Opd.tmp rfl) rfl)), ⟨rfl, trivial⟩, rfl, rfl⟩, ⟨.inr ⟨(OpJ.w (J_load rfl Tryd.isAgg2 (Opd.tmp rfl))), ⟨rfl, trivial⟩, rfl, rfl⟩, ⟨.inr ⟨(OpJ.w (J_move rfl (Opd.tmp rfl))), ⟨rfl, trivial⟩, rfl, rfl⟩, ⟨.inr ⟨(OpJ.w (J_nilCheck rfl (Opd.tmp rfl))), ⟨rfl, trivial⟩, rfl, rfl⟩, ⟨.inr ⟨(OpJ.w (J_fieldAddr rfl Tryd.underlying52 rfl sz2 (by decide) (Opd.tmp rfl) rfl)), ⟨rfl, trivial⟩, rfl, rfl⟩, ⟨.inr ⟨(OpJ.w (J_load rfl Tryd.isAgg2 (Opd.tmp rfl))), ⟨rfl, trivial⟩, rfl, rfl⟩, ⟨.inr ⟨(OpJ.w (J_bin rfl (Opd.tmp rfl) (Opd.tmp rfl) B_sub)), ⟨rfl, rfl, trivial⟩, rfl, rfl⟩, ⟨.inr ⟨(OpJ.w (J_move rfl (Opd.tmp rfl))), ⟨rfl, trivial⟩, rfl, rfl⟩, ⟨.inr ⟨(OpJ.w (J_nilCheck rfl (Opd.tmp rfl))), ⟨rfl, trivial⟩, rfl, rfl⟩, ⟨.inr ⟨(OpJ.w (J_fieldAddr rfl Tryd.underlying52 rfl sz2 (by decide) (Opd.tmp rfl) rfl)), ⟨rfl, trivial⟩, rfl, rfl⟩, ⟨.inr ⟨(OpJ.w (J_load rfl Tryd.isAgg2 (Opd.tmp rfl))), ⟨rfl, trivial⟩, rfl, rfl⟩, ⟨.inr ⟨(OpJ.w (J_bin rfl (Opd.tmp rfl) (Opd.tmp rfl) (B_qdiv hx1))), ⟨rfl, rfl, trivial⟩, rfl, rfl⟩, trivial⟩⟩⟩⟩⟩⟩⟩⟩⟩⟩⟩⟩⟩⟩ ?_
  refine RegL.pure (p := (pEq (.int .i64 x1))) rfl rfl rfl (J_assign rfl (Opd.tmp rfl)) ?_
  refine RegL.nil ?_
  refine Ct.then_tr ?_
  refine Tr.weak (Γ' := [(2, (pEq (.int .i64 x1)))]) ⟨rfl, trivial⟩ ?_
  refine Tr.ret ?_
  replace h := Option.some.inj h; subst h
  exact Ct.retH1 (Ωx := []) () rfl (RvOk.tmp rfl) rfl

theorem c_spec_l15Ok {a_0 : GBand} {r : Bool} (h : m_spec_l15Ok a_0 = some r) : CallJ Tryd.prog 58 [(pPtr (cGBand a_0))] (pEq (.bool r)) := by
  unfold m_spec_l15Ok at h
  refine CallJ.enterH Tryd.func58 rfl Tryd.ntmps58 rfl fun W I0 H => ?_
  refine Tr.weak (Γ' := [(0, (pPtr (cGBand a_0)))]) ⟨rfl, trivial⟩ ?_
  refine Tr.seq ?_
  refine Tr.region ?_
  refine RegL.pure (p := (pEq (.bool false))) rfl rfl rfl (J_assign rfl Opd.con) ?_
  refine RegL.nil ?_
  refine Ct.then_tr ?_
  refine Tr.weak (Γ' := [(0, (pPtr (cGBand a_0)))]) ⟨rfl, trivial⟩ ?_
  refine Tr.seq ?_
  refine Tr.seq ?_
  replace h := bind_some h; obtain ⟨x1, hx1, h⟩ := h
  refine Tr.cut (γ := Unit) (Γm := fun g => [(0, (pPtr (cGBand a_0))), (40, (pEq (.bool x1)))]) (Ωm := fun g => []) ?_ (fun g11 => ?_)
  · clear h
    have h := hx1
    clear hx1
    refine Tr.region ?_
    refine RegL.pure (p := (pPtr (cGBand a_0))) rfl rfl rfl (J_move rfl (Opd.tmp rfl)) ?_
    refine RegL.pure (p := (pPtr (cGBand a_0))) rfl rfl rfl (J_nilCheck rfl (Opd.tmp rfl)) ?_
    refine RegL.pure (p := (pPtr (cS a_0.Name))) rfl rfl rfl (J_fieldAddr rfl Tryd.underlying52 rfl sz9 (by decide) (Opd.tmp rfl) rfl) ?_
    refine RegL.pure (p := (pEq (.string a_0.Name))) rfl rfl rfl (J_load rfl Tryd.isAgg9 (Opd.tmp rfl)) ?_
    replace h := bind_some h; obtain ⟨x2, hx2, h⟩ := h
    refine RegL.pure (p := (pEq (.bool x2))) rfl rfl rfl (J_call rfl Tryd.call90 (c_spec_l01Name hx2) (Opds.cons (Opd.tmp rfl) Opds.nil)) ?_
    refine RegL.pure (p := (pEq (.bool (!x2)))) rfl rfl rfl (J_not rfl (Opd.tmp rfl)) ?_
    refine RegL.pure (p := (pEq (.bool (!x2)))) rfl rfl rfl (J_move rfl (Opd.tmp rfl)) ?_
    rcases Bool.eq_false_or_eq_true (!x2) with hc3 | hc3
    · replace h := bif_t hc3 h
      refine RegL.skipG rfl rfl rfl hc3 rfl rfl ?_
      refine RegL.skipG rfl rfl rfl hc3 rfl rfl ?_
      refine RegL.skipG rfl rfl rfl hc3 rfl rfl ?_
      refine RegL.skipG rfl rfl rfl hc3 rfl rfl ?_
      refine RegL.skipG rfl rfl rfl hc3 rfl rfl ?_
      refine RegL.skipG rfl rfl rfl hc3 rfl rfl ?_
      refine RegL.pure (p := (pEq (.bool true))) rfl rfl rfl (J_pick rfl (Opd.tmp rfl) (fun _ => Opd.con) (fun hf => absurd (hc3.symm.trans hf) (by decide))) ?_
      refine RegL.pure (p := (pEq (.bool true))) rfl rfl rfl (J_move rfl (Opd.tmp rfl)) ?_
      refine RegL.skipG rfl rfl rfl rfl rfl rfl ?_
      refine RegL.skipG rfl rfl rfl rfl rfl rfl ?_
      refine RegL.skipG rfl rfl rfl rfl rfl rfl ?_
      refine RegL.skipG rfl rfl rfl rfl rfl rfl ?_
      refine RegL.skipG rfl rfl rfl rfl rfl rfl ?_
      refine RegL.skipG rfl rfl rfl rfl rfl rfl ?_
      refine RegL.pure (p := (pEq (.bool true))) rfl rfl rfl (J_pick rfl (Opd.tmp rfl) (fun _ => Opd.con) (fun hf => absurd hf (by decide))) ?_
      refine RegL.pure (p := (pEq (.bool true))) rfl rfl rfl (J_move rfl (Opd.tmp rfl)) ?_
      refine RegL.skipG rfl rfl rfl rfl rfl rfl ?_
      refine RegL.skipG rfl rfl rfl rfl rfl rfl ?_
      refine RegL.skipG rfl rfl rfl rfl rfl rfl ?_
      refine RegL.skipG rfl rfl rfl rfl rfl rfl ?_
      refine RegL.skipG rfl rfl rfl rfl rfl rfl ?_
      refine RegL.skipG rfl rfl rfl rfl rfl rfl ?_
      refine RegL.pure (p := (pEq (.bool true))) rfl rfl rfl (J_pick rfl (Opd.tmp rfl) (fun _ => Opd.con) (fun hf => absurd hf (by decide))) ?_
      refine RegL.pure (p := (pEq (.bool true))) rfl rfl rfl (J_move rfl (Opd.tmp rfl)) ?_
      refine RegL.skipG rfl rfl rfl rfl rfl rfl ?_
      refine RegL.skipG rfl rfl rfl rfl rfl rfl ?_
      refine RegL.skipG rfl rfl rfl rfl rfl rfl ?_
      refine RegL.skipG rfl rfl rfl rfl rfl rfl ?_
      refine RegL.skipG rfl rfl rfl rfl rfl rfl ?_
      refine RegL.skipG rfl rfl rfl rfl rfl rfl ?_
      refine RegL.pure (p := (pEq (.bool true))) rfl rfl rfl (J_pick rfl (Opd.tmp rfl) (fun _ => Opd.con) (fun hf => absurd hf (by decide))) ?_
      refine RegL.nil ?_
      replace h := Option.some.inj h; subst h
      exact Ct.mid () rfl ⟨rfl, rfl, trivial⟩
    · replace h := bif_f hc3 h
      refine RegL.pureG (p := (pPtr (cGBand a_0))) rfl rfl rfl hc3 rfl rfl (J_move rfl (Opd.tmp rfl)) ?_
      refine RegL.pureG (p := (pPtr (cGBand a_0))) rfl rfl rfl hc3 rfl rfl (J_nilCheck rfl (Opd.tmp rfl)) ?_
      refine RegL.pureG (p := (pPtr ((cK .i64) a_0.Low))) rfl rfl rfl hc3 rfl rfl (J_fieldAddr rfl Tryd.underlying52 rfl sz2 (by decide) (Opd.tmp rfl) rfl) ?_
      refine RegL.pureG (p := (pEq (.int .i64 a_0.Low))) rfl rfl rfl hc3 rfl rfl (J_load rfl Tryd.isAgg2 (Opd.tmp rfl)) ?_
      replace h := bind_some h; obtain ⟨x4, hx4, h⟩ := h
      refine RegL.pureG (p := (pEq (.bool x4))) rfl rfl rfl hc3 rfl rfl (J_call rfl Tryd.call38 (c_spec_l00In hx4) (Opds.cons (Opd.tmp rfl) (Opds.cons Opd.con (Opds.cons Opd.con Opds.nil)))) ?_
      refine RegL.pureG (p := (pEq (.bool (!x4)))) rfl rfl rfl hc3 rfl rfl (J_not rfl (Opd.tmp rfl)) ?_
      refine RegL.pure (p := (pEq (.bool (!x4)))) rfl rfl rfl (J_pick rfl (Opd.tmp rfl) (fun hf => absurd (hc3.symm.trans hf) (by decide)) (fun _ => (Opd.tmp rfl))) ?_
      refine RegL.pure (p := (pEq (.bool (!x4)))) rfl rfl rfl (J_move rfl (Opd.tmp rfl)) ?_
      rcases Bool.eq_false_or_eq_true (!x4) with hc5 | hc5
      · replace h := bif_t hc5 h
        refine RegL.skipG rfl rfl rfl hc5 rfl rfl ?_
        refine RegL.skipG rfl rfl rfl hc5 rfl rfl ?_
        refine RegL.skipG rfl rfl rfl hc5 rfl rfl ?_
        refine RegL.skipG rfl rfl rfl hc5 rfl rfl ?_
        refine RegL.skipG rfl rfl rfl hc5 rfl rfl ?_
        refine RegL.skipG rfl rfl rfl hc5 rfl rfl ?_
        refine RegL.pure (p := (pEq (.bool true))) rfl rfl rfl (J_pick rfl (Opd.tmp rfl) (fun _ => Opd.con) (fun hf => absurd (hc5.symm.trans hf) (by decide))) ?_
        refine RegL.pure (p := (pEq (.bool true))) rfl rfl rfl (J_move rfl (Opd.tmp rfl)) ?_
        refine RegL.skipG rfl rfl rfl rfl rfl rfl ?_
        refine RegL.skipG rfl rfl rfl rfl rfl rfl ?_
        refine RegL.skipG rfl rfl rfl rfl rfl rfl ?_
        refine RegL.skipG rfl rfl rfl rfl rfl rfl ?_
        refine RegL.skipG rfl rfl rfl rfl rfl rfl ?_
        refine RegL.skipG rfl rfl rfl rfl rfl rfl ?_
        refine RegL.pure (p := (pEq (.bool true))) rfl rfl rfl (J_pick rfl (Opd.tmp rfl) (fun _ => Opd.con) (fun hf => absurd hf (by decide))) ?_
        refine RegL.pure (p := (pEq (.bool true))) rfl rfl rfl (J_move rfl (Opd.tmp rfl)) ?_
        refine RegL.skipG rfl rfl rfl rfl rfl rfl ?_
        refine RegL.skipG rfl rfl rfl rfl rfl rfl ?_
        refine RegL.skipG rfl rfl rfl rfl rfl rfl ?_
        refine RegL.skipG rfl rfl rfl rfl rfl rfl ?_
        refine RegL.skipG rfl rfl rfl rfl rfl rfl ?_
        refine RegL.skipG rfl rfl rfl rfl rfl rfl ?_
        refine RegL.pure (p := (pEq (.bool true))) rfl rfl rfl (J_pick rfl (Opd.tmp rfl) (fun _ => Opd.con) (fun hf => absurd hf (by decide))) ?_
        refine RegL.nil ?_
        replace h := Option.some.inj h; subst h
        exact Ct.mid () rfl ⟨rfl, rfl, trivial⟩
      · replace h := bif_f hc5 h
        refine RegL.pureG (p := (pPtr (cGBand a_0))) rfl rfl rfl hc5 rfl rfl (J_move rfl (Opd.tmp rfl)) ?_
        refine RegL.pureG (p := (pPtr (cGBand a_0))) rfl rfl rfl hc5 rfl rfl (J_nilCheck rfl (Opd.tmp rfl)) ?_
        refine RegL.pureG (p := (pPtr ((cK .i64) a_0.High))) rfl rfl rfl hc5 rfl rfl (J_fieldAddr rfl Tryd.underlying52 rfl sz2 (by decide) (Opd.tmp rfl) rfl) ?_
        refine RegL.pureG (p := (pEq (.int .i64 a_0.High))) rfl rfl rfl hc5 rfl rfl (J_load rfl Tryd.isAgg2 (Opd.tmp rfl)) ?_
        replace h := bind_some h; obtain ⟨x6, hx6, h⟩ := h
        refine RegL.pureG (p := (pEq (.bool x6))) rfl rfl rfl hc5 rfl rfl (J_call rfl Tryd.call38 (c_spec_l00In hx6) (Opds.cons (Opd.tmp rfl) (Opds.cons Opd.con (Opds.cons Opd.con Opds.nil)))) ?_
        refine RegL.pureG (p := (pEq (.bool (!x6)))) rfl rfl rfl hc5 rfl rfl (J_not rfl (Opd.tmp rfl)) ?_
        refine RegL.pure (p := (pEq (.bool (!x6)))) rfl rfl rfl (J_pick rfl (Opd.tmp rfl) (fun hf => absurd (hc5.symm.trans hf) (by decide)) (fun _ => (Opd.tmp rfl))) ?_
        refine RegL.pure (p := (pEq (.bool (!x6)))) rfl rfl rfl (J_move rfl (Opd.tmp rfl)) ?_
        rcases Bool.eq_false_or_eq_true (!x6) with hc7 | hc7
        · replace h := bif_t hc7 h
          refine RegL.skipG rfl rfl rfl hc7 rfl rfl ?_
          refine RegL.skipG rfl rfl rfl hc7 rfl rfl ?_
          refine RegL.skipG rfl rfl rfl hc7 rfl rfl ?_
          refine RegL.skipG rfl rfl rfl hc7 rfl rfl ?_
          refine RegL.skipG rfl rfl rfl hc7 rfl rfl ?_
          refine RegL.skipG rfl rfl rfl hc7 rfl rfl ?_
          refine RegL.pure (p := (pEq (.bool true))) rfl rfl rfl (J_pick rfl (Opd.tmp rfl) (fun _ => Opd.con) (fun hf => absurd (hc7.symm.trans hf) (by decide))) ?_
          refine RegL.pure (p := (pEq (.bool true))) rfl rfl rfl (J_move rfl (Opd.tmp rfl)) ?_
          refine RegL.skipG rfl rfl rfl rfl rfl rfl ?_
          refine RegL.skipG rfl rfl rfl rfl rfl rfl ?_
          refine RegL.skipG rfl rfl rfl rfl rfl rfl ?_
          refine RegL.skipG rfl rfl rfl rfl rfl rfl ?_
          refine RegL.skipG rfl rfl rfl rfl rfl rfl ?_
          refine RegL.skipG rfl rfl rfl rfl rfl rfl ?_
          refine RegL.pure (p := (pEq (.bool true))) rfl rfl rfl (J_pick rfl (Opd.tmp rfl) (fun _ => Opd.con) (fun hf => absurd hf (by decide))) ?_
          refine RegL.nil ?_
          replace h := Option.some.inj h; subst h
          exact Ct.mid () rfl ⟨rfl, rfl, trivial⟩
        · replace h := bif_f hc7 h
          refine RegL.pureG (p := (pPtr (cGBand a_0))) rfl rfl rfl hc7 rfl rfl (J_move rfl (Opd.tmp rfl)) ?_
          refine RegL.pureG (p := (pPtr (cGBand a_0))) rfl rfl rfl hc7 rfl rfl (J_nilCheck rfl (Opd.tmp rfl)) ?_
          refine RegL.pureG (p := (pPtr ((cK .i64) a_0.Raster))) rfl rfl rfl hc7 rfl rfl (J_fieldAddr rfl Tryd.underlying52 rfl sz2 (by decide) (Opd.tmp rfl) rfl) ?_
          refine RegL.pureG (p := (pEq (.int .i64 a_0.Raster))) rfl rfl rfl hc7 rfl rfl (J_load rfl Tryd.isAgg2 (Opd.tmp rfl)) ?_
          replace h := bind_some h; obtain ⟨x8, hx8, h⟩ := h
          refine RegL.pureG (p := (pEq (.bool x8))) rfl rfl rfl hc7 rfl rfl (J_call rfl Tryd.call38 (c_spec_l00In hx8) (Opds.cons (Opd.tmp rfl) (Opds.cons Opd.con (Opds.cons Opd.con Opds.nil)))) ?_
          refine RegL.pureG (p := (pEq (.bool (!x8)))) rfl rfl rfl hc7 rfl rfl (J_not rfl (Opd.tmp rfl)) ?_
          refine RegL.pure (p := (pEq (.bool (!x8)))) rfl rfl rfl (J_pick rfl (Opd.tmp rfl) (fun hf => absurd (hc7.symm.trans hf) (by decide)) (fun _ => (Opd.tmp rfl))) ?_
          refine RegL.pure (p := (pEq (.bool (!x8)))) rfl rfl rfl (J_move rfl (Opd.tmp rfl)) ?_
          rcases Bool.eq_false_or_eq_true (!x8) with hc9 | hc9
          · replace h := bif_t hc9 h
            refine RegL.skipG rfl rfl rfl hc9 rfl rfl ?_
            refine RegL.skipG rfl rfl rfl hc9 rfl rfl ?_
            refine RegL.skipG rfl rfl rfl hc9 rfl rfl ?_
            refine RegL.skipG rfl rfl rfl hc9 rfl rfl ?_
            refine RegL.skipG rfl rfl rfl hc9 rfl rfl ?_
            refine RegL.skipG rfl rfl rfl hc9 rfl rfl ?_
            refine RegL.pure (p := (pEq (.bool true))) rfl rfl rfl (J_pick rfl (Opd.tmp rfl) (fun _ => Opd.con) (fun hf => absurd (hc9.symm.trans hf) (by decide))) ?_
            refine RegL.nil ?_
            replace h := Option.some.inj h; subst h
            exact Ct.mid () rfl ⟨rfl, rfl, trivial⟩
          · replace h := bif_f hc9 h
            refine RegL.pureG (p := (pPtr (cGBand a_0))) rfl rfl rfl hc9 rfl rfl (J_move rfl (Opd.tmp rfl)) ?_
            refine RegL.pureG (p := (pPtr (cGBand a_0))) rfl rfl rfl hc9 rfl rfl (J_nilCheck rfl (Opd.tmp rfl)) ?_
            refine RegL.pureG (p := (pPtr ((cK .i64) a_0.Duplex))) rfl rfl rfl hc9 rfl rfl (J_fieldAddr rfl Tryd.underlying52 rfl sz2 (by decide) (Opd.tmp rfl) rfl) ?_
            refine RegL.pureG (p := (pEq (.int .i64 a_0.Duplex))) rfl rfl rfl hc9 rfl rfl (J_load rfl Tryd.isAgg2 (Opd.tmp rfl)) ?_
            replace h := bind_some h; obtain ⟨x10, hx10, h⟩ := h
            refine RegL.pureG (p := (pEq (.bool x10))) rfl rfl rfl hc9 rfl rfl (J_call rfl Tryd.call38 (c_spec_l00In hx10) (Opds.cons (Opd.tmp rfl) (Opds.cons Opd.con (Opds.cons Opd.con Opds.nil)))) ?_
            refine RegL.pureG (p := (pEq (.bool (!x10)))) rfl rfl rfl hc9 rfl rfl (J_not rfl (Opd.tmp rfl)) ?_
            refine RegL.pure (p := (pEq (.bool (!x10)))) rfl rfl rfl (J_pick rfl (Opd.tmp rfl) (fun hf => absurd (hc9.symm.trans hf) (by decide)) (fun _ => (Opd.tmp rfl))) ?_
            refine RegL.nil ?_
            replace h := Option.some.inj h; subst h
            exact Ct.mid () rfl ⟨rfl, rfl, trivial⟩
  · clear hx1
    refine Ct.then_tr ?_
    refine Tr.weak (Γ' := [(0, (pPtr (cGBand a_0))), (40, (pEq (.bool x1)))]) ⟨rfl, rfl, trivial⟩ ?_
    refine Tr.cond (Opd.tmp rfl) (fun hc => ?_) (fun hc => ?_)
    · replace h := bif_t hc h
      refine Tr.seq ?_
      refine Tr.region ?_
      refine RegL.pure (p := (pEq (.bool false))) rfl rfl rfl (J_assign rfl Opd.con) ?_
      refine RegL.nil ?_
      refine Ct.then_tr ?_
      refine Tr.weak (Γ' := [(2, (pEq (.bool false)))]) ⟨rfl, trivial⟩ ?_
      refine Tr.ret ?_
      refine Ct.then_ret ?_
      replace h := Option.some.inj h; subst h
      exact Ct.retH1 (Ωx := []) () rfl (RvOk.tmp rfl) rfl
    · replace h := bif_f hc h
      refine Tr.skip ?_
      refine Ct.then_tr ?_
      refine Tr.weak (Γ' := [(0, (pPtr (cGBand a_0)))]) ⟨rfl, trivial⟩ ?_
      refine Tr.seq ?_
      refine Tr.seq ?_
      refine Tr.region ?_
      refine RegL.pure (p := (pPtr (cGBand a_0))) rfl rfl rfl (J_move rfl (Opd.tmp rfl)) ?_
      replace h := bind_some h; obtain ⟨x12, hx12, h⟩ := h
      refine RegL.pure (p := (pEq (.int .i64 x12))) rfl rfl rfl (J_call rfl Tryd.call91 (c_spec_l15Count hx12) (Opds.cons (Opd.tmp rfl) Opds.nil)) ?_
      replace h := bind_some h; obtain ⟨x13, hx13, h⟩ := h
      refine RegL.pure (p := (pEq (.bool x13))) rfl rfl rfl (J_call rfl Tryd.call38 (c_spec_l00In hx13) (Opds.cons (Opd.tmp rfl) (Opds.cons Opd.con (Opds.cons Opd.con Opds.nil)))) ?_
      refine RegL.pure (p := (pEq (.bool (!x13)))) rfl rfl rfl (J_not rfl (Opd.tmp rfl)) ?_
      refine RegL.nil ?_
      refine Ct.then_tr ?_
      refine Tr.weak (Γ' := [(0, (pPtr (cGBand a_0))), (44, (pEq (.bool (!x13))))]) ⟨rfl, rfl, trivial⟩ ?_
      refine Tr.cond (Opd.tmp rfl) (fun hc => ?_) (fun hc => ?_)
      · replace h := bif_t hc h
        refine Tr.seq ?_
        refine Tr.region ?_
        refine RegL.pure (p := (pEq (.bool false))) rfl rfl rfl (J_assign rfl Opd.con) ?_
        refine RegL.nil ?_
        refine Ct.then_tr ?_
        refine Tr.weak (Γ' := [(2, (pEq (.bool false)))]) ⟨rfl, trivial⟩ ?_
        refine Tr.ret ?_
        refine Ct.then_ret ?_
        replace h := Option.some.inj h; subst h
        exact Ct.retH1 (Ωx := []) () rfl (RvOk.tmp rfl) rfl
      · replace h := bif_f hc h
        refine Tr.skip ?_
        refine Ct.then_tr ?_
        refine Tr.weak (Γ' := [(0, (pPtr (cGBand a_0)))]) ⟨rfl, trivial⟩ ?_
        refine Tr.seq ?_
        replace h := bind_some h; obtain ⟨x14, hx14, h⟩ := h
        refine Tr.cut (γ := Unit) (Γm := fun g => [(2, (pEq (.bool x14)))]) (Ωm := fun g => []) ?_ (fun g17 => ?_)
        · clear h
          have h := hx14
          clear hx14
          rcases Bool.eq_false_or_eq_true (a_0.Duplex == (0 : Int)) with hc15 | hc15
          · replace h := bif_t hc15 h
            refine Tr.drawD (n := 78) (m := 33) (es := [some (Ent.mk [(0, (pPtr (cGBand a_0)))] (pPtr (cGBand a_0)) true), some (Ent.mk [(45, (pPtr (cGBand a_0)))] (pPtr (cGBand a_0)) true), some (Ent.mk [(46, (pPtr (cGBand a_0)))] (pPtr ((cK .i64) a_0.Duplex)) true), some (Ent.mk [(47, (pPtr ((cK .i64) a_0.Duplex)))] (pEq (.int .i64 a_0.Duplex)) true), some (Ent.mk [(48, (pEq (.int .i64 a_0.Duplex)))] (pEq (.bool (a_0.Duplex == (0 : Int)))) true), some (Ent.mk [(49, (pEq (.bool (a_0.Duplex == (0 : Int)))))] (pEq (.bool (a_0.Duplex == (0 : Int)))) true), some (Ent.mk [(0, (pPtr (cGBand a_0)))] (pEq undef) false), some (Ent.mk [(51, (pEq undef))] (pEq undef) false), some (Ent.mk [(52, (pEq undef))] (pEq undef) false), some (Ent.mk [(53, (pEq undef))] (pEq undef) false), some (Ent.mk [(0, (pPtr (cGBand a_0)))] (pEq undef) false), some (Ent.mk [(55, (pEq undef))] (pEq undef) false), some (Ent.mk [(56, (pEq undef))] (pEq undef) false), some (Ent.mk [(57, (pEq undef))] (pEq undef) false), some (Ent.mk [(0, (pPtr (cGBand a_0)))] (pEq undef) false), some (Ent.mk [(59, (pEq undef))] (pEq undef) false), some (Ent.mk [(60, (pEq undef))] (pEq undef) false), some (Ent.mk [(61, (pEq undef))] (pEq undef) false), some (Ent.mk [(58, (pEq undef)), (62, (pEq undef))] (pEq undef) false), some (Ent.mk [(54, (pEq undef)), (63, (pEq undef))] (pEq undef) false), some (Ent.mk [(64, (pEq undef))] (pEq undef) false), some (Ent.mk [(0, (pPtr (cGBand a_0)))] (pEq undef) false), some (Ent.mk [(66, (pEq undef))] (pEq undef) false), some (Ent.mk [(67, (pEq undef))] (pEq undef) false), some (Ent.mk [(68, (pEq undef))] (pEq undef) false), some (Ent.mk [(0, (pPtr (cGBand a_0)))] (pEq undef) false), some (Ent.mk [(70, (pEq undef))] (pEq undef) false), some (Ent.mk [(71, (pEq undef))] (pEq undef) false), some (Ent.mk [(72, (pEq undef))] (pEq undef) false), some (Ent.mk [(69, (pEq undef)), (73, (pEq undef))] (pEq undef) false), some (Ent.mk [(74, (pEq undef))] (pEq undef) false), some (Ent.mk [(65, (pEq undef)), (75, (pEq undef))] (pEq undef) false), some (Ent.mk [(50, (pEq (.bool (a_0.Duplex == (0 : Int))))), (76, (pEq undef))] (pEq (.bool true)) true)]) (rd := [[0], [45], [46], [47], [48], [49], [0], [51], [52], [53], [0], [55], [56], [57], [0], [59], [60], [61], [58, 62], [54, 63], [64], [0], [66], [67], [68], [0], [70], [71], [72], [69, 73], [74], [65, 75], [50, 76]]) rfl hmix (by kernel_rfl) fun hD => ?_
            refine RD.fin (es := [Ent.mk [(0, (pPtr (cGBand a_0)))] (pPtr (cGBand a_0)) true, Ent.mk [(45, (pPtr (cGBand a_0)))] (pPtr (cGBand a_0)) true, Ent.mk [(46, (pPtr (cGBand a_0)))] (pPtr ((cK .i64) a_0.Duplex)) true, Ent.mk [(47, (pPtr ((cK .i64) a_0.Duplex)))] (pEq (.int .i64 a_0.Duplex)) true, Ent.mk [(48, (pEq (.int .i64 a_0.Duplex)))] (pEq (.bool (a_0.Duplex == (0 : Int)))) true, Ent.mk [(49, (pEq (.bool (a_0.Duplex == (0 : Int)))))] (pEq (.bool (a_0.Duplex == (0 : Int)))) true, Ent.mk [(0, (pPtr (cGBand a_0)))] (pEq undef) false, Ent.mk [(51, (pEq undef))] (pEq undef) false, Ent.mk [(52, (pEq undef))] (pEq undef) false, Ent.mk [(53, (pEq undef))] (pEq undef) false, Ent.mk [(0, (pPtr (cGBand a_0)))] (pEq undef) false, Ent.mk [(55, (pEq undef))] (pEq undef) false, Ent.mk [(56, (pEq undef))] (pEq undef) false, Ent.mk [(57, (pEq undef))] (pEq undef) false, Ent.mk [(0, (pPtr (cGBand a_0)))] (pEq undef) false, Ent.mk [(59, (pEq undef))] (pEq undef) false, Ent.mk [(60, (pEq undef))] (pEq undef) false, Ent.mk [(61, (pEq undef))] (pEq undef) false, Ent.mk [(58, (pEq undef)), (62, (pEq undef))] (pEq undef) false, Ent.mk [(54, (pEq undef)), (63, (pEq undef))] (pEq undef) false, Ent.mk [(64, (pEq undef))] (pEq undef) false, Ent.mk [(0, (pPtr (cGBand a_0)))] (pEq undef) false, Ent.mk [(66, (pEq undef))] (pEq undef) false, Ent.mk [(67, (pEq undef))] (pEq undef) false, Ent.mk [(68, (pEq undef))] (pEq undef) false, Ent.mk [(0, (pPtr (cGBand a_0)))] (pEq undef) false, Ent.mk [(70, (pEq undef))] (pEq undef) false, Ent.mk [(71, (pEq undef))] (pEq undef) false, Ent.mk [(72, (pEq undef))] (pEq undef) false, Ent.mk [(69, (pEq undef)), (73, (pEq undef))] (pEq undef) false, Ent.mk [(74, (pEq undef))] (pEq undef) false, Ent.mk [(65, (pEq undef)), (75, (pEq undef))] (pEq undef) false, Ent.mk [(50, (pEq (.bool (a_0.Duplex == (0 : Int))))), (76, (pEq undef))] (pEq (.bool true)) true]) (done := []) hD ⟨.inr ⟨(OpJ.w (J_move rfl (Opd.tmp rfl))), ⟨rfl, trivial⟩, rfl, rfl⟩, ⟨.inr ⟨(OpJ.w (J_nilCheck rfl (Opd.tmp rfl))), ⟨rfl, trivial⟩, rfl, rfl⟩, ⟨.inr ⟨(OpJ.w (J_fieldAddr rfl Tryd.underlying52 rfl sz2 (by decide) (Opd.tmp rfl) rfl)), ⟨rfl, trivial⟩, rfl, rfl⟩, ⟨.inr ⟨(OpJ.w (J_load rfl Tryd.isAgg2 (Opd.tmp rfl))), ⟨rfl, trivial⟩, rfl, rfl⟩, ⟨.inr ⟨(OpJ.w (J_bin rfl (Opd.tmp rfl) Opd.con B_eql)), ⟨rfl, trivial⟩, rfl, rfl⟩, ⟨.inr ⟨(OpJ.w (J_move rfl (Opd.tmp rfl))), ⟨rfl, trivial⟩, rfl, rfl⟩, ⟨.inr ⟨rfl, ⟨rfl, trivial⟩, (.inl ⟨_, rfl, by simp [hc15]⟩), rfl⟩, ⟨.inr ⟨rfl, ⟨rfl, trivial⟩, (.inl ⟨_, rfl, by simp [hc15]⟩), rfl⟩, ⟨.inr ⟨rfl, ⟨rfl, trivial⟩, (.inl ⟨_, rfl, by simp [hc15]⟩), rfl⟩, ⟨.inr ⟨rfl, ⟨rfl, trivial⟩, (.inl ⟨_, rfl, by simp [hc15]⟩), rfl⟩, ⟨.inr ⟨rfl, ⟨rfl, trivial⟩, (.inl ⟨_, rfl, by simp [hc15]⟩), rfl⟩, ⟨.inr ⟨rfl, ⟨rfl, trivial⟩, (.inl ⟨_, rfl, by simp [hc15]⟩), rfl⟩, ⟨.inr ⟨rfl, ⟨rfl, trivial⟩, (.inl ⟨_, rfl, by simp [hc15]⟩), rfl⟩, ⟨.inr ⟨rfl, ⟨rfl, trivial⟩, (.inl ⟨_, rfl, by simp [hc15]⟩), rfl⟩, ⟨.inr ⟨rfl, ⟨rfl, trivial⟩, (.inl ⟨_, rfl, by simp [hc15]⟩), rfl⟩, ⟨.inr ⟨rfl, ⟨rfl, trivial⟩, (.inl ⟨_, rfl, by simp [hc15]⟩), rfl⟩, ⟨.inr ⟨rfl, ⟨rfl, trivial⟩, (.inl ⟨_, rfl, by simp [hc15]⟩), rfl⟩, ⟨.inr ⟨rfl, ⟨rfl, trivial⟩, (.inl ⟨_, rfl, by simp [hc15]⟩), rfl⟩, ⟨.inr ⟨rfl, ⟨rfl, rfl, trivial⟩, (.inl ⟨_, rfl, by simp [hc15]⟩), rfl⟩, ⟨.inr ⟨rfl, ⟨rfl, rfl, trivial⟩, (.inl ⟨_, rfl, by simp [hc15]⟩), rfl⟩, ⟨.inr ⟨rfl, ⟨rfl, trivial⟩, (.inl ⟨_, rfl, by simp [hc15]⟩), rfl⟩, ⟨.inr ⟨rfl, ⟨rfl, trivial⟩, (.inr ⟨rfl, rfl⟩), rfl⟩, ⟨.inr ⟨rfl, ⟨rfl, trivial⟩, (.inr ⟨rfl, rfl⟩), rfl⟩, ⟨.inr ⟨rfl, ⟨rfl, trivial⟩, (.inr ⟨rfl, rfl⟩), rfl⟩, ⟨.inr ⟨rfl, ⟨rfl, trivial⟩, (.inr ⟨rfl, rfl⟩), rfl⟩, ⟨.inr ⟨rfl, ⟨rfl, trivial⟩, (.inr ⟨rfl, rfl⟩), rfl⟩, ⟨.inr ⟨rfl, ⟨rfl, trivial⟩, (.inr ⟨rfl, rfl⟩), rfl⟩, ⟨.inr ⟨rfl, ⟨rfl, trivial⟩, (.inr ⟨rfl, rfl⟩), rfl⟩, ⟨.inr ⟨rfl, ⟨rfl, trivial⟩, (.inr ⟨rfl, rfl⟩), rfl⟩, ⟨.inr ⟨rfl, ⟨rfl, rfl, trivial⟩, (.inr ⟨rfl, rfl⟩), rfl⟩, ⟨.inr ⟨rfl, ⟨rfl, trivial⟩, (.inr ⟨rfl, rfl⟩), rfl⟩, ⟨.inr ⟨rfl, ⟨rfl, rfl, trivial⟩, (.inl ⟨_, rfl, by simp [hc15]⟩), rfl⟩, ⟨.inr ⟨(OpJ.w (J_pick rfl (Opd.tmp rfl) (fun _ => Opd.con) (fun hf => absurd (hc15.symm.trans hf) (by decide)))), ⟨rfl, rfl, trivial⟩, rfl, rfl⟩, trivial⟩⟩⟩⟩⟩⟩⟩⟩⟩⟩⟩⟩⟩⟩⟩⟩⟩⟩⟩⟩⟩⟩⟩⟩⟩⟩⟩⟩⟩⟩⟩⟩⟩ ?_
            refine RegL.pure (p := (pEq (.bool true))) rfl rfl rfl (J_assign rfl (Opd.tmp rfl)) ?_
            refine RegL.nil ?_
            replace h := Option.some.inj h; subst h
            exact Ct.mid () rfl ⟨rfl, trivial⟩
          · replace h := bif_f hc15 h
            rcases Bool.eq_false_or_eq_true (decide ((w64 (a_0.High - a_0.Low)) ≤ a_0.Duplex)) with hc16 | hc16
            · replace h := bif_t hc16 h
              refine Tr.drawD (n := 78) (m := 33) (es := [some (Ent.mk [(0, (pPtr (cGBand a_0)))] (pPtr (cGBand a_0)) true), some (Ent.mk [(45, (pPtr (cGBand a_0)))] (pPtr (cGBand a_0)) true), some (Ent.mk [(46, (pPtr (cGBand a_0)))] (pPtr ((cK .i64) a_0.Duplex)) true), some (Ent.mk [(47, (pPtr ((cK .i64) a_0.Duplex)))] (pEq (.int .i64 a_0.Duplex)) true), some (Ent.mk [(48, (pEq (.int .i64 a_0.Duplex)))] (pEq (.bool (a_0.Duplex == (0 : Int)))) true), some (Ent.mk [(49, (pEq (.bool (a_0.Duplex == (0 : Int)))))] (pEq (.bool (a_0.Duplex == (0 : Int)))) true), some (Ent.mk [(0, (pPtr (cGBand a_0)))] (pPtr (cGBand a_0)) true), some (Ent.mk [(51, (pPtr (cGBand a_0)))] (pPtr (cGBand a_0)) true), some (Ent.mk [(52, (pPtr (cGBand a_0)))] (pPtr ((cK .i64) a_0.Duplex)) true), some (Ent.mk [(53, (pPtr ((cK .i64) a_0.Duplex)))] (pEq (.int .i64 a_0.Duplex)) true), some (Ent.mk [(0, (pPtr (cGBand a_0)))] (pPtr (cGBand a_0)) true), some (Ent.mk [(55, (pPtr (cGBand a_0)))] (pPtr (cGBand a_0)) true), some (Ent.mk [(56, (pPtr (cGBand a_0)))] (pPtr ((cK .i64) a_0.High)) true), some (Ent.mk [(57, (pPtr ((cK .i64) a_0.High)))] (pEq (.int .i64 a_0.High)) true), some (Ent.mk [(0, (pPtr (cGBand a_0)))] (pPtr (cGBand a_0)) true), some (Ent.mk [(59, (pPtr (cGBand a_0)))] (pPtr (cGBand a_0)) true), some (Ent.mk [(60, (pPtr (cGBand a_0)))] (pPtr ((cK .i64) a_0.Low)) true), some (Ent.mk [(61, (pPtr ((cK .i64) a_0.Low)))] (pEq (.int .i64 a_0.Low)) true), some (Ent.mk [(58, (pEq (.int .i64 a_0.High))), (62, (pEq (.int .i64 a_0.Low)))] (pEq (.int .i64 (w64 (a_0.High - a_0.Low)))) true), some (Ent.mk [(54, (pEq (.int .i64 a_0.Duplex))), (63, (pEq (.int .i64 (w64 (a_0.High - a_0.Low)))))] (pEq (.bool (decide ((w64 (a_0.High - a_0.Low)) ≤ a_0.Duplex)))) true), some (Ent.mk [(64, (pEq (.bool (decide ((w64 (a_0.High - a_0.Low)) ≤ a_0.Duplex)))))] (pEq (.bool (decide ((w64 (a_0.High - a_0.Low)) ≤ a_0.Duplex)))) true), some (Ent.mk [(0, (pPtr (cGBand a_0)))] (pPtr (cGBand a_0)) true), some (Ent.mk [(66, (pPtr (cGBand a_0)))] (pPtr (cGBand a_0)) true), some (Ent.mk [(67, (pPtr (cGBand a_0)))] (pPtr ((cK .i64) a_0.High)) true), some (Ent.mk [(68, (pPtr ((cK .i64) a_0.High)))] (pEq (.int .i64 a_0.High)) true), some (Ent.mk [(0, (pPtr (cGBand a_0)))] (pPtr (cGBand a_0)) true), some (Ent.mk [(70, (pPtr (cGBand a_0)))] (pPtr (cGBand a_0)) true), some (Ent.mk [(71, (pPtr (cGBand a_0)))] (pPtr ((cK .i64) a_0.Duplex)) true), some (Ent.mk [(72, (pPtr ((cK .i64) a_0.Duplex)))] (pEq (.int .i64 a_0.Duplex)) true), some (Ent.mk [(69, (pEq (.int .i64 a_0.High))), (73, (pEq (.int .i64 a_0.Duplex)))] (pEq (.int .i64 (w64 (a_0.High + a_0.Duplex)))) true), some (Ent.mk [(74, (pEq (.int .i64 (w64 (a_0.High + a_0.Duplex)))))] (pEq (.bool (decide ((w64 (a_0.High + a_0.Duplex)) ≤ (100000000 : Int))))) true), some (Ent.mk [(65, (pEq (.bool (decide ((w64 (a_0.High - a_0.Low)) ≤ a_0.Duplex))))), (75, (pEq (.bool (decide ((w64 (a_0.High + a_0.Duplex)) ≤ (100000000 : Int))))))] (pEq (.bool (decide ((w64 (a_0.High + a_0.Duplex)) ≤ (100000000 : Int))))) true), some (Ent.mk [(50, (pEq (.bool (a_0.Duplex == (0 : Int))))), (76, (pEq (.bool (decide ((w64 (a_0.High + a_0.Duplex)) ≤ (100000000 : Int))))))] (pEq (.bool (decide ((w64 (a_0.High + a_0.Duplex)) ≤ (100000000 : Int))))) true)]) (rd := [[0], [45], [46], [47], [48], [49], [0], [51], [52], [53], [0], [55], [56], [57], [0], [59], [60], [61], [58, 62], [54, 63], [64], [0], [66], [67], [68], [0], [70], [71], [72], [69, 73], [74], [65, 75], [50, 76]]) rfl hmix (by kernel_rfl) fun hD => ?_
              refine RD.fin (es := [Ent.mk [(0, (pPtr (cGBand a_0)))] (pPtr (cGBand a_0)) true, Ent.mk [(45, (pPtr (cGBand a_0)))] (pPtr (cGBand a_0)) true, Ent.mk [(46, (pPtr (cGBand a_0)))] (pPtr ((cK .i64) a_0.Duplex)) true, Ent.mk [(47, (pPtr ((cK .i64) a_0.Duplex)))] (pEq (.int .i64 a_0.Duplex)) true, Ent.mk [(48, (pEq (.int .i64 a_0.Duplex)))] (pEq (.bool (a_0.Duplex == (0 : Int)))) true, Ent.mk [(49, (pEq (.bool (a_0.Duplex == (0 : Int)))))] (pEq (.bool (a_0.Duplex == (0 : Int)))) true, Ent.mk [(0, (pPtr (cGBand a_0)))] (pPtr (cGBand a_0)) true, Ent.mk [(51, (pPtr (cGBand a_0)))] (pPtr (cGBand a_0)) true, Ent.mk [(52, (pPtr (cGBand a_0)))] (pPtr ((cK .i64) a_0.Duplex)) true, Ent.mk [(53, (pPtr ((cK .i64) a_0.Duplex)))] (pEq (.int .i64 a_0.Duplex)) true, Ent.mk [(0, (pPtr (cGBand a_0)))] (pPtr (cGBand a_0)) true, Ent.mk [(55, (pPtr (cGBand a_0)))] (pPtr (cGBand a_0)) true, Ent.mk [(56, (pPtr (cGBand a_0)))] (pPtr ((cK .i64) a_0.High)) true, Ent.mk [(57, (pPtr ((cK .i64) a_0.High)))] (pEq (.int .i64 a_0.High)) true, Ent.mk [(0, (pPtr (cGBand a_0)))] (pPtr (cGBand a_0)) true, Ent.mk [(59, (pPtr (cGBand a_0)))] (pPtr (cGBand a_0)) true, Ent.mk [(60, (pPtr (cGBand a_0)))] (pPtr ((cK .i64) a_0.Low)) true, Ent.mk [(61, (pPtr ((cK .i64) a_0.Low)))] (pEq (.int .i64 a_0.Low)) true, Ent.mk [(58, (pEq (.int .i64 a_0.High))), (62, (pEq (.int .i64 a_0.Low)))] (pEq (.int .i64 (w64 (a_0.High - a_0.Low)))) true, Ent.mk [(54, (pEq (.int .i64 a_0.Duplex))), (63, (pEq (.int .i64 (w64 (a_0.High - a_0.Low)))))] (pEq (.bool (decide ((w64 (a_0.High - a_0.Low)) ≤ a_0.Duplex)))) true, Ent.mk [(64, (pEq (.bool (decide ((w64 (a_0.High - a_0.Low)) ≤ a_0.Duplex)))))] (pEq (.bool (decide ((w64 (a_0.High - a_0.Low)) ≤ a_0.Duplex)))) true, Ent.mk [(0, (pPtr (cGBand a_0)))] (pPtr (cGBand a_0)) true, Ent.mk [(66, (pPtr (cGBand a_0)))] (pPtr (cGBand a_0)) true, Ent.mk [(67, (pPtr (cGBand a_0)))] (pPtr ((cK .i64) a_0.High)) true, Ent.mk [(68, (pPtr ((cK .i64) a_0.High)))] (pEq (.int .i64 a_0.High)) true, Ent.mk [(0, (pPtr (cGBand a_0)))] (pPtr (cGBand a_0)) true, Ent.mk [(70, (pPtr (cGBand a_0)))] (pPtr (cGBand a_0)) true, Ent.mk [(71, (pPtr (cGBand a_0)))] (pPtr ((cK .i64) a_0.Duplex)) true, Ent.mk [(72, (pPtr ((cK .i64) a_0.Duplex)))] (pEq (.int .i64 a_0.Duplex)) true, Ent.mk [(69, (pEq (.int .i64 a_0.High))), (73, (pEq (.int .i64 a_0.Duplex)))] (pEq (.int .i64 (w64 (a_0.High + a_0.Duplex)))) true, Ent.mk [(74, (pEq (.int .i64 (w64 (a_0.High + a_0.Duplex)))))] (pEq (.bool (decide ((w64 (a_0.High + a_0.Duplex)) ≤ (100000000 : Int))))) true, Ent.mk [(65, (pEq (.bool (decide ((w64 (a_0.High - a_0.Low)) ≤ a_0.Duplex))))), (75, (pEq (.bool (decide ((w64 (a_0.High + a_0.Duplex)) ≤ (100000000 : Int))))))] (pEq (.bool (decide ((w64 (a_0.High + a_0.Duplex)) ≤ (100000000 : Int))))) true, Ent.mk [(50, (pEq (.bool (a_0.Duplex == (0 : Int))))), (76, (pEq (.bool (decide ((w64 (a_0.High + a_0.Duplex)) ≤ (100000000 : Int))))))] (pEq (.bool (decide ((w64 (a_0.High + a_0.Duplex)) ≤ (100000000 : Int))))) true]) (done := []) hD ⟨.inr ⟨(OpJ.w (J_move rfl (Opd.tmp rfl))), ⟨rfl, trivial⟩, rfl, rfl⟩, ⟨.inr ⟨(OpJ.w (J_nilCheck rfl (Opd.tmp rfl))), ⟨rfl, trivial⟩, rfl, rfl⟩, ⟨.inr ⟨(OpJ.w (J_fieldAddr rfl Tryd.underlying52 rfl sz2 (by decide) (Opd.tmp rfl) rfl)), ⟨rfl, trivial⟩, rfl, rfl⟩, ⟨.inr ⟨(OpJ.w (J_load rfl Tryd.isAgg2 (Opd.tmp rfl))), ⟨rfl, trivial⟩, rfl, rfl⟩, ⟨.inr ⟨(OpJ.w (J_bin rfl (Opd.tmp rfl) Opd.con B_eql)), ⟨rfl, trivial⟩, rfl, rfl⟩, ⟨.inr ⟨(OpJ.w (J_move rfl (Opd.tmp rfl))), ⟨rfl, trivial⟩, rfl, rfl⟩, ⟨.inr ⟨(OpJ.w (J_move rfl (Opd.tmp rfl))), ⟨rfl, trivial⟩, (.inl ⟨_, rfl, by simp [hc15]⟩), rfl⟩, ⟨.inr ⟨(OpJ.w (J_nilCheck rfl (Opd.tmp rfl))), ⟨rfl, trivial⟩, (.inl ⟨_, rfl, by simp [hc15]⟩), rfl⟩, ⟨.inr ⟨(OpJ.w (J_fieldAddr rfl Tryd.underlying52 rfl sz2 (by decide) (Opd.tmp rfl) rfl)), ⟨rfl, trivial⟩, (.inl ⟨_, rfl, by simp [hc15]⟩), rfl⟩, ⟨.inr ⟨(OpJ.w (J_load rfl Tryd.isAgg2 (Opd.tmp rfl))), ⟨rfl, trivial⟩, (.inl ⟨_, rfl, by simp [hc15]⟩), rfl⟩, ⟨.inr ⟨(OpJ.w (J_move rfl (Opd.tmp rfl))), ⟨rfl, trivial⟩, (.inl ⟨_, rfl, by simp [hc15]⟩), rfl⟩, ⟨.inr ⟨(OpJ.w (J_nilCheck rfl (Opd.tmp rfl))), ⟨rfl, trivial⟩, (.inl ⟨_, rfl, by simp [hc15]⟩), rfl⟩, ⟨.inr ⟨(OpJ.w (J_fieldAddr rfl Tryd.underlying52 rfl sz2 (by decide) (Opd.tmp rfl) rfl)), ⟨rfl, trivial⟩, (.inl ⟨_, rfl, by simp [hc15]⟩), rfl⟩, ⟨.inr ⟨(OpJ.w (J_load rfl Tryd.isAgg2 (Opd.tmp rfl))), ⟨rfl, trivial⟩, (.inl ⟨_, rfl, by simp [hc15]⟩), rfl⟩, ⟨.inr ⟨(OpJ.w (J_move rfl (Opd.tmp rfl))), ⟨rfl, trivial⟩, (.inl ⟨_, rfl, by simp [hc15]⟩), rfl⟩, ⟨.inr ⟨(OpJ.w (J_nilCheck rfl (Opd.tmp rfl))), ⟨rfl, trivial⟩, (.inl ⟨_, rfl, by simp [hc15]⟩), rfl⟩, ⟨.inr ⟨(OpJ.w (J_fieldAddr rfl Tryd.underlying52 rfl sz2 (by decide) (Opd.tmp rfl) rfl)), ⟨rfl, trivial⟩, (.inl ⟨_, rfl, by simp [hc15]⟩), rfl⟩, ⟨.inr ⟨(OpJ.w (J_load rfl Tryd.isAgg2 (Opd.tmp rfl))), ⟨rfl, trivial⟩, (.inl ⟨_, rfl, by simp [hc15]⟩), rfl⟩, ⟨.inr ⟨(OpJ.w (J_bin rfl (Opd.tmp rfl) (Opd.tmp rfl) B_sub)), ⟨rfl, rfl, trivial⟩, (.inl ⟨_, rfl, by simp [hc15]⟩), rfl⟩, ⟨.inr ⟨(OpJ.w (J_bin rfl (Opd.tmp rfl) (Opd.tmp rfl) B_geq)), ⟨rfl, rfl, trivial⟩, (.inl ⟨_, rfl, by simp [hc15]⟩), rfl⟩, ⟨.inr ⟨(OpJ.w (J_move rfl (Opd.tmp rfl))), ⟨rfl, trivial⟩, (.inl ⟨_, rfl, by simp [hc15]⟩), rfl⟩, ⟨.inr ⟨(OpJ.w (J_move rfl (Opd.tmp rfl))), ⟨rfl, trivial⟩, (.inl ⟨_, rfl, by simp [hc16]⟩), rfl⟩, ⟨.inr ⟨(OpJ.w (J_nilCheck rfl (Opd.tmp rfl))), ⟨rfl, trivial⟩, (.inl ⟨_, rfl, by simp [hc16]⟩), rfl⟩, ⟨.inr ⟨(OpJ.w (J_fieldAddr rfl Tryd.underlying52 rfl sz2 (by decide) (Opd.tmp rfl) rfl)), ⟨rfl, trivial⟩, (.inl ⟨_, rfl, by simp [hc16]⟩), rfl⟩, ⟨.inr ⟨(OpJ.w (J_load rfl Tryd.isAgg2 (Opd.tmp rfl))), ⟨rfl, trivial⟩, (.inl ⟨_, rfl, by simp [hc16]⟩), rfl⟩, ⟨.inr ⟨(OpJ.w (J_move rfl (Opd.tmp rfl))), ⟨rfl, trivial⟩, (.inl ⟨_, rfl, by simp [hc16]⟩), rfl⟩, ⟨.inr ⟨(OpJ.w (J_nilCheck rfl (Opd.tmp rfl))), ⟨rfl, trivial⟩, (.inl ⟨_, rfl, by simp [hc16]⟩), rfl⟩, ⟨.inr ⟨(OpJ.w (J_fieldAddr rfl Tryd.underlying52 rfl sz2 (by decide) (Opd.tmp rfl) rfl)), ⟨rfl, trivial⟩, (.inl ⟨_, rfl, by simp [hc16]⟩), rfl⟩, ⟨.inr ⟨(OpJ.w (J_load rfl Tryd.isAgg2 (Opd.tmp rfl))), ⟨rfl, trivial⟩, (.inl ⟨_, rfl, by simp [hc16]⟩), rfl⟩, ⟨.inr ⟨(OpJ.w (J_bin rfl (Opd.tmp rfl) (Opd.tmp rfl) B_add)), ⟨rfl, rfl, trivial⟩, (.inl ⟨_, rfl, by simp [hc16]⟩), rfl⟩, ⟨.inr ⟨(OpJ.w (J_bin rfl (Opd.tmp rfl) Opd.con B_leq)), ⟨rfl, trivial⟩, (.inl ⟨_, rfl, by simp [hc16]⟩), rfl⟩, ⟨.inr ⟨(OpJ.w (J_pick rfl (Opd.tmp rfl) (fun _ => (Opd.tmp rfl)) (fun hf => absurd (hc16.symm.trans hf) (by decide)))), ⟨rfl, rfl, trivial⟩, (.inl ⟨_, rfl, by simp [hc15]⟩), rfl⟩, ⟨.inr ⟨(OpJ.w (J_pick rfl (Opd.tmp rfl) (fun hf => absurd (hc15.symm.trans hf) (by decide)) (fun _ => (Opd.tmp rfl)))), ⟨rfl, rfl, trivial⟩, rfl, rfl⟩, trivial⟩⟩⟩⟩⟩⟩⟩⟩⟩⟩⟩⟩⟩⟩⟩⟩⟩⟩⟩⟩⟩⟩⟩⟩⟩⟩⟩⟩⟩⟩⟩⟩⟩ ?_
              refine RegL.pure (p := (pEq (.bool (decide ((w64 (a_0.High + a_0.Duplex)) ≤ (100000000 : Int)))))) rfl rfl rfl (J_assign rfl (Opd.tmp rfl)) ?_
              refine RegL.nil ?_
              replace h := Option.some.inj h; subst h
              exact Ct.mid () rfl ⟨rfl, trivial⟩
            · replace h := bif_f hc16 h
              refine Tr.drawD (n := 78) (m := 33) (es := [some (Ent.mk [(0, (pPtr (cGBand a_0)))] (pPtr (cGBand a_0)) true), some (Ent.mk [(45, (pPtr (cGBand a_0)))] (pPtr (cGBand a_0)) true), some (Ent.mk [(46, (pPtr (cGBand a_0)))] (pPtr ((cK .i64) a_0.Duplex)) true), some (Ent.mk [(47, (pPtr ((cK .i64) a_0.Duplex)))] (pEq (.int .i64 a_0.Duplex)) true), some (Ent.mk [(48, (pEq (.int .i64 a_0.Duplex)))] (pEq (.bool (a_0.Duplex == (0 : Int)))) true), some (Ent.mk [(49, (pEq (.bool (a_0.Duplex == (0 : Int)))))] (pEq (.bool (a_0.Duplex == (0 : Int)))) true), some (Ent.mk [(0, (pPtr (cGBand a_0)))] (pPtr (cGBand a_0)) true), some (Ent.mk [(51, (pPtr (cGBand a_0)))] (pPtr (cGBand a_0)) true), some (Ent.mk [(52, (pPtr (cGBand a_0)))] (pPtr ((cK .i64) a_0.Duplex)) true), some (Ent.mk [(53, (pPtr ((cK .i64) a_0.Duplex)))] (pEq (.int .i64 a_0.Duplex)) true), some (Ent.mk [(0, (pPtr (cGBand a_0)))] (pPtr (cGBand a_0)) true), some (Ent.mk [(55, (pPtr (cGBand a_0)))] (pPtr (cGBand a_0)) true), some (Ent.mk [(56, (pPtr (cGBand a_0)))] (pPtr ((cK .i64) a_0.High)) true), some (Ent.mk [(57, (pPtr ((cK .i64) a_0.High)))] (pEq (.int .i64 a_0.High)) true), some (Ent.mk [(0, (pPtr (cGBand a_0)))] (pPtr (cGBand a_0)) true), some (Ent.mk [(59, (pPtr (cGBand a_0)))] (pPtr (cGBand a_0)) true), some (Ent.mk [(60, (pPtr (cGBand a_0)))] (pPtr ((cK .i64) a_0.Low)) true), some (Ent.mk [(61, (pPtr ((cK .i64) a_0.Low)))] (pEq (.int .i64 a_0.Low)) true), some (Ent.mk [(58, (pEq (.int .i64 a_0.High))), (62, (pEq (.int .i64 a_0.Low)))] (pEq (.int .i64 (w64 (a_0.High - a_0.Low)))) true), some (Ent.mk [(54, (pEq (.int .i64 a_0.Duplex))), (63, (pEq (.int .i64 (w64 (a_0.High - a_0.Low)))))] (pEq (.bool (decide ((w64 (a_0.High - a_0.Low)) ≤ a_0.Duplex)))) true), some (Ent.mk [(64, (pEq (.bool (decide ((w64 (a_0.High - a_0.Low)) ≤ a_0.Duplex)))))] (pEq (.bool (decide ((w64 (a_0.High - a_0.Low)) ≤ a_0.Duplex)))) true), some (Ent.mk [(0, (pPtr (cGBand a_0)))] (pEq undef) false), some (Ent.mk [(66, (pEq undef))] (pEq undef) false), some (Ent.mk [(67, (pEq undef))] (pEq undef) false), some (Ent.mk [(68, (pEq undef))] (pEq undef) false), some (Ent.mk [(0, (pPtr (cGBand a_0)))] (pEq undef) false), some (Ent.mk [(70, (pEq undef))] (pEq undef) false), some (Ent.mk [(71, (pEq undef))] (pEq undef) false), some (Ent.mk [(72, (pEq undef))] (pEq undef) false), some (Ent.mk [(69, (pEq undef)), (73, (pEq undef))] (pEq undef) false), some (Ent.mk [(74, (pEq undef))] (pEq undef) false), some (Ent.mk [(65, (pEq (.bool (decide ((w64 (a_0.High - a_0.Low)) ≤ a_0.Duplex))))), (75, (pEq undef))] (pEq (.bool false)) true), some (Ent.mk [(50, (pEq (.bool (a_0.Duplex == (0 : Int))))), (76, (pEq (.bool false)))] (pEq (.bool false)) true)]) (rd := [[0], [45], [46], [47], [48], [49], [0], [51], [52], [53], [0], [55], [56], [57], [0], [59], [60], [61], [58, 62], [54, 63], [64], [0], [66], [67], [68], [0], [70], [71], [72], [69, 73], [74], [65, 75], [50, 76]]) rfl hmix (by kernel_rfl) fun hD => ?_
              refine RD.fin (es := [Ent.mk [(0, (pPtr (cGBand a_0)))] (pPtr (cGBand a_0)) true, Ent.mk [(45, (pPtr (cGBand a_0)))] (pPtr (cGBand a_0)) true, Ent.mk [(46, (pPtr (cGBand a_0)))] (pPtr ((cK .i64) a_0.Duplex)) true, Ent.mk [(47, (pPtr ((cK .i64) a_0.Duplex)))] (pEq (.int .i64 a_0.Duplex)) true, Ent.mk [(48, (pEq (.int .i64 a_0.Duplex)))] (pEq (.bool (a_0.Duplex == (0 : Int)))) true, Ent.mk [(49, (pEq (.bool (a_0.Duplex == (0 : Int)))))] (pEq (.bool (a_0.Duplex == (0 : Int)))) true, Ent.mk [(0, (pPtr (cGBand a_0)))] (pPtr (cGBand a_0)) true, Ent.mk [(51, (pPtr (cGBand a_0)))] (pPtr (cGBand a_0)) true, Ent.mk [(52, (pPtr (cGBand a_0)))] (pPtr ((cK .i64) a_0.Duplex)) true, Ent.mk [(53, (pPtr ((cK .i64) a_0.Duplex)))] (pEq (.int .i64 a_0.Duplex)) true, Ent.mk [(0, (pPtr (cGBand a_0)))] (pPtr (cGBand a_0)) true, Ent.mk [(55, (pPtr (cGBand a_0)))] (pPtr (cGBand a_0)) true, Ent.mk [(56, (pPtr (cGBand a_0)))] (pPtr ((cK .i64) a_0.High)) true, Ent.mk [(57, (pPtr ((cK .i64) a_0.High)))] (pEq (.int .i64 a_0.High)) true, Ent.mk [(0, (pPtr (cGBand a_0)))] (pPtr (cGBand a_0)) true, Ent.mk [(59, (pPtr (cGBand a_0)))] (pPtr (cGBand a_0)) true, Ent.mk [(60, (pPtr (cGBand a_0)))] (pPtr ((cK .i64) a_0.Low)) true, Ent.mk [(61, (pPtr ((cK .i64) a_0.Low)))] (pEq (.int .i64 a_0.Low)) true, Ent.mk [(58, (pEq (.int .i64 a_0.High))), (62, (pEq (.int .i64 a_0.Low)))] (pEq (.int .i64 (w64 (a_0.High - a_0.Low)))) true, Ent.mk [(54, (pEq (.int .i64 a_0.Duplex))), (63, (pEq (.int .i64 (w64 (a_0.High - a_0.Low)))))] (pEq (.bool (decide ((w64 (a_0.High - a_0.Low)) ≤ a_0.Duplex)))) true, Ent.mk [(64, (pEq (.bool (decide ((w64 (a_0.High - a_0.Low)) ≤ a_0.Duplex)))))] (pEq (.bool (decide ((w64 (a_0.High - a_0.Low)) ≤ a_0.Duplex)))) true, Ent.mk [(0, (pPtr (cGBand a_0)))] (pEq undef) false, Ent.mk [(66, (pEq undef))] (pEq undef) false, Ent.mk [(67, (pEq undef))] (pEq undef) false, Ent.mk [(68, (pEq undef))] (pEq undef) false, Ent.mk [(0, (pPtr (cGBand a_0)))] (pEq undef) false, Ent.mk [(70, (pEq undef))] (pEq undef) false, Ent.mk [(71, (pEq undef))] (pEq undef) false, Ent.mk [(72, (pEq undef))] (pEq undef) false, Ent.mk [(69, (pEq undef)), (73, (pEq undef))] (pEq undef) false, Ent.mk [(74, (pEq undef))] (pEq undef) false, Ent.mk [(65, (pEq (.bool (decide ((w64 (a_0.High - a_0.Low)) ≤ a_0.Duplex))))), (75, (pEq undef))] (pEq (.bool false)) true, Ent.mk [(50, (pEq (.bool (a_0.Duplex == (0 : Int))))), (76, (pEq (.bool false)))] (pEq (.bool false)) true]) (done := []) hD ⟨.inr ⟨(OpJ.w (J_move rfl (Opd.tmp rfl))), ⟨rfl, trivial⟩, rfl, rfl⟩, ⟨.inr ⟨(OpJ.w (J_nilCheck rfl (Opd.tmp rfl))), ⟨rfl, trivial⟩, rfl, rfl⟩, ⟨.inr ⟨(OpJ.w (J_fieldAddr rfl Tryd.underlying52 rfl sz2 (by decide) (Opd.tmp rfl) rfl)), ⟨rfl, trivial⟩, rfl, rfl⟩, ⟨.inr ⟨(OpJ.w (J_load rfl Tryd.isAgg2 (Opd.tmp rfl))), ⟨rfl, trivial⟩, rfl, rfl⟩, ⟨.inr ⟨(OpJ.w (J_bin rfl (Opd.tmp rfl) Opd.con B_eql)), ⟨rfl, trivial⟩, rfl, rfl⟩, ⟨.inr ⟨(OpJ.w (J_move rfl (Opd.tmp rfl))), ⟨rfl, trivial⟩, rfl, rfl⟩, ⟨.inr ⟨(OpJ.w (J_move rfl (Opd.tmp rfl))), ⟨rfl, trivial⟩, (.inl ⟨_, rfl, by simp [hc15]⟩), rfl⟩, ⟨.inr ⟨(OpJ.w (J_nilCheck rfl (Opd.tmp rfl))), ⟨rfl, trivial⟩, (.inl ⟨_, rfl, by simp [hc15]⟩), rfl⟩, ⟨.inr ⟨(OpJ.w (J_fieldAddr rfl Tryd.underlying52 rfl sz2 (by decide) (Opd.tmp rfl) rfl)), ⟨rfl, trivial⟩, (.inl ⟨_, rfl, by simp [hc15]⟩), rfl⟩, ⟨.inr ⟨(OpJ.w (J_load rfl Tryd.isAgg2 (Opd.tmp rfl))), ⟨rfl, trivial⟩, (.inl ⟨_, rfl, by simp [hc15]⟩), rfl⟩, ⟨.inr ⟨(OpJ.w (J_move rfl (Opd.tmp rfl))), ⟨rfl, trivial⟩, (.inl ⟨_, rfl, by simp [hc15]⟩), rfl⟩, ⟨.inr ⟨(OpJ.w (J_nilCheck rfl (Opd.tmp rfl))), ⟨rfl, trivial⟩, (.inl ⟨_, rfl, by simp [hc15]⟩), rfl⟩, ⟨.inr ⟨(OpJ.w (J_fieldAddr rfl Tryd.underlying52 rfl sz2 (by decide) (Opd.tmp rfl) rfl)), ⟨rfl, trivial⟩, (.inl ⟨_, rfl, by simp [hc15]⟩), rfl⟩, ⟨.inr ⟨(OpJ.w (J_load rfl Tryd.isAgg2 (Opd.tmp rfl))), ⟨rfl, trivial⟩, (.inl ⟨_, rfl, by simp [hc15]⟩), rfl⟩, ⟨.inr ⟨(OpJ.w (J_move rfl (Opd.tmp rfl))), ⟨rfl, trivial⟩, (.inl ⟨_, rfl, by simp [hc15]⟩), rfl⟩, ⟨.inr ⟨(OpJ.w (J_nilCheck rfl (Opd.tmp rfl))), ⟨rfl, trivial⟩, (.inl ⟨_, rfl, by simp [hc15]⟩), rfl⟩, ⟨.inr ⟨(OpJ.w (J_fieldAddr rfl Tryd.underlying52 rfl sz2 (by decide) (Opd.tmp rfl) rfl)), ⟨rfl, trivial⟩, (.inl ⟨_, rfl, by simp [hc15]⟩), rfl⟩, ⟨.inr ⟨(OpJ.w (J_load rfl Tryd.isAgg2 (Opd.tmp rfl))), ⟨rfl, trivial⟩, (.inl ⟨_, rfl, by simp [hc15]⟩), rfl⟩, ⟨.inr ⟨(OpJ.w (J_bin rfl (Opd.tmp rfl) (Opd.tmp rfl) B_sub)), ⟨rfl, rfl, trivial⟩, (.inl ⟨_, rfl, by simp [hc15]⟩), rfl⟩, ⟨.inr ⟨(OpJ.w (J_bin rfl (Opd.tmp rfl) (Opd.tmp rfl) B_geq)), ⟨rfl, rfl, trivial⟩, (.inl ⟨_, rfl, by simp [hc15]⟩), rfl⟩, ⟨.inr ⟨(OpJ.w (J_move rfl (Opd.tmp rfl))), ⟨rfl, trivial⟩, (.inl ⟨_, rfl, by simp [hc15]⟩), rfl⟩, ⟨.inr ⟨rfl, ⟨rfl, trivial⟩, (.inl ⟨_, rfl, by simp [hc16]⟩), rfl⟩, ⟨.inr ⟨rfl, ⟨rfl, trivial⟩, (.inl ⟨_, rfl, by simp [hc16]⟩), rfl⟩, ⟨.inr ⟨rfl, ⟨rfl, trivial⟩, (.inl ⟨_, rfl, by simp [hc16]⟩), rfl⟩, ⟨.inr ⟨rfl, ⟨rfl, trivial⟩, (.inl ⟨_, rfl, by simp [hc16]⟩), rfl⟩, ⟨.inr ⟨rfl, ⟨rfl, trivial⟩, (.inl ⟨_, rfl, by simp [hc16]⟩), rfl⟩, ⟨.inr ⟨rfl, ⟨rfl, trivial⟩, (.inl ⟨_, rfl, by simp [hc16]⟩), rfl⟩, ⟨.inr ⟨rfl, ⟨rfl, trivial⟩, (.inl ⟨_, rfl, by simp [hc16]⟩), rfl⟩, ⟨.inr ⟨rfl, ⟨rfl, trivial⟩, (.inl ⟨_, rfl, by simp [hc16]⟩), rfl⟩, ⟨.inr ⟨rfl, ⟨rfl, rfl, trivial⟩, (.inl ⟨_, rfl, by simp [hc16]⟩), rfl⟩, ⟨.inr ⟨rfl, ⟨rfl, trivial⟩, (.inl ⟨_, rfl, by simp [hc16]⟩), rfl⟩, ⟨.inr ⟨(OpJ.w (J_pick rfl (Opd.tmp rfl) (fun hf => absurd (hc16.symm.trans hf) (by decide)) (fun _ => Opd.con))), ⟨rfl, rfl, trivial⟩, (.inl ⟨_, rfl, by simp [hc15]⟩), rfl⟩, ⟨.inr ⟨(OpJ.w (J_pick rfl (Opd.tmp rfl) (fun hf => absurd (hc15.symm.trans hf) (by decide)) (fun _ => (Opd.tmp rfl)))), ⟨rfl, rfl, trivial⟩, rfl, rfl⟩, trivial⟩⟩⟩⟩⟩⟩⟩⟩⟩⟩⟩⟩⟩⟩⟩⟩⟩⟩⟩⟩⟩⟩⟩⟩⟩⟩⟩⟩⟩⟩⟩⟩⟩ ?_
              refine RegL.pure (p := (pEq (.bool false))) rfl rfl rfl (J_assign rfl (Opd.tmp rfl)) ?_
              refine RegL.nil ?_
              replace h := Option.some.inj h; subst h
              exact Ct.mid () rfl ⟨rfl, trivial⟩
        · clear hx14
          refine Ct.then_tr ?_
          refine Tr.weak (Γ' := [(2, (pEq (.bool x14)))]) ⟨rfl, trivial⟩ ?_
          refine Tr.ret ?_
          replace h := Option.some.inj h; subst h
          exact Ct.retH1 (Ωx := []) () rfl (RvOk.tmp rfl) rfl

theorem c_spec_ReadBand {s_0 : ByteArray} {r : (GBand × Bool)} (h : m_spec_ReadBand s_0 = some r) : CallJ Tryd.prog 32 [(pEq (.string s_0))] (pTup [(pAgg (cGBand r.1)), (pEq (.bool r.2))]) := by
  unfold m_spec_ReadBand at h
  refine CallJ.enterH Tryd.func32 rfl Tryd.ntmps32 rfl fun W I0 H => ?_
  refine Tr.weak (Γ' := [(0, (pEq (.string s_0)))]) ⟨rfl, trivial⟩ ?_
  refine Tr.seq ?_
  refine Tr.region ?_
  refine RegL.step (γ := Nat) (p := fun b => pEq (.pointer (some ⟨b, 0, none⟩))) (Ω' := fun b => [oBlk b [(pEq (.string ByteArray.empty)), (pEq (.int .i64 (0 : Int))), (pEq (.int .i64 (0 : Int))), (pEq (.int .i64 (0 : Int))), (pEq (.int .i64 (0 : Int)))]]) rfl rfl rfl (M_alloc rfl zero52) fun b1 => ?_
  refine RegL.pure (p := (pEq (.bool false))) rfl rfl rfl (J_assign rfl Opd.con) ?_
  refine RegL.nil ?_
  refine Ct.then_tr ?_
  refine Tr.weak (Γ' := [(0, (pEq (.string s_0))), (2, (pEq (.pointer (some ⟨b1, 0, none⟩))))]) ⟨rfl, rfl, trivial⟩ ?_
  refine Tr.seq ?_
  refine Tr.region ?_
  refine RegL.pure (p := (pEq (.string s_0))) rfl rfl rfl (J_move rfl (Opd.tmp rfl)) ?_
  replace h := bind_some h; obtain ⟨x2, hx2, h⟩ := h
  refine RegL.pure (p := (pSl 1 cS x2)) rfl rfl rfl (J_call rfl Tryd.call63 (c_spec_l01Split hx2) (Opds.cons (Opd.tmp rfl) (Opds.cons Opd.con Opds.nil))) ?_
  refine RegL.pure (p := (pSl 1 cS x2)) rfl rfl rfl (J_assign rfl (Opd.tmp rfl)) ?_
  refine RegL.nil ?_
  refine Ct.then_tr ?_
  refine Tr.weak (Γ' := [(2, (pEq (.pointer (some ⟨b1, 0, none⟩)))), (4, (pSl 1 cS x2))]) ⟨rfl, rfl, trivial⟩ ?_
  refine Tr.seq ?_
  refine Tr.seq ?_
  refine Tr.region ?_
  refine RegL.pure (p := (pSl 1 cS x2)) rfl rfl rfl (J_move rfl (Opd.tmp rfl)) ?_
  refine RegL.pure (p := (pEq (.int .i64 (x2.length : Int)))) rfl rfl rfl (J_len rfl Tryd.underlying79 (Opd.tmp rfl) rfl) ?_
  refine RegL.pure (p := (pEq (.bool ((x2.length : Int) != (5 : Int))))) rfl rfl rfl (J_bin rfl (Opd.tmp rfl) Opd.con B_neq) ?_
  refine RegL.nil ?_
  refine Ct.then_tr ?_
  refine Tr.weak (Γ' := [(2, (pEq (.pointer (some ⟨b1, 0, none⟩)))), (4, (pSl 1 cS x2)), (14, (pEq (.bool ((x2.length : Int) != (5 : Int)))))]) ⟨rfl, rfl, rfl, trivial⟩ ?_
  refine Tr.cond (Opd.tmp rfl) (fun hc => ?_) (fun hc => ?_)
  · replace h := bif_t hc h
    refine Tr.seq ?_
    refine Tr.region ?_
    refine RegL.pure (p := (pAgg (cGBand (GBand.mk ByteArray.empty (0 : Int) (0 : Int) (0 : Int) (0 : Int))))) rfl rfl rfl (J_build (qss := []) rfl bl52 bz52o Parts.nil rfl) ?_
    refine RegL.stepN (γ := Unit) (p := fun _ => pAny) (Ω' := fun _ => [oBlk b1 [(pEq (.string (GBand.mk ByteArray.empty (0 : Int) (0 : Int) (0 : Int) (0 : Int)).Name)), (pEq (.int .i64 (GBand.mk ByteArray.empty (0 : Int) (0 : Int) (0 : Int) (0 : Int)).Low)), (pEq (.int .i64 (GBand.mk ByteArray.empty (0 : Int) (0 : Int) (0 : Int) (0 : Int)).High)), (pEq (.int .i64 (GBand.mk ByteArray.empty (0 : Int) (0 : Int) (0 : Int) (0 : Int)).Raster)), (pEq (.int .i64 (GBand.mk ByteArray.empty (0 : Int) (0 : Int) (0 : Int) (0 : Int)).Duplex))]]) rfl rfl (M_storeA rfl sz52 (Opd.tmp rfl) (Opd.tmp rfl) (fun _ _ _ h => ones_of ((OneCs.cons OneC.str (OneCs.cons OneC.int (OneCs.cons OneC.int (OneCs.cons OneC.int (OneCs.cons OneC.int OneCs.nil)))))) h) rfl rfl) fun g3 => ?_
    refine RegL.pure (p := (pEq (.bool false))) rfl rfl rfl (J_assign rfl Opd.con) ?_
    refine RegL.nil ?_
    refine Ct.then_tr ?_
    refine Tr.weak (Γ' := [(2, (pEq (.pointer (some ⟨b1, 0, none⟩)))), (3, (pEq (.bool false)))]) ⟨rfl, rfl, trivial⟩ ?_
    refine Tr.ret ?_
    refine Ct.then_ret ?_
    replace h := Option.some.inj h; subst h
    exact Ct.retH2 (Ωx := [oBlk b1 [(pEq (.string (GBand.mk ByteArray.empty (0 : Int) (0 : Int) (0 : Int) (0 : Int)).Name)), (pEq (.int .i64 (GBand.mk ByteArray.empty (0 : Int) (0 : Int) (0 : Int) (0 : Int)).Low)), (pEq (.int .i64 (GBand.mk ByteArray.empty (0 : Int) (0 : Int) (0 : Int) (0 : Int)).High)), (pEq (.int .i64 (GBand.mk ByteArray.empty (0 : Int) (0 : Int) (0 : Int) (0 : Int)).Raster)), (pEq (.int .i64 (GBand.mk ByteArray.empty (0 : Int) (0 : Int) (0 : Int) (0 : Int)).Duplex))]]) () rfl (RvOk.cellA (i := 0) Tryd.isAgg52 sz52 rfl rfl rfl) (RvOk.tmp rfl) rfl rfl
  · replace h := bif_f hc h
    refine Tr.skip ?_
    refine Ct.then_tr ?_
    refine Tr.weak (Γ' := [(2, (pEq (.pointer (some ⟨b1, 0, none⟩)))), (4, (pSl 1 cS x2))]) ⟨rfl, rfl, trivial⟩ ?_
    refine Tr.seq ?_
    refine Tr.region ?_
    refine RegL.step (γ := Option Addr) (p := fun a => pEq (.slice a 0 0)) (Ω' := fun a => [oSl 2 1 (cK .i64) a 0 0 ([] : (List Int)), oBlk b1 [(pEq (.string ByteArray.empty)), (pEq (.int .i64 (0 : Int))), (pEq (.int .i64 (0 : Int))), (pEq (.int .i64 (0 : Int))), (pEq (.int .i64 (0 : Int)))]]) rfl rfl rfl (M_buildSlice (qss := []) rfl Tryd.underlying22 el2 rfl Parts.nil rfl rfl) fun o5 => ?_
    refine RegL.pure (p := (pEq (.slice o5 0 0))) rfl rfl rfl (J_assign rfl (Opd.tmp rfl)) ?_
    refine RegL.nil ?_
    refine Ct.then_tr ?_
    refine Tr.weak (Γ' := [(2, (pEq (.pointer (some ⟨b1, 0, none⟩)))), (4, (pSl 1 cS x2)), (5, (pEq (.slice o5 0 0)))]) ⟨rfl, rfl, rfl, trivial⟩ ?_
    refine Tr.seq ?_
    refine Tr.seq ?_
    refine Tr.region ?_
    refine RegL.pure (p := (pEq (.int .i64 (1 : Int)))) rfl rfl rfl (J_assign rfl Opd.con) ?_
    refine RegL.nil ?_
    refine Ct.then_tr ?_
    refine Tr.weak (Γ' := [(2, (pEq (.pointer (some ⟨b1, 0, none⟩)))), (4, (pSl 1 cS x2)), (5, (pEq (.slice o5 0 0))), (6, (pEq (.int .i64 (1 : Int))))]) ⟨rfl, rfl, rfl, rfl, trivial⟩ ?_
    refine Tr.block ?_
    refine Tr.weak (Γ' := [(2, (pEq (.pointer (some ⟨b1, 0, none⟩)))), (4, (pSl 1 cS x2)), (5, (pEq (.slice o5 0 0))), (6, (pEq (.int .i64 (1 : Int))))]) ⟨rfl, rfl, rfl, rfl, trivial⟩ ?_
    refine Tr.loop (γ := G3) (σ := (Int × (List Int) × ByteArray × Int × Int × Int × Int)) (Γσ := fun s g => [(2, (pEq (.pointer (some ⟨b1, 0, none⟩)))), (4, (pSl 1 cS x2)), (5, (pEq (.slice g.1 g.2.1 g.2.2))), (6, (pEq (.int .i64 s.1)))]) (Ωσ := fun s g => [oSl 2 1 (cK .i64) g.1 g.2.1 g.2.2 s.2.1, oBlk b1 [(pEq (.string s.2.2.1)), (pEq (.int .i64 s.2.2.2.1)), (pEq (.int .i64 s.2.2.2.2.1)), (pEq (.int .i64 s.2.2.2.2.2.1)), (pEq (.int .i64 s.2.2.2.2.2.2))]]) (g := (o5, 0, 0)) h ?_
    clear h
    rintro ⟨v7, v8, v9, v10, v11, v12, v13⟩ g14 t h
    replace h : m_spec_ReadBand_B6 x2 v7 v8 v9 v10 v11 v12 v13 = some t := h
    unfold m_spec_ReadBand_B6 at h
    refine Tr.weakO (Γ' := [(2, (pEq (.pointer (some ⟨b1, 0, none⟩)))), (4, (pSl 1 cS x2)), (5, (pEq (.slice g14.1 g14.2.1 g14.2.2))), (6, (pEq (.int .i64 v7)))]) (Ω' := [oSl 2 1 (cK .i64) g14.1 g14.2.1 g14.2.2 v8, oBlk b1 [(pEq (.string v9)), (pEq (.int .i64 v10)), (pEq (.int .i64 v11)), (pEq (.int .i64 v12)), (pEq (.int .i64 v13))]]) rfl ⟨rfl, rfl, rfl, rfl, trivial⟩ ?_
    refine Tr.seq ?_
    refine Tr.seq ?_
    refine Tr.region ?_
    refine RegL.pure (p := (pEq (.int .i64 v7))) rfl rfl rfl (J_move rfl (Opd.tmp rfl)) ?_
    refine RegL.pure (p := (pEq (.bool (decide (v7 < (5 : Int)))))) rfl rfl rfl (J_bin rfl (Opd.tmp rfl) Opd.con B_lss) ?_
    refine RegL.nil ?_
    refine Ct.then_tr ?_
    refine Tr.weak (Γ' := [(2, (pEq (.pointer (some ⟨b1, 0, none⟩)))), (4, (pSl 1 cS x2)), (5, (pEq (.slice g14.1 g14.2.1 g14.2.2))), (6, (pEq (.int .i64 v7))), (18, (pEq (.bool (decide (v7 < (5 : Int))))))]) ⟨rfl, rfl, rfl, rfl, rfl, trivial⟩ ?_
    refine Tr.cond (Opd.tmp rfl) (fun hc => ?_) (fun hc => ?_)
    · replace h := bif_t hc h
      refine Tr.skip ?_
      refine Ct.then_tr ?_
      refine Tr.weak (Γ' := [(2, (pEq (.pointer (some ⟨b1, 0, none⟩)))), (4, (pSl 1 cS x2)), (5, (pEq (.slice g14.1 g14.2.1 g14.2.2))), (6, (pEq (.int .i64 v7)))]) ⟨rfl, rfl, rfl, rfl, trivial⟩ ?_
      refine Tr.seq ?_
      refine Tr.block ?_
      refine Tr.seq ?_
      refine Tr.region ?_
      refine RegL.pure (p := (pSl 1 cS x2)) rfl rfl rfl (J_move rfl (Opd.tmp rfl)) ?_
      refine RegL.pure (p := (pEq (.int .i64 v7))) rfl rfl rfl (J_move rfl (Opd.tmp rfl)) ?_
      replace h := bind_some h; obtain ⟨x15, hx15, h⟩ := h
      refine RegL.pure (p := (pPtr (cS x15))) rfl rfl rfl (J_idx rfl Tryd.underlying79 sz9 (Opd.tmp rfl) (Opd.tmp rfl) hx15) ?_
      refine RegL.pure (p := (pEq (.string x15))) rfl rfl rfl (J_load rfl Tryd.isAgg9 (Opd.tmp rfl)) ?_
      replace h := bind_some h; obtain ⟨x16, hx16, h⟩ := h
      refine RegL.pure (p := (pTup [(pEq (.int .i64 x16.1)), (pEq (.bool x16.2))])) rfl rfl rfl (J_call rfl Tryd.call64 (c_spec_l01Number hx16) (Opds.cons (Opd.tmp rfl) Opds.nil)) ?_
      refine RegL.pure (p := (pTup [(pEq (.int .i64 x16.1)), (pEq (.bool x16.2))])) rfl rfl rfl (J_move rfl (Opd.tmp rfl)) ?_
      refine RegL.pure (p := (pEq (.int .i64 x16.1))) rfl rfl rfl (J_extract rfl (Opd.tmp rfl) rfl) ?_
      refine RegL.pure (p := (pEq (.bool x16.2))) rfl rfl rfl (J_extract rfl (Opd.tmp rfl) rfl) ?_
      refine RegL.pure (p := (pEq (.int .i64 x16.1))) rfl rfl rfl (J_assign rfl (Opd.tmp rfl)) ?_
      refine RegL.pure (p := (pEq (.bool x16.2))) rfl rfl rfl (J_assign rfl (Opd.tmp rfl)) ?_
      refine RegL.nil ?_
      refine Ct.then_tr ?_
      refine Tr.weak (Γ' := [(2, (pEq (.pointer (some ⟨b1, 0, none⟩)))), (4, (pSl 1 cS x2)), (5, (pEq (.slice g14.1 g14.2.1 g14.2.2))), (6, (pEq (.int .i64 v7))), (7, (pEq (.int .i64 x16.1))), (8, (pEq (.bool x16.2)))]) ⟨rfl, rfl, rfl, rfl, rfl, rfl, trivial⟩ ?_
      refine Tr.seq ?_
      refine Tr.seq ?_
      refine Tr.region ?_
      refine RegL.pure (p := (pEq (.bool x16.2))) rfl rfl rfl (J_move rfl (Opd.tmp rfl)) ?_
      refine RegL.pure (p := (pEq (.bool (!x16.2)))) rfl rfl rfl (J_not rfl (Opd.tmp rfl)) ?_
      refine RegL.nil ?_
      refine Ct.then_tr ?_
      refine Tr.weak (Γ' := [(2, (pEq (.pointer (some ⟨b1, 0, none⟩)))), (4, (pSl 1 cS x2)), (5, (pEq (.slice g14.1 g14.2.1 g14.2.2))), (6, (pEq (.int .i64 v7))), (7, (pEq (.int .i64 x16.1))), (30, (pEq (.bool (!x16.2))))]) ⟨rfl, rfl, rfl, rfl, rfl, rfl, trivial⟩ ?_
      refine Tr.cond (Opd.tmp rfl) (fun hc => ?_) (fun hc => ?_)
      · replace h := bif_t hc h
        refine Tr.seq ?_
        refine Tr.region ?_
        refine RegL.pure (p := (pAgg (cGBand (GBand.mk ByteArray.empty (0 : Int) (0 : Int) (0 : Int) (0 : Int))))) rfl rfl rfl (J_build (qss := []) rfl bl52 bz52o Parts.nil rfl) ?_
        refine RegL.re (Ω2 := [oBlk b1 [(pEq (.string v9)), (pEq (.int .i64 v10)), (pEq (.int .i64 v11)), (pEq (.int .i64 v12)), (pEq (.int .i64 v13))], oSl 2 1 (cK .i64) g14.1 g14.2.1 g14.2.2 v8]) (fun h => SatO.pick 1 h) ?_
        refine RegL.stepN (γ := Unit) (p := fun _ => pAny) (Ω' := fun _ => [oBlk b1 [(pEq (.string (GBand.mk ByteArray.empty (0 : Int) (0 : Int) (0 : Int) (0 : Int)).Name)), (pEq (.int .i64 (GBand.mk ByteArray.empty (0 : Int) (0 : Int) (0 : Int) (0 : Int)).Low)), (pEq (.int .i64 (GBand.mk ByteArray.empty (0 : Int) (0 : Int) (0 : Int) (0 : Int)).High)), (pEq (.int .i64 (GBand.mk ByteArray.empty (0 : Int) (0 : Int) (0 : Int) (0 : Int)).Raster)), (pEq (.int .i64 (GBand.mk ByteArray.empty (0 : Int) (0 : Int) (0 : Int) (0 : Int)).Duplex))], oSl 2 1 (cK .i64) g14.1 g14.2.1 g14.2.2 v8]) rfl rfl (M_storeA rfl sz52 (Opd.tmp rfl) (Opd.tmp rfl) (fun _ _ _ h => ones_of ((OneCs.cons OneC.str (OneCs.cons OneC.int (OneCs.cons OneC.int (OneCs.cons OneC.int (OneCs.cons OneC.int OneCs.nil)))))) h) rfl rfl) fun g17 => ?_
        refine RegL.pure (p := (pEq (.bool false))) rfl rfl rfl (J_assign rfl Opd.con) ?_
        refine RegL.nil ?_
        refine Ct.then_tr ?_
        refine Tr.weak (Γ' := [(2, (pEq (.pointer (some ⟨b1, 0, none⟩)))), (3, (pEq (.bool false)))]) ⟨rfl, rfl, trivial⟩ ?_
        refine Tr.ret ?_
        refine Ct.then_ret ?_
        refine Ct.blk_ret ?_
        refine Ct.then_ret ?_
        replace h := map_some h; obtain ⟨r1, h, rfl⟩ := h
        refine Ct.out_ret fun e => ?_
        subst e
        refine Ct.blk_ret ?_
        refine Ct.then_ret ?_
        replace h := Option.some.inj h; subst h
        exact Ct.retH2 (Ωx := [oBlk b1 [(pEq (.string (GBand.mk ByteArray.empty (0 : Int) (0 : Int) (0 : Int) (0 : Int)).Name)), (pEq (.int .i64 (GBand.mk ByteArray.empty (0 : Int) (0 : Int) (0 : Int) (0 : Int)).Low)), (pEq (.int .i64 (GBand.mk ByteArray.empty (0 : Int) (0 : Int) (0 : Int) (0 : Int)).High)), (pEq (.int .i64 (GBand.mk ByteArray.empty (0 : Int) (0 : Int) (0 : Int) (0 : Int)).Raster)), (pEq (.int .i64 (GBand.mk ByteArray.empty (0 : Int) (0 : Int) (0 : Int) (0 : Int)).Duplex))], oSl 2 1 (cK .i64) g14.1 g14.2.1 g14.2.2 v8]) () rfl (RvOk.cellA (i := 0) Tryd.isAgg52 sz52 rfl rfl rfl) (RvOk.tmp rfl) rfl rfl
      · replace h := bif_f hc h
        refine Tr.skip ?_
        refine Ct.then_tr ?_
        refine Tr.weak (Γ' := [(2, (pEq (.pointer (some ⟨b1, 0, none⟩)))), (4, (pSl 1 cS x2)), (5, (pEq (.slice g14.1 g14.2.1 g14.2.2))), (6, (pEq (.int .i64 v7))), (7, (pEq (.int .i64 x16.1)))]) ⟨rfl, rfl, rfl, rfl, rfl, trivial⟩ ?_
        refine Tr.region ?_
        refine RegL.pure (p := (pEq (.slice g14.1 g14.2.1 g14.2.2))) rfl rfl rfl (J_move rfl (Opd.tmp rfl)) ?_
        refine RegL.pure (p := (pEq (.int .i64 x16.1))) rfl rfl rfl (J_move rfl (Opd.tmp rfl)) ?_
        refine RegL.pure (p := (pSl 1 (cK .i64) ([x16.1] : (List Int)))) rfl rfl rfl (J_buildSlice (l := ([x16.1] : (List Int))) (qss := [(0, (cK .i64) x16.1)]) rfl Tryd.underlying22 el2 rfl (Parts.cons (Part.one (Opd.tmp rfl) OneC.int) Parts.nil) rfl rfl) ?_
        replace h := bind_some h; obtain ⟨x18, hx18, h⟩ := h
        refine RegL.step (γ := Option Addr × Nat) (p := fun g => pEq (.slice g.1 x18.length g.2)) (Ω' := fun g => [oSl 2 1 (cK .i64) g.1 x18.length g.2 x18, oBlk b1 [(pEq (.string v9)), (pEq (.int .i64 v10)), (pEq (.int .i64 v11)), (pEq (.int .i64 v12)), (pEq (.int .i64 v13))]]) rfl rfl rfl (M_appendI rfl Tryd.underlying22 el2 (Opd.tmp rfl) (Opd.tmp rfl) hx18) fun g19 => ?_
        refine RegL.pure (p := (pEq (.slice g19.1 x18.length g19.2))) rfl rfl rfl (J_assign rfl (Opd.tmp rfl)) ?_
        refine RegL.nil ?_
        refine Ct.blk_normal ?_
        refine Ct.then_tr ?_
        refine Tr.weak (Γ' := [(2, (pEq (.pointer (some ⟨b1, 0, none⟩)))), (4, (pSl 1 cS x2)), (5, (pEq (.slice g19.1 x18.length g19.2))), (6, (pEq (.int .i64 v7)))]) ⟨rfl, rfl, rfl, rfl, trivial⟩ ?_
        refine Tr.region ?_
        refine RegL.pure (p := (pEq (.int .i64 v7))) rfl rfl rfl (J_move rfl (Opd.tmp rfl)) ?_
        refine RegL.pure (p := (pEq (.int .i64 (w64 (v7 + (1 : Int)))))) rfl rfl rfl (J_bin rfl (Opd.tmp rfl) Opd.con B_add) ?_
        refine RegL.pure (p := (pEq (.int .i64 (w64 (v7 + (1 : Int)))))) rfl rfl rfl (J_assign rfl (Opd.tmp rfl)) ?_
        refine RegL.nil ?_
        replace h := Option.some.inj h; subst h
        exact Ct.again (g19.1, x18.length, g19.2) rfl ⟨rfl, rfl, rfl, rfl, trivial⟩
    · replace h := bif_f hc h
      refine Tr.exit ?_
      refine Ct.then_exit ?_
      replace h := map_some h; obtain ⟨r1, h, rfl⟩ := h
      refine Ct.out_exit fun e => ?_
      subst e
      refine Ct.blk_exit ?_
      refine Ct.then_tr ?_
      refine Tr.weak (Γ' := [(2, (pEq (.pointer (some ⟨b1, 0, none⟩)))), (4, (pSl 1 cS x2)), (5, (pEq (.slice g14.1 g14.2.1 g14.2.2)))]) ⟨rfl, rfl, rfl, trivial⟩ ?_
      refine Tr.seq ?_
      replace h := bind_some h; obtain ⟨x20, hx20, h⟩ := h
      replace h := bind_some h; obtain ⟨x21, hx21, h⟩ := h
      replace h := bind_some h; obtain ⟨x22, hx22, h⟩ := h
      replace h := bind_some h; obtain ⟨x23, hx23, h⟩ := h
      replace h := bind_some h; obtain ⟨x24, hx24, h⟩ := h
      refine Tr.drawD (n := 56) (m := 17) (es := [some (Ent.mk [(4, (pSl 1 cS x2))] (pSl 1 cS x2) true), some (Ent.mk [(36, (pSl 1 cS x2))] (pPtr (cS x20)) true), some (Ent.mk [(37, (pPtr (cS x20)))] (pEq (.string x20)) true), some (Ent.mk [(5, (pEq (.slice g14.1 g14.2.1 g14.2.2)))] (pEq (.slice g14.1 g14.2.1 g14.2.2)) true), some (Ent.mk [(39, (pEq (.slice g14.1 g14.2.1 g14.2.2)))] (pEq (.pointer (some ⟨blk g14.1, ((0 : Int)).toNat * 1, none⟩))) true), some (Ent.mk [(40, (pEq (.pointer (some ⟨blk g14.1, ((0 : Int)).toNat * 1, none⟩))))] (pEq (.int .i64 x21)) true), some (Ent.mk [(5, (pEq (.slice g14.1 g14.2.1 g14.2.2)))] (pEq (.slice g14.1 g14.2.1 g14.2.2)) true), some (Ent.mk [(42, (pEq (.slice g14.1 g14.2.1 g14.2.2)))] (pEq (.pointer (some ⟨blk g14.1, ((1 : Int)).toNat * 1, none⟩))) true), some (Ent.mk [(43, (pEq (.pointer (some ⟨blk g14.1, ((1 : Int)).toNat * 1, none⟩))))] (pEq (.int .i64 x22)) true), some (Ent.mk [(5, (pEq (.slice g14.1 g14.2.1 g14.2.2)))] (pEq (.slice g14.1 g14.2.1 g14.2.2)) true), some (Ent.mk [(45, (pEq (.slice g14.1 g14.2.1 g14.2.2)))] (pEq (.pointer (some ⟨blk g14.1, ((2 : Int)).toNat * 1, none⟩))) true), some (Ent.mk [(46, (pEq (.pointer (some ⟨blk g14.1, ((2 : Int)).toNat * 1, none⟩))))] (pEq (.int .i64 x23)) true), some (Ent.mk [(5, (pEq (.slice g14.1 g14.2.1 g14.2.2)))] (pEq (.slice g14.1 g14.2.1 g14.2.2)) true), some (Ent.mk [(48, (pEq (.slice g14.1 g14.2.1 g14.2.2)))] (pEq (.pointer (some ⟨blk g14.1, ((3 : Int)).toNat * 1, none⟩))) true), some (Ent.mk [(49, (pEq (.pointer (some ⟨blk g14.1, ((3 : Int)).toNat * 1, none⟩))))] (pEq (.int .i64 x24)) true), some (Ent.mk [(38, (pEq (.string x20))), (41, (pEq (.int .i64 x21))), (44, (pEq (.int .i64 x22))), (47, (pEq (.int .i64 x23))), (50, (pEq (.int .i64 x24)))] (pAgg (cGBand (GBand.mk x20 x21 x22 x23 x24))) true), none]) (rd := [[4], [36], [37], [5], [39], [40], [5], [42], [43], [5], [45], [46], [5], [48], [49], [38, 41, 44, 47, 50], []]) rfl hmix (by kernel_rfl) fun hD => ?_
      refine RD.step hD (es := [some (Ent.mk [(4, (pSl 1 cS x2))] (pSl 1 cS x2) true), some (Ent.mk [(36, (pSl 1 cS x2))] (pPtr (cS x20)) true), some (Ent.mk [(37, (pPtr (cS x20)))] (pEq (.string x20)) true), some (Ent.mk [(5, (pEq (.slice g14.1 g14.2.1 g14.2.2)))] (pEq (.slice g14.1 g14.2.1 g14.2.2)) true), some (Ent.mk [(39, (pEq (.slice g14.1 g14.2.1 g14.2.2)))] (pEq (.pointer (some ⟨blk g14.1, ((0 : Int)).toNat * 1, none⟩))) true), some (Ent.mk [(40, (pEq (.pointer (some ⟨blk g14.1, ((0 : Int)).toNat * 1, none⟩))))] (pEq (.int .i64 x21)) true), some (Ent.mk [(5, (pEq (.slice g14.1 g14.2.1 g14.2.2)))] (pEq (.slice g14.1 g14.2.1 g14.2.2)) true), some (Ent.mk [(42, (pEq (.slice g14.1 g14.2.1 g14.2.2)))] (pEq (.pointer (some ⟨blk g14.1, ((1 : Int)).toNat * 1, none⟩))) true), some (Ent.mk [(43, (pEq (.pointer (some ⟨blk g14.1, ((1 : Int)).toNat * 1, none⟩))))] (pEq (.int .i64 x22)) true), some (Ent.mk [(5, (pEq (.slice g14.1 g14.2.1 g14.2.2)))] (pEq (.slice g14.1 g14.2.1 g14.2.2)) true), some (Ent.mk [(45, (pEq (.slice g14.1 g14.2.1 g14.2.2)))] (pEq (.pointer (some ⟨blk g14.1, ((2 : Int)).toNat * 1, none⟩))) true), some (Ent.mk [(46, (pEq (.pointer (some ⟨blk g14.1, ((2 : Int)).toNat * 1, none⟩))))] (pEq (.int .i64 x23)) true), some (Ent.mk [(5, (pEq (.slice g14.1 g14.2.1 g14.2.2)))] (pEq (.slice g14.1 g14.2.1 g14.2.2)) true), some (Ent.mk [(48, (pEq (.slice g14.1 g14.2.1 g14.2.2)))] (pEq (.pointer (some ⟨blk g14.1, ((3 : Int)).toNat * 1, none⟩))) true), some (Ent.mk [(49, (pEq (.pointer (some ⟨blk g14.1, ((3 : Int)).toNat * 1, none⟩))))] (pEq (.int .i64 x24)) true), some (Ent.mk [(38, (pEq (.string x20))), (41, (pEq (.int .i64 x21))), (44, (pEq (.int .i64 x22))), (47, (pEq (.int .i64 x23))), (50, (pEq (.int .i64 x24)))] (pAgg (cGBand (GBand.mk x20 x21 x22 x23 x24))) true), none]) (done := []) (mask := [true, true, true, true, true, true, true, true, true, true, true, true, true, true, true, true, false]) (γ := Nat) (p := fun b => pEq (.pointer (some ⟨b, 0, none⟩))) (Ω' := fun b => [oBlk b [(pEq (.string ByteArray.empty)), (pEq (.int .i64 (0 : Int))), (pEq (.int .i64 (0 : Int))), (pEq (.int .i64 (0 : Int))), (pEq (.int .i64 (0 : Int)))], oSl 2 1 (cK .i64) g14.1 g14.2.1 g14.2.2 v8, oBlk b1 [(pEq (.string v9)), (pEq (.int .i64 v10)), (pEq (.int .i64 v11)), (pEq (.int .i64 v12)), (pEq (.int .i64 v13))]]) (es' := fun b25 => [some (Ent.mk [(4, (pSl 1 cS x2))] (pSl 1 cS x2) true), some (Ent.mk [(36, (pSl 1 cS x2))] (pPtr (cS x20)) true), some (Ent.mk [(37, (pPtr (cS x20)))] (pEq (.string x20)) true), some (Ent.mk [(5, (pEq (.slice g14.1 g14.2.1 g14.2.2)))] (pEq (.slice g14.1 g14.2.1 g14.2.2)) true), some (Ent.mk [(39, (pEq (.slice g14.1 g14.2.1 g14.2.2)))] (pEq (.pointer (some ⟨blk g14.1, ((0 : Int)).toNat * 1, none⟩))) true), some (Ent.mk [(40, (pEq (.pointer (some ⟨blk g14.1, ((0 : Int)).toNat * 1, none⟩))))] (pEq (.int .i64 x21)) true), some (Ent.mk [(5, (pEq (.slice g14.1 g14.2.1 g14.2.2)))] (pEq (.slice g14.1 g14.2.1 g14.2.2)) true), some (Ent.mk [(42, (pEq (.slice g14.1 g14.2.1 g14.2.2)))] (pEq (.pointer (some ⟨blk g14.1, ((1 : Int)).toNat * 1, none⟩))) true), some (Ent.mk [(43, (pEq (.pointer (some ⟨blk g14.1, ((1 : Int)).toNat * 1, none⟩))))] (pEq (.int .i64 x22)) true), some (Ent.mk [(5, (pEq (.slice g14.1 g14.2.1 g14.2.2)))] (pEq (.slice g14.1 g14.2.1 g14.2.2)) true), some (Ent.mk [(45, (pEq (.slice g14.1 g14.2.1 g14.2.2)))] (pEq (.pointer (some ⟨blk g14.1, ((2 : Int)).toNat * 1, none⟩))) true), some (Ent.mk [(46, (pEq (.pointer (some ⟨blk g14.1, ((2 : Int)).toNat * 1, none⟩))))] (pEq (.int .i64 x23)) true), some (Ent.mk [(5, (pEq (.slice g14.1 g14.2.1 g14.2.2)))] (pEq (.slice g14.1 g14.2.1 g14.2.2)) true), some (Ent.mk [(48, (pEq (.slice g14.1 g14.2.1 g14.2.2)))] (pEq (.pointer (some ⟨blk g14.1, ((3 : Int)).toNat * 1, none⟩))) true), some (Ent.mk [(49, (pEq (.pointer (some ⟨blk g14.1, ((3 : Int)).toNat * 1, none⟩))))] (pEq (.int .i64 x24)) true), some (Ent.mk [(38, (pEq (.string x20))), (41, (pEq (.int .i64 x21))), (44, (pEq (.int .i64 x22))), (47, (pEq (.int .i64 x23))), (50, (pEq (.int .i64 x24)))] (pAgg (cGBand (GBand.mk x20 x21 x22 x23 x24))) true), some (Ent.mk [] (pEq (.pointer (some ⟨b25, 0, none⟩))) true)]) (Γc := []) 16 rfl rfl rfl (by kernel_rfl) ⟨.inr ⟨(OpJ.w (J_move rfl (Opd.tmp rfl))), ⟨rfl, trivial⟩, rfl, rfl⟩, ⟨.inr ⟨(OpJ.w (J_idx rfl Tryd.underlying79 sz9 (Opd.tmp rfl) Opd.con hx20)), ⟨rfl, trivial⟩, rfl, rfl⟩, ⟨.inr ⟨(OpJ.w (J_load rfl Tryd.isAgg9 (Opd.tmp rfl))), ⟨rfl, trivial⟩, rfl, rfl⟩, ⟨.inr ⟨(OpJ.w (J_move rfl (Opd.tmp rfl))), ⟨rfl, trivial⟩, rfl, rfl⟩, ⟨.inr ⟨(W_rowIdx (j := 0) rfl Tryd.underlying22 sz2 (Opd.tmp rfl) Opd.con rfl (idx_lt hx21)), ⟨rfl, trivial⟩, rfl, rfl⟩, ⟨.inr ⟨(W_rowLoad (j := 0) (f := (cK .i64)) rfl Tryd.isAgg2 (fun _ => rfl) (Opd.tmp rfl) rfl hx21 rfl), ⟨rfl, trivial⟩, rfl, rfl⟩, ⟨.inr ⟨(OpJ.w (J_move rfl (Opd.tmp rfl))), ⟨rfl, trivial⟩, rfl, rfl⟩, ⟨.inr ⟨(W_rowIdx (j := 0) rfl Tryd.underlying22 sz2 (Opd.tmp rfl) Opd.con rfl (idx_lt hx22)), ⟨rfl, trivial⟩, rfl, rfl⟩, ⟨.inr ⟨(W_rowLoad (j := 0) (f := (cK .i64)) rfl Tryd.isAgg2 (fun _ => rfl) (Opd.tmp rfl) rfl hx22 rfl), ⟨rfl, trivial⟩, rfl, rfl⟩, ⟨.inr ⟨(OpJ.w (J_move rfl (Opd.tmp rfl))), ⟨rfl, trivial⟩, rfl, rfl⟩, ⟨.inr ⟨(W_rowIdx (j := 0) rfl Tryd.underlying22 sz2 (Opd.tmp rfl) Opd.con rfl (idx_lt hx23)), ⟨rfl, trivial⟩, rfl, rfl⟩, ⟨.inr ⟨(W_rowLoad (j := 0) (f := (cK .i64)) rfl Tryd.isAgg2 (fun _ => rfl) (Opd.tmp rfl) rfl hx23 rfl), ⟨rfl, trivial⟩, rfl, rfl⟩, ⟨.inr ⟨(OpJ.w (J_move rfl (Opd.tmp rfl))), ⟨rfl, trivial⟩, rfl, rfl⟩, ⟨.inr ⟨(W_rowIdx (j := 0) rfl Tryd.underlying22 sz2 (Opd.tmp rfl) Opd.con rfl (idx_lt hx24)), ⟨rfl, trivial⟩, rfl, rfl⟩, ⟨.inr ⟨(W_rowLoad (j := 0) (f := (cK .i64)) rfl Tryd.isAgg2 (fun _ => rfl) (Opd.tmp rfl) rfl hx24 rfl), ⟨rfl, trivial⟩, rfl, rfl⟩, ⟨.inr ⟨(OpJ.w (J_build (qss := [(0, cS x20), (1, (cK .i64) x21), (2, (cK .i64) x22), (3, (cK .i64) x23), (4, (cK .i64) x24)]) rfl bl52 bz52o (Parts.cons (Part.one (Opd.tmp rfl) OneC.str) (Parts.cons (Part.one (Opd.tmp rfl) OneC.int) (Parts.cons (Part.one (Opd.tmp rfl) OneC.int) (Parts.cons (Part.one (Opd.tmp rfl) OneC.int) (Parts.cons (Part.one (Opd.tmp rfl) OneC.int) Parts.nil))))) rfl)), ⟨rfl, rfl, rfl, rfl, rfl, trivial⟩, rfl, rfl⟩, trivial⟩⟩⟩⟩⟩⟩⟩⟩⟩⟩⟩⟩⟩⟩⟩⟩ rfl rfl trivial (fun _ => M_alloc rfl zero52) (fun b25 => ⟨rfl, ⟨rfl, ⟨rfl, ⟨rfl, ⟨rfl, ⟨rfl, ⟨rfl, ⟨rfl, ⟨rfl, ⟨rfl, ⟨rfl, ⟨rfl, ⟨rfl, ⟨rfl, ⟨rfl, ⟨rfl, trivial⟩⟩⟩⟩⟩⟩⟩⟩⟩⟩⟩⟩⟩⟩⟩⟩) (fun b25 => rfl) rfl fun b25 => ?_
      refine RD.fin (es := [Ent.mk [(4, (pSl 1 cS x2))] (pSl 1 cS x2) true, Ent.mk [(36, (pSl 1 cS x2))] (pPtr (cS x20)) true, Ent.mk [(37, (pPtr (cS x20)))] (pEq (.string x20)) true, Ent.mk [(5, (pEq (.slice g14.1 g14.2.1 g14.2.2)))] (pEq (.slice g14.1 g14.2.1 g14.2.2)) true, Ent.mk [(39, (pEq (.slice g14.1 g14.2.1 g14.2.2)))] (pEq (.pointer (some ⟨blk g14.1, ((0 : Int)).toNat * 1, none⟩))) true, Ent.mk [(40, (pEq (.pointer (some ⟨blk g14.1, ((0 : Int)).toNat * 1, none⟩))))] (pEq (.int .i64 x21)) true, Ent.mk [(5, (pEq (.slice g14.1 g14.2.1 g14.2.2)))] (pEq (.slice g14.1 g14.2.1 g14.2.2)) true, Ent.mk [(42, (pEq (.slice g14.1 g14.2.1 g14.2.2)))] (pEq (.pointer (some ⟨blk g14.1, ((1 : Int)).toNat * 1, none⟩))) true, Ent.mk [(43, (pEq (.pointer (some ⟨blk g14.1, ((1 : Int)).toNat * 1, none⟩))))] (pEq (.int .i64 x22)) true, Ent.mk [(5, (pEq (.slice g14.1 g14.2.1 g14.2.2)))] (pEq (.slice g14.1 g14.2.1 g14.2.2)) true, Ent.mk [(45, (pEq (.slice g14.1 g14.2.1 g14.2.2)))] (pEq (.pointer (some ⟨blk g14.1, ((2 : Int)).toNat * 1, none⟩))) true, Ent.mk [(46, (pEq (.pointer (some ⟨blk g14.1, ((2 : Int)).toNat * 1, none⟩))))] (pEq (.int .i64 x23)) true, Ent.mk [(5, (pEq (.slice g14.1 g14.2.1 g14.2.2)))] (pEq (.slice g14.1 g14.2.1 g14.2.2)) true, Ent.mk [(48, (pEq (.slice g14.1 g14.2.1 g14.2.2)))] (pEq (.pointer (some ⟨blk g14.1, ((3 : Int)).toNat * 1, none⟩))) true, Ent.mk [(49, (pEq (.pointer (some ⟨blk g14.1, ((3 : Int)).toNat * 1, none⟩))))] (pEq (.int .i64 x24)) true, Ent.mk [(38, (pEq (.string x20))), (41, (pEq (.int .i64 x21))), (44, (pEq (.int .i64 x22))), (47, (pEq (.int .i64 x23))), (50, (pEq (.int .i64 x24)))] (pAgg (cGBand (GBand.mk x20 x21 x22 x23 x24))) true, Ent.mk [] (pEq (.pointer (some ⟨b25, 0, none⟩))) true]) (done := [16]) hD ⟨.inr ⟨(OpJ.w (J_move rfl (Opd.tmp rfl))), ⟨rfl, trivial⟩, rfl, rfl⟩, ⟨.inr ⟨(OpJ.w (J_idx rfl Tryd.underlying79 sz9 (Opd.tmp rfl) Opd.con hx20)), ⟨rfl, trivial⟩, rfl, rfl⟩, ⟨.inr ⟨(OpJ.w (J_load rfl Tryd.isAgg9 (Opd.tmp rfl))), ⟨rfl, trivial⟩, rfl, rfl⟩, ⟨.inr ⟨(OpJ.w (J_move rfl (Opd.tmp rfl))), ⟨rfl, trivial⟩, rfl, rfl⟩, ⟨.inr ⟨(W_rowIdx (j := 1) rfl Tryd.underlying22 sz2 (Opd.tmp rfl) Opd.con rfl (idx_lt hx21)), ⟨rfl, trivial⟩, rfl, rfl⟩, ⟨.inr ⟨(W_rowLoad (j := 1) (f := (cK .i64)) rfl Tryd.isAgg2 (fun _ => rfl) (Opd.tmp rfl) rfl hx21 rfl), ⟨rfl, trivial⟩, rfl, rfl⟩, ⟨.inr ⟨(OpJ.w (J_move rfl (Opd.tmp rfl))), ⟨rfl, trivial⟩, rfl, rfl⟩, ⟨.inr ⟨(W_rowIdx (j := 1) rfl Tryd.underlying22 sz2 (Opd.tmp rfl) Opd.con rfl (idx_lt hx22)), ⟨rfl, trivial⟩, rfl, rfl⟩, ⟨.inr ⟨(W_rowLoad (j := 1) (f := (cK .i64)) rfl Tryd.isAgg2 (fun _ => rfl) (Opd.tmp rfl) rfl hx22 rfl), ⟨rfl, trivial⟩, rfl, rfl⟩, ⟨.inr ⟨(OpJ.w (J_move rfl (Opd.tmp rfl))), ⟨rfl, trivial⟩, rfl, rfl⟩, ⟨.inr ⟨(W_rowIdx (j := 1) rfl Tryd.underlying22 sz2 (Opd.tmp rfl) Opd.con rfl (idx_lt hx23)), ⟨rfl, trivial⟩, rfl, rfl⟩, ⟨.inr ⟨(W_rowLoad (j := 1) (f := (cK .i64)) rfl Tryd.isAgg2 (fun _ => rfl) (Opd.tmp rfl) rfl hx23 rfl), ⟨rfl, trivial⟩, rfl, rfl⟩, ⟨.inr ⟨(OpJ.w (J_move rfl (Opd.tmp rfl))), ⟨rfl, trivial⟩, rfl, rfl⟩, ⟨.inr ⟨(W_rowIdx (j := 1) rfl Tryd.underlying22 sz2 (Opd.tmp rfl) Opd.con rfl (idx_lt hx24)), ⟨rfl, trivial⟩, rfl, rfl⟩, ⟨.inr ⟨(W_rowLoad (j := 1) (f := (cK .i64)) rfl Tryd.isAgg2 (fun _ => rfl) (Opd.tmp rfl) rfl hx24 rfl), ⟨rfl, trivial⟩, rfl, rfl⟩, ⟨.inr ⟨(OpJ.w (J_build (qss := [(0, cS x20), (1, (cK .i64) x21), (2, (cK .i64) x22), (3, (cK .i64) x23), (4, (cK .i64) x24)]) rfl bl52 bz52o (Parts.cons (Part.one (Opd.tmp rfl) OneC.str) (Parts.cons (Part.one (Opd.tmp rfl) OneC.int) (Parts.cons (Part.one (Opd.tmp rfl) OneC.int) (Parts.cons (Part.one (Opd.tmp rfl) OneC.int) (Parts.cons (Part.one (Opd.tmp rfl) OneC.int) Parts.nil))))) rfl)), ⟨rfl, rfl, rfl, rfl, rfl, trivial⟩, rfl, rfl⟩, ⟨.inl rfl, trivial⟩⟩⟩⟩⟩⟩⟩⟩⟩⟩⟩⟩⟩⟩⟩⟩⟩ ?_
      refine RegL.stepN (γ := Unit) (p := fun _ => pAny) (Ω' := fun _ => [oBlk b25 [(pEq (.string (GBand.mk x20 x21 x22 x23 x24).Name)), (pEq (.int .i64 (GBand.mk x20 x21 x22 x23 x24).Low)), (pEq (.int .i64 (GBand.mk x20 x21 x22 x23 x24).High)), (pEq (.int .i64 (GBand.mk x20 x21 x22 x23 x24).Raster)), (pEq (.int .i64 (GBand.mk x20 x21 x22 x23 x24).Duplex))], oSl 2 1 (cK .i64) g14.1 g14.2.1 g14.2.2 v8, oBlk b1 [(pEq (.string v9)), (pEq (.int .i64 v10)), (pEq (.int .i64 v11)), (pEq (.int .i64 v12)), (pEq (.int .i64 v13))]]) rfl rfl (M_storeA rfl sz52 (Opd.tmp rfl) (Opd.tmp rfl) (fun _ _ _ h => ones_of ((OneCs.cons OneC.str (OneCs.cons OneC.int (OneCs.cons OneC.int (OneCs.cons OneC.int (OneCs.cons OneC.int OneCs.nil)))))) h) rfl rfl) fun g26 => ?_
      refine RegL.freeze (s := 9) rfl ?_
      refine RegL.nil ?_
      refine Ct.then_tr ?_
      refine Tr.weak (Γ' := [(2, (pEq (.pointer (some ⟨b1, 0, none⟩)))), (9, (pPtr (cGBand (GBand.mk x20 x21 x22 x23 x24))))]) ⟨rfl, rfl, trivial⟩ ?_
      refine Tr.seq ?_
      refine Tr.seq ?_
      refine Tr.region ?_
      replace h := bind_some h; obtain ⟨x27, hx27, h⟩ := h
      refine RegL.pure (p := (pEq (.bool x27))) rfl rfl rfl (J_call rfl Tryd.call58 (c_spec_l15Ok hx27) (Opds.cons (Opd.tmp rfl) Opds.nil)) ?_
      refine RegL.pure (p := (pEq (.bool (!x27)))) rfl rfl rfl (J_not rfl (Opd.tmp rfl)) ?_
      refine RegL.nil ?_
      refine Ct.then_tr ?_
      refine Tr.weak (Γ' := [(2, (pEq (.pointer (some ⟨b1, 0, none⟩)))), (9, (pPtr (cGBand (GBand.mk x20 x21 x22 x23 x24)))), (53, (pEq (.bool (!x27))))]) ⟨rfl, rfl, rfl, trivial⟩ ?_
      refine Tr.cond (Opd.tmp rfl) (fun hc => ?_) (fun hc => ?_)
      · replace h := bif_t hc h
        refine Tr.seq ?_
        refine Tr.region ?_
        refine RegL.pure (p := (pAgg (cGBand (GBand.mk ByteArray.empty (0 : Int) (0 : Int) (0 : Int) (0 : Int))))) rfl rfl rfl (J_build (qss := []) rfl bl52 bz52o Parts.nil rfl) ?_
        refine RegL.re (Ω2 := [oBlk b1 [(pEq (.string v9)), (pEq (.int .i64 v10)), (pEq (.int .i64 v11)), (pEq (.int .i64 v12)), (pEq (.int .i64 v13))], oSl 2 1 (cK .i64) g14.1 g14.2.1 g14.2.2 v8]) (fun h => SatO.pick 1 h) ?_
        refine RegL.stepN (γ := Unit) (p := fun _ => pAny) (Ω' := fun _ => [oBlk b1 [(pEq (.string (GBand.mk ByteArray.empty (0 : Int) (0 : Int) (0 : Int) (0 : Int)).Name)), (pEq (.int .i64 (GBand.mk ByteArray.empty (0 : Int) (0 : Int) (0 : Int) (0 : Int)).Low)), (pEq (.int .i64 (GBand.mk ByteArray.empty (0 : Int) (0 : Int) (0 : Int) (0 : Int)).High)), (pEq (.int .i64 (GBand.mk ByteArray.empty (0 : Int) (0 : Int) (0 : Int) (0 : Int)).Raster)), (pEq (.int .i64 (GBand.mk ByteArray.empty (0 : Int) (0 : Int) (0 : Int) (0 : Int)).Duplex))], oSl 2 1 (cK .i64) g14.1 g14.2.1 g14.2.2 v8]) rfl rfl (M_storeA rfl sz52 (Opd.tmp rfl) (Opd.tmp rfl) (fun _ _ _ h => ones_of ((OneCs.cons OneC.str (OneCs.cons OneC.int (OneCs.cons OneC.int (OneCs.cons OneC.int (OneCs.cons OneC.int OneCs.nil)))))) h) rfl rfl) fun g28 => ?_
        refine RegL.pure (p := (pEq (.bool false))) rfl rfl rfl (J_assign rfl Opd.con) ?_
        refine RegL.nil ?_
        refine Ct.then_tr ?_
        refine Tr.weak (Γ' := [(2, (pEq (.pointer (some ⟨b1, 0, none⟩)))), (3, (pEq (.bool false)))]) ⟨rfl, rfl, trivial⟩ ?_
        refine Tr.ret ?_
        refine Ct.then_ret ?_
        replace h := Option.some.inj h; subst h
        exact Ct.retH2 (Ωx := [oBlk b1 [(pEq (.string (GBand.mk ByteArray.empty (0 : Int) (0 : Int) (0 : Int) (0 : Int)).Name)), (pEq (.int .i64 (GBand.mk ByteArray.empty (0 : Int) (0 : Int) (0 : Int) (0 : Int)).Low)), (pEq (.int .i64 (GBand.mk ByteArray.empty (0 : Int) (0 : Int) (0 : Int) (0 : Int)).High)), (pEq (.int .i64 (GBand.mk ByteArray.empty (0 : Int) (0 : Int) (0 : Int) (0 : Int)).Raster)), (pEq (.int .i64 (GBand.mk ByteArray.empty (0 : Int) (0 : Int) (0 : Int) (0 : Int)).Duplex))], oSl 2 1 (cK .i64) g14.1 g14.2.1 g14.2.2 v8]) () rfl (RvOk.cellA (i := 0) Tryd.isAgg52 sz52 rfl rfl rfl) (RvOk.tmp rfl) rfl rfl
      · replace h := bif_f hc h
        refine Tr.skip ?_
        refine Ct.then_tr ?_
        refine Tr.weak (Γ' := [(2, (pEq (.pointer (some ⟨b1, 0, none⟩)))), (9, (pPtr (cGBand (GBand.mk x20 x21 x22 x23 x24))))]) ⟨rfl, rfl, trivial⟩ ?_
        refine Tr.seq ?_
        refine Tr.region ?_
        refine RegL.pure (p := (pAgg (cGBand (GBand.mk x20 x21 x22 x23 x24)))) rfl rfl rfl (J_loadA rfl Tryd.isAgg52 sz52 (Opd.tmp rfl) rfl) ?_
        refine RegL.re (Ω2 := [oBlk b1 [(pEq (.string v9)), (pEq (.int .i64 v10)), (pEq (.int .i64 v11)), (pEq (.int .i64 v12)), (pEq (.int .i64 v13))], oSl 2 1 (cK .i64) g14.1 g14.2.1 g14.2.2 v8]) (fun h => SatO.pick 1 h) ?_
        refine RegL.stepN (γ := Unit) (p := fun _ => pAny) (Ω' := fun _ => [oBlk b1 [(pEq (.string (GBand.mk x20 x21 x22 x23 x24).Name)), (pEq (.int .i64 (GBand.mk x20 x21 x22 x23 x24).Low)), (pEq (.int .i64 (GBand.mk x20 x21 x22 x23 x24).High)), (pEq (.int .i64 (GBand.mk x20 x21 x22 x23 x24).Raster)), (pEq (.int .i64 (GBand.mk x20 x21 x22 x23 x24).Duplex))], oSl 2 1 (cK .i64) g14.1 g14.2.1 g14.2.2 v8]) rfl rfl (M_storeA rfl sz52 (Opd.tmp rfl) (Opd.tmp rfl) (fun _ _ _ h => ones_of ((OneCs.cons OneC.str (OneCs.cons OneC.int (OneCs.cons OneC.int (OneCs.cons OneC.int (OneCs.cons OneC.int OneCs.nil)))))) h) rfl rfl) fun g29 => ?_
        refine RegL.pure (p := (pEq (.bool true))) rfl rfl rfl (J_assign rfl Opd.con) ?_
        refine RegL.nil ?_
        refine Ct.then_tr ?_
        refine Tr.weak (Γ' := [(2, (pEq (.pointer (some ⟨b1, 0, none⟩)))), (3, (pEq (.bool true)))]) ⟨rfl, rfl, trivial⟩ ?_
        refine Tr.ret ?_
        replace h := Option.some.inj h; subst h
        exact Ct.retH2 (Ωx := [oBlk b1 [(pEq (.string (GBand.mk x20 x21 x22 x23 x24).Name)), (pEq (.int .i64 (GBand.mk x20 x21 x22 x23 x24).Low)), (pEq (.int .i64 (GBand.mk x20 x21 x22 x23 x24).High)), (pEq (.int .i64 (GBand.mk x20 x21 x22 x23 x24).Raster)), (pEq (.int .i64 (GBand.mk x20 x21 x22 x23 x24).Duplex))], oSl 2 1 (cK .i64) g14.1 g14.2.1 g14.2.2 v8]) () rfl (RvOk.cellA (i := 0) Tryd.isAgg52 sz52 rfl rfl rfl) (RvOk.tmp rfl) rfl rfl

theorem c_strings_Split {s_0 sep_1 : ByteArray} {r : List ByteArray} (h : m_strings_Split s_0 sep_1 = some r) : CallJ Tryd.prog 65 [(pG (pF (fRB 1 0 2 3)) (pEq (.string s_0))), (pEq (.string sep_1))] (pSl 1 cS r) :=
  split_contract splitAt65 h

theorem c_strconv_ParseInt {s_0 : ByteArray} {b_1 z_2 : Int} {r : Int × Bool} (h : m_strconv_ParseInt s_0 b_1 z_2 = some r) : CallJ Tryd.prog 101 [(pEq (.string s_0)), (pG (pF (fRB 1 0 2 3)) (pEq (.int .i64 b_1))), (pEq (.int .i64 z_2))] (pTup [(pEq (.int .i64 r.1)), (pErr r.2)]) :=
  parse_contract parseOk101 parseSyn101 parseRng101 h

theorem c_strings_TrimPrefix {s_0 p_1 r : ByteArray} (h : m_strings_TrimPrefix s_0 p_1 = some r) : CallJ Tryd.prog 102 [(pEq (.string s_0)), (pEq (.string p_1))] (pEq (.string r)) :=
  trim_contract trimAt102 h

theorem c_strconv_FormatInt {n_0 b_1 : Int} {r : ByteArray} (h : m_strconv_FormatInt n_0 b_1 = some r) : CallJ Tryd.prog 98 [(pG (pF (fRB 1 0 2 3)) (pEq (.int .i64 n_0))), (pEq (.int .i64 b_1))] (pEq (.string r)) :=
  CallJ.weakG fRB_tab (fmt_contract (Go.Proofs.Any.strconv_FormatInt_10 lays98) (by kernel_rfl) h)

theorem c_impl_Decimal {n_0 : Int} {r : ByteArray} (h : m_impl_Decimal n_0 = some r) : CallJ Tryd.prog 62 [(pG (pF (fRB 1 0 2 3)) (pEq (.int .i64 n_0)))] (pEq (.string r)) := by
  unfold m_impl_Decimal at h
  refine CallJ.enterH Tryd.func62 rfl Tryd.ntmps62 rfl fun W I0 H => ?_
  refine Tr.tabF (s := 0) (k := 99999) rfl ?_; refine Tr.weak (Γ' := [(0, (pEq (.int .i64 n_0))), (99999, (pF (fRB 1 0 2 3)))]) ⟨rfl, rfl, trivial⟩ ?_
  refine Tr.seq ?_
  refine Tr.region ?_
  refine RegL.pure (p := (pEq (.string (ByteArray.mk #[])))) rfl rfl rfl (J_assign rfl Opd.con) ?_
  refine RegL.nil ?_
  refine Ct.then_tr ?_
  refine Tr.weak (Γ' := [(0, (pEq (.int .i64 n_0))), (99999, (pF (fRB 1 0 2 3)))]) ⟨rfl, rfl, trivial⟩ ?_
  refine Tr.seq ?_
  refine Tr.region ?_
  refine RegL.pure (p := (pEq (.int .i64 n_0))) rfl rfl rfl (J_move rfl (Opd.tmp rfl)) ?_
  replace h := bind_some h; obtain ⟨x1, hx1, h⟩ := h
  refine RegL.pure (p := (pEq (.string x1))) rfl rfl rfl (J_call rfl Tryd.call98 (c_strconv_FormatInt hx1) (Opds.cons (Opd.tabF (Opd.tmp rfl) 99999 rfl) (Opds.cons Opd.con Opds.nil))) ?_
  refine RegL.pure (p := (pEq (.string x1))) rfl rfl rfl (J_assign rfl (Opd.tmp rfl)) ?_
  refine RegL.nil ?_
  refine Ct.then_tr ?_
  refine Tr.weak (Γ' := [(2, (pEq (.string x1))), (99999, (pF (fRB 1 0 2 3)))]) ⟨rfl, rfl, trivial⟩ ?_
  refine Tr.ret ?_
  replace h := Option.some.inj h; subst h
  exact Ct.retH1 (Ωx := []) () rfl (RvOk.tmp rfl) rfl

theorem c_impl_ReadDecimal {s_0 : ByteArray} {r : (Int × Bool)} (h : m_impl_ReadDecimal s_0 = some r) : CallJ Tryd.prog 66 [(pG (pF (fRB 1 0 2 3)) (pEq (.string s_0)))] (pTup [(pEq (.int .i64 r.1)), (pEq (.bool r.2))]) := by
  unfold m_impl_ReadDecimal at h
  refine CallJ.enterH Tryd.func66 rfl Tryd.ntmps66 rfl fun W I0 H => ?_
  refine Tr.tabF (s := 0) (k := 99999) rfl ?_; refine Tr.weak (Γ' := [(0, (pEq (.string s_0))), (99999, (pF (fRB 1 0 2 3)))]) ⟨rfl, rfl, trivial⟩ ?_
  refine Tr.seq ?_
  refine Tr.region ?_
  refine RegL.pure (p := (pEq (.int .i64 (0 : Int)))) rfl rfl rfl (J_assign rfl Opd.con) ?_
  refine RegL.pure (p := (pEq (.bool false))) rfl rfl rfl (J_assign rfl Opd.con) ?_
  refine RegL.nil ?_
  refine Ct.then_tr ?_
  refine Tr.weak (Γ' := [(0, (pEq (.string s_0))), (99999, (pF (fRB 1 0 2 3)))]) ⟨rfl, rfl, trivial⟩ ?_
  refine Tr.seq ?_
  refine Tr.region ?_
  refine RegL.pure (p := (pEq (.string s_0))) rfl rfl rfl (J_move rfl (Opd.tmp rfl)) ?_
  replace h := bind_some h; obtain ⟨x1, hx1, h⟩ := h
  refine RegL.pure (p := (pTup [(pEq (.int .i64 x1.1)), (pErr x1.2)])) rfl rfl rfl (J_call rfl Tryd.call101 (c_strconv_ParseInt hx1) (Opds.cons (Opd.tmp rfl) (Opds.cons (Opd.tabF Opd.con 99999 rfl) (Opds.cons Opd.con Opds.nil)))) ?_
  refine RegL.pure (p := (pTup [(pEq (.int .i64 x1.1)), (pErr x1.2)])) rfl rfl rfl (J_move rfl (Opd.tmp rfl)) ?_
  refine RegL.pure (p := (pEq (.int .i64 x1.1))) rfl rfl rfl (J_extract rfl (Opd.tmp rfl) rfl) ?_
  refine RegL.pure (p := (pErr x1.2)) rfl rfl rfl (J_extract rfl (Opd.tmp rfl) rfl) ?_
  refine RegL.pure (p := (pEq (.int .i64 x1.1))) rfl rfl rfl (J_assign rfl (Opd.tmp rfl)) ?_
  refine RegL.pure (p := (pErr x1.2)) rfl rfl rfl (J_assign rfl (Opd.tmp rfl)) ?_
  refine RegL.nil ?_
  refine Ct.then_tr ?_
  refine Tr.weak (Γ' := [(0, (pEq (.string s_0))), (4, (pEq (.int .i64 x1.1))), (5, (pErr x1.2)), (99999, (pF (fRB 1 0 2 3)))]) ⟨rfl, rfl, rfl, rfl, trivial⟩ ?_
  refine Tr.seq ?_
  refine Tr.seq ?_
  replace h := bind_some h; obtain ⟨x2, hx2, h⟩ := h
  refine Tr.cut (γ := Unit) (Γm := fun g => [(4, (pEq (.int .i64 x1.1))), (24, (pEq (.bool x2))), (99999, (pF (fRB 1 0 2 3)))]) (Ωm := fun g => []) ?_ (fun g7 => ?_)
  · clear h
    have h := hx2
    clear hx2
    refine Tr.region ?_
    refine RegL.pure (p := (pErr x1.2)) rfl rfl rfl (J_move rfl (Opd.tmp rfl)) ?_
    refine RegL.pure (p := (pEq (.bool x1.2))) rfl rfl rfl (J_errNe rfl Tryd.underlying98 (Opd.tmp rfl)) ?_
    refine RegL.pure (p := (pEq (.bool x1.2))) rfl rfl rfl (J_move rfl (Opd.tmp rfl)) ?_
    rcases Bool.eq_false_or_eq_true x1.2 with hc3 | hc3
    · replace h := bif_t hc3 h
      refine RegL.skipG rfl rfl rfl hc3 rfl rfl ?_
      refine RegL.skipG rfl rfl rfl hc3 rfl rfl ?_
      refine RegL.skipG rfl rfl rfl hc3 rfl rfl ?_
      refine RegL.skipG rfl rfl rfl hc3 rfl rfl ?_
      refine RegL.pure (p := (pEq (.bool true))) rfl rfl rfl (J_pick rfl (Opd.tmp rfl) (fun _ => Opd.con) (fun hf => absurd (hc3.symm.trans hf) (by decide))) ?_
      refine RegL.pure (p := (pEq (.bool true))) rfl rfl rfl (J_move rfl (Opd.tmp rfl)) ?_
      refine RegL.skipG rfl rfl rfl rfl rfl rfl ?_
      refine RegL.skipG rfl rfl rfl rfl rfl rfl ?_
      refine RegL.skipG rfl rfl rfl rfl rfl rfl ?_
      refine RegL.skipG rfl rfl rfl rfl rfl rfl ?_
      refine RegL.pure (p := (pEq (.bool true))) rfl rfl rfl (J_pick rfl (Opd.tmp rfl) (fun _ => Opd.con) (fun hf => absurd hf (by decide))) ?_
      refine RegL.nil ?_
      replace h := Option.some.inj h; subst h
      exact Ct.mid () rfl ⟨rfl, rfl, rfl, trivial⟩
    · replace h := bif_f hc3 h
      refine RegL.pureG (p := (pEq (.string s_0))) rfl rfl rfl hc3 rfl rfl (J_move rfl (Opd.tmp rfl)) ?_
      replace h := bind_some h; obtain ⟨x4, hx4, h⟩ := h
      refine RegL.pureG (p := (pEq (.string x4))) rfl rfl rfl hc3 rfl rfl (J_call rfl Tryd.call102 (c_strings_TrimPrefix hx4) (Opds.cons (Opd.tmp rfl) (Opds.cons Opd.con Opds.nil))) ?_
      refine RegL.pureG (p := (pEq (.int .i64 (x4.size : Int)))) rfl rfl rfl hc3 rfl rfl (J_slen rfl Tryd.underlying9 (Opd.tmp rfl) rfl) ?_
      refine RegL.pureG (p := (pEq (.bool (decide ((18 : Int) < (x4.size : Int)))))) rfl rfl rfl hc3 rfl rfl (J_bin rfl (Opd.tmp rfl) Opd.con B_gtr) ?_
      refine RegL.pure (p := (pEq (.bool (decide ((18 : Int) < (x4.size : Int)))))) rfl rfl rfl (J_pick rfl (Opd.tmp rfl) (fun hf => absurd (hc3.symm.trans hf) (by decide)) (fun _ => (Opd.tmp rfl))) ?_
      refine RegL.pure (p := (pEq (.bool (decide ((18 : Int) < (x4.size : Int)))))) rfl rfl rfl (J_move rfl (Opd.tmp rfl)) ?_
      rcases Bool.eq_false_or_eq_true (decide ((18 : Int) < (x4.size : Int))) with hc5 | hc5
      · replace h := bif_t hc5 h
        refine RegL.skipG rfl rfl rfl hc5 rfl rfl ?_
        refine RegL.skipG rfl rfl rfl hc5 rfl rfl ?_
        refine RegL.skipG rfl rfl rfl hc5 rfl rfl ?_
        refine RegL.skipG rfl rfl rfl hc5 rfl rfl ?_
        refine RegL.pure (p := (pEq (.bool true))) rfl rfl rfl (J_pick rfl (Opd.tmp rfl) (fun _ => Opd.con) (fun hf => absurd (hc5.symm.trans hf) (by decide))) ?_
        refine RegL.nil ?_
        replace h := Option.some.inj h; subst h
        exact Ct.mid () rfl ⟨rfl, rfl, rfl, trivial⟩
      · replace h := bif_f hc5 h
        refine RegL.pureG (p := (pEq (.int .i64 x1.1))) rfl rfl rfl hc5 rfl rfl (J_move rfl (Opd.tmp rfl)) ?_
        replace h := bind_some h; obtain ⟨x6, hx6, h⟩ := h
        refine RegL.pureG (p := (pEq (.string x6))) rfl rfl rfl hc5 rfl rfl (J_call rfl Tryd.call62 (c_impl_Decimal hx6) (Opds.cons (Opd.tabF (Opd.tmp rfl) 99999 rfl) Opds.nil)) ?_
        refine RegL.pureG (p := (pEq (.string s_0))) rfl rfl rfl hc5 rfl rfl (J_move rfl (Opd.tmp rfl)) ?_
        refine RegL.pureG (p := (pEq (.bool (!(x6.toList == s_0.toList))))) rfl rfl rfl hc5 rfl rfl (J_bin rfl (Opd.tmp rfl) (Opd.tmp rfl) B_sneq) ?_
        refine RegL.pure (p := (pEq (.bool (!(x6.toList == s_0.toList))))) rfl rfl rfl (J_pick rfl (Opd.tmp rfl) (fun hf => absurd (hc5.symm.trans hf) (by decide)) (fun _ => (Opd.tmp rfl))) ?_
        refine RegL.nil ?_
        replace h := Option.some.inj h; subst h
        exact Ct.mid () rfl ⟨rfl, rfl, rfl, trivial⟩
  · clear hx2
    refine Ct.then_tr ?_
    refine Tr.weak (Γ' := [(4, (pEq (.int .i64 x1.1))), (24, (pEq (.bool x2))), (99999, (pF (fRB 1 0 2 3)))]) ⟨rfl, rfl, rfl, trivial⟩ ?_
    refine Tr.cond (Opd.tmp rfl) (fun hc => ?_) (fun hc => ?_)
    · replace h := bif_t hc h
      refine Tr.seq ?_
      refine Tr.region ?_
      refine RegL.pure (p := (pEq (.int .i64 (0 : Int)))) rfl rfl rfl (J_assign rfl Opd.con) ?_
      refine RegL.pure (p := (pEq (.bool false))) rfl rfl rfl (J_assign rfl Opd.con) ?_
      refine RegL.nil ?_
      refine Ct.then_tr ?_
      refine Tr.weak (Γ' := [(2, (pEq (.int .i64 (0 : Int)))), (3, (pEq (.bool false))), (99999, (pF (fRB 1 0 2 3)))]) ⟨rfl, rfl, rfl, trivial⟩ ?_
      refine Tr.ret ?_
      refine Ct.then_ret ?_
      replace h := Option.some.inj h; subst h
      exact Ct.retH2 (Ωx := []) () rfl (RvOk.tmp rfl) (RvOk.tmp rfl) rfl rfl
    · replace h := bif_f hc h
      refine Tr.skip ?_
      refine Ct.then_tr ?_
      refine Tr.weak (Γ' := [(4, (pEq (.int .i64 x1.1))), (99999, (pF (fRB 1 0 2 3)))]) ⟨rfl, rfl, trivial⟩ ?_
      refine Tr.seq ?_
      refine Tr.region ?_
      refine RegL.pure (p := (pEq (.int .i64 x1.1))) rfl rfl rfl (J_move rfl (Opd.tmp rfl)) ?_
      refine RegL.pure (p := (pEq (.int .i64 x1.1))) rfl rfl rfl (J_assign rfl (Opd.tmp rfl)) ?_
      refine RegL.pure (p := (pEq (.bool true))) rfl rfl rfl (J_assign rfl Opd.con) ?_
      refine RegL.nil ?_
      refine Ct.then_tr ?_
      refine Tr.weak (Γ' := [(2, (pEq (.int .i64 x1.1))), (3, (pEq (.bool true))), (99999, (pF (fRB 1 0 2 3)))]) ⟨rfl, rfl, rfl, trivial⟩ ?_
      refine Tr.ret ?_
      replace h := Option.some.inj h; subst h
      exact Ct.retH2 (Ωx := []) () rfl (RvOk.tmp rfl) (RvOk.tmp rfl) rfl rfl

theorem c_impl_onlyNameBytes {s_0 : ByteArray} {r : Bool} (h : m_impl_onlyNameBytes s_0 = some r) : CallJ Tryd.prog 114 [(pEq (.string s_0))] (pEq (.bool r)) := by
  unfold m_impl_onlyNameBytes at h
  refine CallJ.enterH Tryd.func114 rfl Tryd.ntmps114 rfl fun W I0 H => ?_
  refine Tr.weak (Γ' := [(0, (pEq (.string s_0)))]) ⟨rfl, trivial⟩ ?_
  refine Tr.seq ?_
  refine Tr.region ?_
  refine RegL.pure (p := (pEq (.bool false))) rfl rfl rfl (J_assign rfl Opd.con) ?_
  refine RegL.nil ?_
  refine Ct.then_tr ?_
  refine Tr.weak (Γ' := [(0, (pEq (.string s_0)))]) ⟨rfl, trivial⟩ ?_
  refine Tr.seq ?_
  refine Tr.seq ?_
  refine Tr.region ?_
  refine RegL.pure (p := (pEq (.string s_0))) rfl rfl rfl (J_move rfl (Opd.tmp rfl)) ?_
  refine RegL.pure (p := (pEq (.int .i64 (s_0.size : Int)))) rfl rfl rfl (J_slen rfl Tryd.underlying9 (Opd.tmp rfl) rfl) ?_
  refine RegL.pure (p := (pEq (.int .i64 (0 : Int)))) rfl rfl rfl (J_move rfl Opd.con) ?_
  refine RegL.nil ?_
  refine Ct.then_tr ?_
  refine Tr.weak (Γ' := [(0, (pEq (.string s_0))), (6, (pEq (.int .i64 (s_0.size : Int)))), (7, (pEq (.int .i64 (0 : Int))))]) ⟨rfl, rfl, rfl, trivial⟩ ?_
  refine Tr.block ?_
  refine Tr.weak (Γ' := [(0, (pEq (.string s_0))), (6, (pEq (.int .i64 (s_0.size : Int)))), (7, (pEq (.int .i64 (0 : Int))))]) ⟨rfl, rfl, rfl, trivial⟩ ?_
  refine Tr.loop (γ := Unit) (σ := Int) (Γσ := fun s g => [(0, (pEq (.string s_0))), (6, (pEq (.int .i64 (s_0.size : Int)))), (7, (pEq (.int .i64 s)))]) (Ωσ := fun s g => []) (g := ()) h ?_
  clear h
  rintro v2 g3 t h
  replace h : m_impl_onlyNameBytes_B1 s_0 v2 = some t := h
  unfold m_impl_onlyNameBytes_B1 at h
  refine Tr.weakO (Γ' := [(0, (pEq (.string s_0))), (6, (pEq (.int .i64 (s_0.size : Int)))), (7, (pEq (.int .i64 v2)))]) (Ω' := []) rfl ⟨rfl, rfl, rfl, trivial⟩ ?_
  refine Tr.seq ?_
  refine Tr.region ?_
  refine RegL.pure (p := (pEq (.bool (decide (v2 < (s_0.size : Int)))))) rfl rfl rfl (J_bin rfl (Opd.tmp rfl) (Opd.tmp rfl) B_lss) ?_
  refine RegL.nil ?_
  refine Ct.then_tr ?_
  refine Tr.weak (Γ' := [(0, (pEq (.string s_0))), (6, (pEq (.int .i64 (s_0.size : Int)))), (7, (pEq (.int .i64 v2))), (8, (pEq (.bool (decide (v2 < (s_0.size : Int))))))]) ⟨rfl, rfl, rfl, rfl, trivial⟩ ?_
  refine Tr.seq ?_
  refine Tr.cond (Opd.tmp rfl) (fun hc => ?_) (fun hc => ?_)
  · replace h := bif_t hc h
    refine Tr.skip ?_
    refine Ct.then_tr ?_
    refine Tr.weak (Γ' := [(0, (pEq (.string s_0))), (6, (pEq (.int .i64 (s_0.size : Int)))), (7, (pEq (.int .i64 v2)))]) ⟨rfl, rfl, rfl, trivial⟩ ?_
    refine Tr.seq ?_
    refine Tr.block ?_
    refine Tr.seq ?_
    refine Tr.region ?_
    refine RegL.pure (p := (pEq (.int .i64 v2))) rfl rfl rfl (J_move rfl (Opd.tmp rfl)) ?_
    refine RegL.pure (p := (pEq (.int .i64 v2))) rfl rfl rfl (J_assign rfl (Opd.tmp rfl)) ?_
    refine RegL.nil ?_
    refine Ct.then_tr ?_
    refine Tr.weak (Γ' := [(0, (pEq (.string s_0))), (3, (pEq (.int .i64 v2))), (6, (pEq (.int .i64 (s_0.size : Int)))), (7, (pEq (.int .i64 v2)))]) ⟨rfl, rfl, rfl, rfl, trivial⟩ ?_
    refine Tr.seq ?_
    refine Tr.region ?_
    refine RegL.pure (p := (pEq (.string s_0))) rfl rfl rfl (J_move rfl (Opd.tmp rfl)) ?_
    refine RegL.pure (p := (pEq (.int .i64 v2))) rfl rfl rfl (J_move rfl (Opd.tmp rfl)) ?_
    replace h := bind_some h; obtain ⟨y4, hy4, h⟩ := h
    refine RegL.pure (p := (pEq (.int .u8 (y4.toNat : Int)))) rfl rfl rfl (J_sidx rfl Tryd.underlying9 (Opd.tmp rfl) (Opd.tmp rfl) hy4) ?_
    refine RegL.pure (p := (pEq (.int .u8 (y4.toNat : Int)))) rfl rfl rfl (J_assign rfl (Opd.tmp rfl)) ?_
    refine RegL.nil ?_
    refine Ct.then_tr ?_
    refine Tr.weak (Γ' := [(0, (pEq (.string s_0))), (4, (pEq (.int .u8 (y4.toNat : Int)))), (6, (pEq (.int .i64 (s_0.size : Int)))), (7, (pEq (.int .i64 v2)))]) ⟨rfl, rfl, rfl, rfl, trivial⟩ ?_
    refine Tr.seq ?_
    replace h := bind_some h; obtain ⟨x5, hx5, h⟩ := h
    refine Tr.cut (γ := Unit) (Γm := fun g => [(0, (pEq (.string s_0))), (6, (pEq (.int .i64 (s_0.size : Int)))), (7, (pEq (.int .i64 v2))), (26, (pEq (.bool x5)))]) (Ωm := fun g => []) ?_ (fun g10 => ?_)
    · clear h
      have h := hx5
      clear hx5
      refine Tr.region ?_
      refine RegL.pure (p := (pEq (.int .u8 (y4.toNat : Int)))) rfl rfl rfl (J_move rfl (Opd.tmp rfl)) ?_
      refine RegL.pure (p := (pEq (.bool (decide ((y4.toNat : Int) < (97 : Int)))))) rfl rfl rfl (J_bin rfl (Opd.tmp rfl) Opd.con B_lss) ?_
      refine RegL.pure (p := (pEq (.bool (decide ((y4.toNat : Int) < (97 : Int)))))) rfl rfl rfl (J_move rfl (Opd.tmp rfl)) ?_
      rcases Bool.eq_false_or_eq_true (decide ((y4.toNat : Int) < (97 : Int))) with hc6 | hc6
      · replace h := bif_t hc6 h
        refine RegL.skipG rfl rfl rfl hc6 rfl rfl ?_
        refine RegL.skipG rfl rfl rfl hc6 rfl rfl ?_
        refine RegL.pure (p := (pEq (.bool true))) rfl rfl rfl (J_pick rfl (Opd.tmp rfl) (fun _ => Opd.con) (fun hf => absurd (hc6.symm.trans hf) (by decide))) ?_
        refine RegL.pure (p := (pEq (.bool true))) rfl rfl rfl (J_move rfl (Opd.tmp rfl)) ?_
        refine RegL.pureG (p := (pEq (.int .u8 (y4.toNat : Int)))) rfl rfl rfl rfl rfl rfl (J_move rfl (Opd.tmp rfl)) ?_
        refine RegL.pureG (p := (pEq (.bool (decide ((y4.toNat : Int) < (48 : Int)))))) rfl rfl rfl rfl rfl rfl (J_bin rfl (Opd.tmp rfl) Opd.con B_lss) ?_
        refine RegL.pureG (p := (pEq (.bool (decide ((y4.toNat : Int) < (48 : Int)))))) rfl rfl rfl rfl rfl rfl (J_move rfl (Opd.tmp rfl)) ?_
        rcases Bool.eq_false_or_eq_true (decide ((y4.toNat : Int) < (48 : Int))) with hc7 | hc7
        · replace h := bif_t hc7 h
          refine RegL.skipG rfl rfl rfl hc7 rfl rfl ?_
          refine RegL.skipG rfl rfl rfl hc7 rfl rfl ?_
          refine RegL.pureG (p := (pEq (.bool true))) rfl rfl rfl rfl rfl rfl (J_pick rfl (Opd.tmp rfl) (fun _ => Opd.con) (fun hf => absurd (hc7.symm.trans hf) (by decide))) ?_
          refine RegL.pure (p := (pEq (.bool true))) rfl rfl rfl (J_pick rfl (Opd.tmp rfl) (fun _ => (Opd.tmp rfl)) (fun hf => absurd hf (by decide))) ?_
          refine RegL.nil ?_
          replace h := Option.some.inj h; subst h
          exact Ct.mid () rfl ⟨rfl, rfl, rfl, rfl, trivial⟩
        · replace h := bif_f hc7 h
          refine RegL.pureG (p := (pEq (.int .u8 (y4.toNat : Int)))) rfl rfl rfl hc7 rfl rfl (J_move rfl (Opd.tmp rfl)) ?_
          refine RegL.pureG (p := (pEq (.bool (decide ((57 : Int) < (y4.toNat : Int)))))) rfl rfl rfl hc7 rfl rfl (J_bin rfl (Opd.tmp rfl) Opd.con B_gtr) ?_
          refine RegL.pureG (p := (pEq (.bool (decide ((57 : Int) < (y4.toNat : Int)))))) rfl rfl rfl rfl rfl rfl (J_pick rfl (Opd.tmp rfl) (fun hf => absurd (hc7.symm.trans hf) (by decide)) (fun _ => (Opd.tmp rfl))) ?_
          refine RegL.pure (p := (pEq (.bool (decide ((57 : Int) < (y4.toNat : Int)))))) rfl rfl rfl (J_pick rfl (Opd.tmp rfl) (fun _ => (Opd.tmp rfl)) (fun hf => absurd hf (by decide))) ?_
          refine RegL.nil ?_
          replace h := Option.some.inj h; subst h
          exact Ct.mid () rfl ⟨rfl, rfl, rfl, rfl, trivial⟩
      · replace h := bif_f hc6 h
        refine RegL.pureG (p := (pEq (.int .u8 (y4.toNat : Int)))) rfl rfl rfl hc6 rfl rfl (J_move rfl (Opd.tmp rfl)) ?_
        refine RegL.pureG (p := (pEq (.bool (decide ((122 : Int) < (y4.toNat : Int)))))) rfl rfl rfl hc6 rfl rfl (J_bin rfl (Opd.tmp rfl) Opd.con B_gtr) ?_
        refine RegL.pure (p := (pEq (.bool (decide ((122 : Int) < (y4.toNat : Int)))))) rfl rfl rfl (J_pick rfl (Opd.tmp rfl) (fun hf => absurd (hc6.symm.trans hf) (by decide)) (fun _ => (Opd.tmp rfl))) ?_
        refine RegL.pure (p := (pEq (.bool (decide ((122 : Int) < (y4.toNat : Int)))))) rfl rfl rfl (J_move rfl (Opd.tmp rfl)) ?_
        rcases Bool.eq_false_or_eq_true (decide ((122 : Int) < (y4.toNat : Int))) with hc8 | hc8
        · replace h := bif_t hc8 h
          refine RegL.pureG (p := (pEq (.int .u8 (y4.toNat : Int)))) rfl rfl rfl hc8 rfl rfl (J_move rfl (Opd.tmp rfl)) ?_
          refine RegL.pureG (p := (pEq (.bool (decide ((y4.toNat : Int) < (48 : Int)))))) rfl rfl rfl hc8 rfl rfl (J_bin rfl (Opd.tmp rfl) Opd.con B_lss) ?_
          refine RegL.pureG (p := (pEq (.bool (decide ((y4.toNat : Int) < (48 : Int)))))) rfl rfl rfl hc8 rfl rfl (J_move rfl (Opd.tmp rfl)) ?_
          rcases Bool.eq_false_or_eq_true (decide ((y4.toNat : Int) < (48 : Int))) with hc9 | hc9
          · replace h := bif_t hc9 h
            refine RegL.skipG rfl rfl rfl hc9 rfl rfl ?_
            refine RegL.skipG rfl rfl rfl hc9 rfl rfl ?_
            refine RegL.pureG (p := (pEq (.bool true))) rfl rfl rfl hc8 rfl rfl (J_pick rfl (Opd.tmp rfl) (fun _ => Opd.con) (fun hf => absurd (hc9.symm.trans hf) (by decide))) ?_
            refine RegL.pure (p := (pEq (.bool true))) rfl rfl rfl (J_pick rfl (Opd.tmp rfl) (fun _ => (Opd.tmp rfl)) (fun hf => absurd (hc8.symm.trans hf) (by decide))) ?_
            refine RegL.nil ?_
            replace h := Option.some.inj h; subst h
            exact Ct.mid () rfl ⟨rfl, rfl, rfl, rfl, trivial⟩
          · replace h := bif_f hc9 h
            refine RegL.pureG (p := (pEq (.int .u8 (y4.toNat : Int)))) rfl rfl rfl hc9 rfl rfl (J_move rfl (Opd.tmp rfl)) ?_
            refine RegL.pureG (p := (pEq (.bool (decide ((57 : Int) < (y4.toNat : Int)))))) rfl rfl rfl hc9 rfl rfl (J_bin rfl (Opd.tmp rfl) Opd.con B_gtr) ?_
            refine RegL.pureG (p := (pEq (.bool (decide ((57 : Int) < (y4.toNat : Int)))))) rfl rfl rfl hc8 rfl rfl (J_pick rfl (Opd.tmp rfl) (fun hf => absurd (hc9.symm.trans hf) (by decide)) (fun _ => (Opd.tmp rfl))) ?_
            refine RegL.pure (p := (pEq (.bool (decide ((57 : Int) < (y4.toNat : Int)))))) rfl rfl rfl (J_pick rfl (Opd.tmp rfl) (fun _ => (Opd.tmp rfl)) (fun hf => absurd (hc8.symm.trans hf) (by decide))) ?_
            refine RegL.nil ?_
            replace h := Option.some.inj h; subst h
            exact Ct.mid () rfl ⟨rfl, rfl, rfl, rfl, trivial⟩
        · replace h := bif_f hc8 h
          refine RegL.skipG rfl rfl rfl hc8 rfl rfl ?_
          refine RegL.skipG rfl rfl rfl hc8 rfl rfl ?_
          refine RegL.skipG rfl rfl rfl hc8 rfl rfl ?_
          refine RegL.skipU rfl rfl rfl rfl rfl ?_
          refine RegL.skipU rfl rfl rfl rfl rfl ?_
          refine RegL.skipG rfl rfl rfl hc8 rfl rfl ?_
          refine RegL.pure (p := (pEq (.bool false))) rfl rfl rfl (J_pick rfl (Opd.tmp rfl) (fun hf => absurd (hc8.symm.trans hf) (by decide)) (fun _ => Opd.con)) ?_
          refine RegL.nil ?_
          replace h := Option.some.inj h; subst h
          exact Ct.mid () rfl ⟨rfl, rfl, rfl, rfl, trivial⟩
    · clear hx5
      refine Ct.then_tr ?_
      refine Tr.weak (Γ' := [(0, (pEq (.string s_0))), (6, (pEq (.int .i64 (s_0.size : Int)))), (7, (pEq (.int .i64 v2))), (26, (pEq (.bool x5)))]) ⟨rfl, rfl, rfl, rfl, trivial⟩ ?_
      refine Tr.cond (Opd.tmp rfl) (fun hc => ?_) (fun hc => ?_)
      · replace h := bif_t hc h
        refine Tr.seq ?_
        refine Tr.region ?_
        refine RegL.pure (p := (pEq (.bool false))) rfl rfl rfl (J_assign rfl Opd.con) ?_
        refine RegL.nil ?_
        refine Ct.then_tr ?_
        refine Tr.weak (Γ' := [(2, (pEq (.bool false)))]) ⟨rfl, trivial⟩ ?_
        refine Tr.ret ?_
        refine Ct.blk_ret ?_
        refine Ct.then_ret ?_
        replace h := map_some h; obtain ⟨r1, h, rfl⟩ := h
        refine Ct.out_ret fun e => ?_
        subst e
        refine Ct.blk_ret ?_
        refine Ct.then_ret ?_
        replace h := Option.some.inj h; subst h
        exact Ct.retH1 (Ωx := []) () rfl (RvOk.tmp rfl) rfl
      · replace h := bif_f hc h
        refine Tr.skip ?_
        refine Ct.blk_normal ?_
        refine Ct.then_tr ?_
        refine Tr.weak (Γ' := [(0, (pEq (.string s_0))), (6, (pEq (.int .i64 (s_0.size : Int)))), (7, (pEq (.int .i64 v2)))]) ⟨rfl, rfl, rfl, trivial⟩ ?_
        refine Tr.region ?_
        refine RegL.pure (p := (pEq (.int .i64 (w64 (v2 + (1 : Int)))))) rfl rfl rfl (J_bin rfl (Opd.tmp rfl) Opd.con B_add) ?_
        refine RegL.pure (p := (pEq (.int .i64 (w64 (v2 + (1 : Int)))))) rfl rfl rfl (J_move rfl (Opd.tmp rfl)) ?_
        refine RegL.nil ?_
        replace h := Option.some.inj h; subst h
        exact Ct.again () rfl ⟨rfl, rfl, rfl, trivial⟩
  · replace h := bif_f hc h
    refine Tr.exit ?_
    refine Ct.then_exit ?_
    replace h := map_some h; obtain ⟨r1, h, rfl⟩ := h
    refine Ct.out_exit fun e => ?_
    subst e
    refine Ct.blk_exit ?_
    refine Ct.then_tr ?_
    refine Tr.weak (Γ' := []) trivial ?_
    refine Tr.seq ?_
    refine Tr.region ?_
    refine RegL.pure (p := (pEq (.bool true))) rfl rfl rfl (J_assign rfl Opd.con) ?_
    refine RegL.nil ?_
    refine Ct.then_tr ?_
    refine Tr.weak (Γ' := [(2, (pEq (.bool true)))]) ⟨rfl, trivial⟩ ?_
    refine Tr.ret ?_
    replace h := Option.some.inj h; subst h
    exact Ct.retH1 (Ωx := []) () rfl (RvOk.tmp rfl) rfl

theorem c_impl_IsName {s_0 : ByteArray} {r : Bool} (h : m_impl_IsName s_0 = some r) : CallJ Tryd.prog 93 [(pEq (.string s_0))] (pEq (.bool r)) := by
  unfold m_impl_IsName at h
  refine CallJ.enterH Tryd.func93 rfl Tryd.ntmps93 rfl fun W I0 H => ?_
  refine Tr.weak (Γ' := [(0, (pEq (.string s_0)))]) ⟨rfl, trivial⟩ ?_
  refine Tr.seq ?_
  refine Tr.region ?_
  refine RegL.pure (p := (pEq (.bool false))) rfl rfl rfl (J_assign rfl Opd.con) ?_
  refine RegL.nil ?_
  refine Ct.then_tr ?_
  refine Tr.weak (Γ' := [(0, (pEq (.string s_0)))]) ⟨rfl, trivial⟩ ?_
  refine Tr.seq ?_
  refine Tr.seq ?_
  replace h := bind_some h; obtain ⟨x1, hx1, h⟩ := h
  refine Tr.cut (γ := Unit) (Γm := fun g => [(0, (pEq (.string s_0))), (20, (pEq (.bool x1)))]) (Ωm := fun g => []) ?_ (fun g7 => ?_)
  · clear h
    have h := hx1
    clear hx1
    refine Tr.region ?_
    refine RegL.pure (p := (pEq (.string s_0))) rfl rfl rfl (J_move rfl (Opd.tmp rfl)) ?_
    refine RegL.pure (p := (pEq (.int .i64 (s_0.size : Int)))) rfl rfl rfl (J_slen rfl Tryd.underlying9 (Opd.tmp rfl) rfl) ?_
    refine RegL.pure (p := (pEq (.bool (decide ((s_0.size : Int) < (1 : Int)))))) rfl rfl rfl (J_bin rfl (Opd.tmp rfl) Opd.con B_lss) ?_
    refine RegL.pure (p := (pEq (.bool (decide ((s_0.size : Int) < (1 : Int)))))) rfl rfl rfl (J_move rfl (Opd.tmp rfl)) ?_
    rcases Bool.eq_false_or_eq_true (decide ((s_0.size : Int) < (1 : Int))) with hc2 | hc2
    · replace h := bif_t hc2 h
      refine RegL.skipG rfl rfl rfl hc2 rfl rfl ?_
      refine RegL.skipG rfl rfl rfl hc2 rfl rfl ?_
      refine RegL.skipG rfl rfl rfl hc2 rfl rfl ?_
      refine RegL.pure (p := (pEq (.bool true))) rfl rfl rfl (J_pick rfl (Opd.tmp rfl) (fun _ => Opd.con) (fun hf => absurd (hc2.symm.trans hf) (by decide))) ?_
      refine RegL.pure (p := (pEq (.bool true))) rfl rfl rfl (J_move rfl (Opd.tmp rfl)) ?_
      refine RegL.skipG rfl rfl rfl rfl rfl rfl ?_
      refine RegL.skipG rfl rfl rfl rfl rfl rfl ?_
      refine RegL.skipG rfl rfl rfl rfl rfl rfl ?_
      refine RegL.pure (p := (pEq (.bool true))) rfl rfl rfl (J_pick rfl (Opd.tmp rfl) (fun _ => Opd.con) (fun hf => absurd hf (by decide))) ?_
      refine RegL.pure (p := (pEq (.bool true))) rfl rfl rfl (J_move rfl (Opd.tmp rfl)) ?_
      refine RegL.skipG rfl rfl rfl rfl rfl rfl ?_
      refine RegL.skipG rfl rfl rfl rfl rfl rfl ?_
      refine RegL.skipG rfl rfl rfl rfl rfl rfl ?_
      refine RegL.pure (p := (pEq (.bool true))) rfl rfl rfl (J_pick rfl (Opd.tmp rfl) (fun _ => Opd.con) (fun hf => absurd hf (by decide))) ?_
      refine RegL.nil ?_
      replace h := Option.some.inj h; subst h
      exact Ct.mid () rfl ⟨rfl, rfl, trivial⟩
    · replace h := bif_f hc2 h
      refine RegL.pureG (p := (pEq (.string s_0))) rfl rfl rfl hc2 rfl rfl (J_move rfl (Opd.tmp rfl)) ?_
      refine RegL.pureG (p := (pEq (.int .i64 (s_0.size : Int)))) rfl rfl rfl hc2 rfl rfl (J_slen rfl Tryd.underlying9 (Opd.tmp rfl) rfl) ?_
      refine RegL.pureG (p := (pEq (.bool (decide ((10 : Int) < (s_0.size : Int)))))) rfl rfl rfl hc2 rfl rfl (J_bin rfl (Opd.tmp rfl) Opd.con B_gtr) ?_
      refine RegL.pure (p := (pEq (.bool (decide ((10 : Int) < (s_0.size : Int)))))) rfl rfl rfl (J_pick rfl (Opd.tmp rfl) (fun hf => absurd (hc2.symm.trans hf) (by decide)) (fun _ => (Opd.tmp rfl))) ?_
      refine RegL.pure (p := (pEq (.bool (decide ((10 : Int) < (s_0.size : Int)))))) rfl rfl rfl (J_move rfl (Opd.tmp rfl)) ?_
      rcases Bool.eq_false_or_eq_true (decide ((10 : Int) < (s_0.size : Int))) with hc3 | hc3
      · replace h := bif_t hc3 h
        refine RegL.skipG rfl rfl rfl hc3 rfl rfl ?_
        refine RegL.skipG rfl rfl rfl hc3 rfl rfl ?_
        refine RegL.skipG rfl rfl rfl hc3 rfl rfl ?_
        refine RegL.pure (p := (pEq (.bool true))) rfl rfl rfl (J_pick rfl (Opd.tmp rfl) (fun _ => Opd.con) (fun hf => absurd (hc3.symm.trans hf) (by decide))) ?_
        refine RegL.pure (p := (pEq (.bool true))) rfl rfl rfl (J_move rfl (Opd.tmp rfl)) ?_
        refine RegL.skipG rfl rfl rfl rfl rfl rfl ?_
        refine RegL.skipG rfl rfl rfl rfl rfl rfl ?_
        refine RegL.skipG rfl rfl rfl rfl rfl rfl ?_
        refine RegL.pure (p := (pEq (.bool true))) rfl rfl rfl (J_pick rfl (Opd.tmp rfl) (fun _ => Opd.con) (fun hf => absurd hf (by decide))) ?_
        refine RegL.nil ?_
        replace h := Option.some.inj h; subst h
        exact Ct.mid () rfl ⟨rfl, rfl, trivial⟩
      · replace h := bif_f hc3 h
        refine RegL.pureG (p := (pEq (.string s_0))) rfl rfl rfl hc3 rfl rfl (J_move rfl (Opd.tmp rfl)) ?_
        replace h := bind_some h; obtain ⟨y4, hy4, h⟩ := h
        refine RegL.pureG (p := (pEq (.int .u8 (y4.toNat : Int)))) rfl rfl rfl hc3 rfl rfl (J_sidx rfl Tryd.underlying9 (Opd.tmp rfl) Opd.con hy4) ?_
        refine RegL.pureG (p := (pEq (.bool (decide ((y4.toNat : Int) < (97 : Int)))))) rfl rfl rfl hc3 rfl rfl (J_bin rfl (Opd.tmp rfl) Opd.con B_lss) ?_
        refine RegL.pure (p := (pEq (.bool (decide ((y4.toNat : Int) < (97 : Int)))))) rfl rfl rfl (J_pick rfl (Opd.tmp rfl) (fun hf => absurd (hc3.symm.trans hf) (by decide)) (fun _ => (Opd.tmp rfl))) ?_
        refine RegL.pure (p := (pEq (.bool (decide ((y4.toNat : Int) < (97 : Int)))))) rfl rfl rfl (J_move rfl (Opd.tmp rfl)) ?_
        rcases Bool.eq_false_or_eq_true (decide ((y4.toNat : Int) < (97 : Int))) with hc5 | hc5
        · replace h := bif_t hc5 h
          refine RegL.skipG rfl rfl rfl hc5 rfl rfl ?_
          refine RegL.skipG rfl rfl rfl hc5 rfl rfl ?_
          refine RegL.skipG rfl rfl rfl hc5 rfl rfl ?_
          refine RegL.pure (p := (pEq (.bool true))) rfl rfl rfl (J_pick rfl (Opd.tmp rfl) (fun _ => Opd.con) (fun hf => absurd (hc5.symm.trans hf) (by decide))) ?_
          refine RegL.nil ?_
          replace h := Option.some.inj h; subst h
          exact Ct.mid () rfl ⟨rfl, rfl, trivial⟩
        · replace h := bif_f hc5 h
          refine RegL.pureG (p := (pEq (.string s_0))) rfl rfl rfl hc5 rfl rfl (J_move rfl (Opd.tmp rfl)) ?_
          replace h := bind_some h; obtain ⟨y6, hy6, h⟩ := h
          refine RegL.pureG (p := (pEq (.int .u8 (y6.toNat : Int)))) rfl rfl rfl hc5 rfl rfl (J_sidx rfl Tryd.underlying9 (Opd.tmp rfl) Opd.con hy6) ?_
          refine RegL.pureG (p := (pEq (.bool (decide ((122 : Int) < (y6.toNat : Int)))))) rfl rfl rfl hc5 rfl rfl (J_bin rfl (Opd.tmp rfl) Opd.con B_gtr) ?_
          refine RegL.pure (p := (pEq (.bool (decide ((122 : Int) < (y6.toNat : Int)))))) rfl rfl rfl (J_pick rfl (Opd.tmp rfl) (fun hf => absurd (hc5.symm.trans hf) (by decide)) (fun _ => (Opd.tmp rfl))) ?_
          refine RegL.nil ?_
          replace h := Option.some.inj h; subst h
          exact Ct.mid () rfl ⟨rfl, rfl, trivial⟩
  · clear hx1
    refine Ct.then_tr ?_
    refine Tr.weak (Γ' := [(0, (pEq (.string s_0))), (20, (pEq (.bool x1)))]) ⟨rfl, rfl, trivial⟩ ?_
    refine Tr.cond (Opd.tmp rfl) (fun hc => ?_) (fun hc => ?_)
    · replace h := bif_t hc h
      refine Tr.seq ?_
      refine Tr.region ?_
      refine RegL.pure (p := (pEq (.bool false))) rfl rfl rfl (J_assign rfl Opd.con) ?_
      refine RegL.nil ?_
      refine Ct.then_tr ?_
      refine Tr.weak (Γ' := [(2, (pEq (.bool false)))]) ⟨rfl, trivial⟩ ?_
      refine Tr.ret ?_
      refine Ct.then_ret ?_
      replace h := Option.some.inj h; subst h
      exact Ct.retH1 (Ωx := []) () rfl (RvOk.tmp rfl) rfl
    · replace h := bif_f hc h
      refine Tr.skip ?_
      refine Ct.then_tr ?_
      refine Tr.weak (Γ' := [(0, (pEq (.string s_0)))]) ⟨rfl, trivial⟩ ?_
      refine Tr.seq ?_
      refine Tr.region ?_
      refine RegL.pure (p := (pEq (.string s_0))) rfl rfl rfl (J_move rfl (Opd.tmp rfl)) ?_
      replace h := bind_some h; obtain ⟨x8, hx8, h⟩ := h
      refine RegL.pure (p := (pEq (.bool x8))) rfl rfl rfl (J_call rfl Tryd.call114 (c_impl_onlyNameBytes hx8) (Opds.cons (Opd.tmp rfl) Opds.nil)) ?_
      refine RegL.pure (p := (pEq (.bool x8))) rfl rfl rfl (J_assign rfl (Opd.tmp rfl)) ?_
      refine RegL.nil ?_
      refine Ct.then_tr ?_
      refine Tr.weak (Γ' := [(2, (pEq (.bool x8)))]) ⟨rfl, trivial⟩ ?_
      refine Tr.ret ?_
      replace h := Option.some.inj h; subst h
      exact Ct.retH1 (Ωx := []) () rfl (RvOk.tmp rfl) rfl

theorem c_impl_within {n_0 : Int} {low_1 : Int} {high_2 : Int} {r : Bool} (h : m_impl_within n_0 low_1 high_2 = some r) : CallJ Tryd.prog 57 [(pEq (.int .i64 n_0)), (pEq (.int .i64 low_1)), (pEq (.int .i64 high_2))] (pEq (.bool r)) := by
  unfold m_impl_within at h
  refine CallJ.enterH Tryd.func57 rfl Tryd.ntmps57 rfl fun W I0 H => ?_
  refine Tr.weak (Γ' := [(0, (pEq (.int .i64 n_0))), (1, (pEq (.int .i64 low_1))), (2, (pEq (.int .i64 high_2)))]) ⟨rfl, rfl, rfl, trivial⟩ ?_
  refine Tr.seq ?_
  refine Tr.region ?_
  refine RegL.pure (p := (pEq (.bool false))) rfl rfl rfl (J_assign rfl Opd.con) ?_
  refine RegL.nil ?_
  refine Ct.then_tr ?_
  refine Tr.weak (Γ' := [(0, (pEq (.int .i64 n_0))), (1, (pEq (.int .i64 low_1))), (2, (pEq (.int .i64 high_2)))]) ⟨rfl, rfl, rfl, trivial⟩ ?_
  refine Tr.seq ?_
  replace h := bind_some h; obtain ⟨x1, hx1, h⟩ := h
  refine Tr.cut (γ := Unit) (Γm := fun g => [(6, (pEq (.bool x1)))]) (Ωm := fun g => []) ?_ (fun g3 => ?_)
  · clear h
    have h := hx1
    clear hx1
    refine Tr.region ?_
    refine RegL.pure (p := (pEq (.int .i64 n_0))) rfl rfl rfl (J_move rfl (Opd.tmp rfl)) ?_
    refine RegL.pure (p := (pEq (.int .i64 low_1))) rfl rfl rfl (J_move rfl (Opd.tmp rfl)) ?_
    refine RegL.pure (p := (pEq (.bool (decide (low_1 ≤ n_0))))) rfl rfl rfl (J_bin rfl (Opd.tmp rfl) (Opd.tmp rfl) B_geq) ?_
    refine RegL.pure (p := (pEq (.bool (decide (low_1 ≤ n_0))))) rfl rfl rfl (J_move rfl (Opd.tmp rfl)) ?_
    rcases Bool.eq_false_or_eq_true (decide (low_1 ≤ n_0)) with hc2 | hc2
    · replace h := bif_t hc2 h
      refine RegL.pureG (p := (pEq (.int .i64 n_0))) rfl rfl rfl hc2 rfl rfl (J_move rfl (Opd.tmp rfl)) ?_
      refine RegL.pureG (p := (pEq (.int .i64 high_2))) rfl rfl rfl hc2 rfl rfl (J_move rfl (Opd.tmp rfl)) ?_
      refine RegL.pureG (p := (pEq (.bool (decide (n_0 ≤ high_2))))) rfl rfl rfl hc2 rfl rfl (J_bin rfl (Opd.tmp rfl) (Opd.tmp rfl) B_leq) ?_
      refine RegL.pure (p := (pEq (.bool (decide (n_0 ≤ high_2))))) rfl rfl rfl (J_pick rfl (Opd.tmp rfl) (fun _ => (Opd.tmp rfl)) (fun hf => absurd (hc2.symm.trans hf) (by decide))) ?_
      refine RegL.pure (p := (pEq (.bool (decide (n_0 ≤ high_2))))) rfl rfl rfl (J_assign rfl (Opd.tmp rfl)) ?_
      refine RegL.nil ?_
      replace h := Option.some.inj h; subst h
      exact Ct.mid () rfl ⟨rfl, trivial⟩
    · replace h := bif_f hc2 h
      refine RegL.skipG rfl rfl rfl hc2 rfl rfl ?_
      refine RegL.skipG rfl rfl rfl hc2 rfl rfl ?_
      refine RegL.skipG rfl rfl rfl hc2 rfl rfl ?_
      refine RegL.pure (p := (pEq (.bool false))) rfl rfl rfl (J_pick rfl (Opd.tmp rfl) (fun hf => absurd (hc2.symm.trans hf) (by decide)) (fun _ => Opd.con)) ?_
      refine RegL.pure (p := (pEq (.bool false))) rfl rfl rfl (J_assign rfl (Opd.tmp rfl)) ?_
      refine RegL.nil ?_
      replace h := Option.some.inj h; subst h
      exact Ct.mid () rfl ⟨rfl, trivial⟩
  · clear hx1
    refine Ct.then_tr ?_
    refine Tr.weak (Γ' := [(6, (pEq (.bool x1)))]) ⟨rfl, trivial⟩ ?_
    refine Tr.ret ?_
    replace h := Option.some.inj h; subst h
    exact Ct.retH1 (Ωx := []) () rfl (RvOk.tmp rfl) rfl

theorem c_impl_Band_count {b_0 : GBand} {r : Int} (h : m_impl_Band_count b_0 = some r) : CallJ Tryd.prog 94 [(pAgg (cGBand b_0))] (pEq (.int .i64 r)) := by
  unfold m_impl_Band_count at h
  refine CallJ.enterH Tryd.func94 rfl Tryd.ntmps94 rfl fun W I0 H => ?_
  refine Tr.weak (Γ' := [(0, (pAgg (cGBand b_0)))]) ⟨rfl, trivial⟩ ?_
  refine Tr.seq ?_
  refine Tr.region ?_
  refine RegL.pure (p := (pPtr (cGBand b_0))) rfl rfl rfl (J_boxA rfl (Opd.tmp rfl)) ?_
  refine RegL.pure (p := (pEq (.int .i64 (0 : Int)))) rfl rfl rfl (J_assign rfl Opd.con) ?_
  refine RegL.nil ?_
  refine Ct.then_tr ?_
  refine Tr.weak (Γ' := [(1, (pPtr (cGBand b_0)))]) ⟨rfl, trivial⟩ ?_
  refine Tr.seq ?_
  refine Tr.region ?_
  refine RegL.pure (p := (pPtr ((cK .i64) b_0.High))) rfl rfl rfl (J_fieldAddr rfl Tryd.underlying52 rfl sz2 (by decide) (Opd.tmp rfl) rfl) ?_
  refine RegL.pure (p := (pEq (.int .i64 b_0.High))) rfl rfl rfl (J_load rfl Tryd.isAgg2 (Opd.tmp rfl)) ?_
  refine RegL.pure (p := (pPtr ((cK .i64) b_0.Low))) rfl rfl rfl (J_fieldAddr rfl Tryd.underlying52 rfl sz2 (by decide) (Opd.tmp rfl) rfl) ?_
  refine RegL.pure (p := (pEq (.int .i64 b_0.Low))) rfl rfl rfl (J_load rfl Tryd.isAgg2 (Opd.tmp rfl)) ?_
  refine RegL.pure (p := (pEq (.int .i64 (w64 (b_0.High - b_0.Low))))) rfl rfl rfl (J_bin rfl (Opd.tmp rfl) (Opd.tmp rfl) B_sub) ?_
  refine RegL.pure (p := (pPtr ((cK .i64) b_0.Raster))) rfl rfl rfl (J_fieldAddr rfl Tryd.underlying52 rfl sz2 (by decide) (Opd.tmp rfl) rfl) ?_
  refine RegL.pure (p := (pEq (.int .i64 b_0.Raster))) rfl rfl rfl (J_load rfl Tryd.isAgg2 (Opd.tmp rfl)) ?_
  replace h := bind_some h; obtain ⟨x1, hx1, h⟩ := h
  refine RegL.pure (p := (pEq (.int .i64 x1))) rfl rfl rfl (J_bin rfl (Opd.tmp rfl) (Opd.tmp rfl) (B_qdiv hx1)) ?_
  refine RegL.pure (p := (pEq (.int .i64 x1))) rfl rfl rfl (J_assign rfl (Opd.tmp rfl)) ?_
  refine RegL.nil ?_
  refine Ct.then_tr ?_
  refine Tr.weak (Γ' := [(2, (pEq (.int .i64 x1)))]) ⟨rfl, trivial⟩ ?_
  refine Tr.ret ?_
  replace h := Option.some.inj h; subst h
  exact Ct.retH1 (Ωx := []) () rfl (RvOk.tmp rfl) rfl

theorem c_impl_ValidBand {b_0 : GBand} {r : Bool} (h : m_impl_ValidBand b_0 = some r) : CallJ Tryd.prog 60 [(pAgg (cGBand b_0))] (pEq (.bool r)) := by
  unfold m_impl_ValidBand at h
  refine CallJ.enterH Tryd.func60 rfl Tryd.ntmps60 rfl fun W I0 H => ?_
  refine Tr.weak (Γ' := [(0, (pAgg (cGBand b_0)))]) ⟨rfl, trivial⟩ ?_
  refine Tr.seq ?_
  refine Tr.region ?_
  refine RegL.pure (p := (pPtr (cGBand b_0))) rfl rfl rfl (J_boxA rfl (Opd.tmp rfl)) ?_
  refine RegL.pure (p := (pEq (.bool false))) rfl rfl rfl (J_assign rfl Opd.con) ?_
  refine RegL.nil ?_
  refine Ct.then_tr ?_
  refine Tr.weak (Γ' := [(1, (pPtr (cGBand b_0)))]) ⟨rfl, trivial⟩ ?_
  refine Tr.seq ?_
  refine Tr.seq ?_
  replace h := bind_some h; obtain ⟨x1, hx1, h⟩ := h
  refine Tr.cut (γ := Unit) (Γm := fun g => [(1, (pPtr (cGBand b_0))), (32, (pEq (.bool x1)))]) (Ωm := fun g => []) ?_ (fun g12 => ?_)
  · clear h
    have h := hx1
    clear hx1
    refine Tr.region ?_
    refine RegL.pure (p := (pPtr (cS b_0.Name))) rfl rfl rfl (J_fieldAddr rfl Tryd.underlying52 rfl sz9 (by decide) (Opd.tmp rfl) rfl) ?_
    refine RegL.pure (p := (pEq (.string b_0.Name))) rfl rfl rfl (J_load rfl Tryd.isAgg9 (Opd.tmp rfl)) ?_
    replace h := bind_some h; obtain ⟨x2, hx2, h⟩ := h
    refine RegL.pure (p := (pEq (.bool x2))) rfl rfl rfl (J_call rfl Tryd.call93 (c_impl_IsName hx2) (Opds.cons (Opd.tmp rfl) Opds.nil)) ?_
    refine RegL.pure (p := (pEq (.bool (!x2)))) rfl rfl rfl (J_not rfl (Opd.tmp rfl)) ?_
    refine RegL.pure (p := (pEq (.bool (!x2)))) rfl rfl rfl (J_move rfl (Opd.tmp rfl)) ?_
    rcases Bool.eq_false_or_eq_true (!x2) with hc3 | hc3
    · replace h := bif_t hc3 h
      refine RegL.skipG rfl rfl rfl hc3 rfl rfl ?_
      refine RegL.skipG rfl rfl rfl hc3 rfl rfl ?_
      refine RegL.skipG rfl rfl rfl hc3 rfl rfl ?_
      refine RegL.skipG rfl rfl rfl hc3 rfl rfl ?_
      refine RegL.pure (p := (pEq (.bool true))) rfl rfl rfl (J_pick rfl (Opd.tmp rfl) (fun _ => Opd.con) (fun hf => absurd (hc3.symm.trans hf) (by decide))) ?_
      refine RegL.pure (p := (pEq (.bool true))) rfl rfl rfl (J_move rfl (Opd.tmp rfl)) ?_
      refine RegL.skipG rfl rfl rfl rfl rfl rfl ?_
      refine RegL.skipG rfl rfl rfl rfl rfl rfl ?_
      refine RegL.skipG rfl rfl rfl rfl rfl rfl ?_
      refine RegL.skipG rfl rfl rfl rfl rfl rfl ?_
      refine RegL.skipG rfl rfl rfl rfl rfl rfl ?_
      refine RegL.skipG rfl rfl rfl rfl rfl rfl ?_
      refine RegL.pure (p := (pEq (.bool true))) rfl rfl rfl (J_pick rfl (Opd.tmp rfl) (fun _ => Opd.con) (fun hf => absurd hf (by decide))) ?_
      refine RegL.pure (p := (pEq (.bool true))) rfl rfl rfl (J_move rfl (Opd.tmp rfl)) ?_
      refine RegL.skipG rfl rfl rfl rfl rfl rfl ?_
      refine RegL.skipG rfl rfl rfl rfl rfl rfl ?_
      refine RegL.skipG rfl rfl rfl rfl rfl rfl ?_
      refine RegL.skipG rfl rfl rfl rfl rfl rfl ?_
      refine RegL.pure (p := (pEq (.bool true))) rfl rfl rfl (J_pick rfl (Opd.tmp rfl) (fun _ => Opd.con) (fun hf => absurd hf (by decide))) ?_
      refine RegL.pure (p := (pEq (.bool true))) rfl rfl rfl (J_move rfl (Opd.tmp rfl)) ?_
      refine RegL.skipG rfl rfl rfl rfl rfl rfl ?_
      refine RegL.skipG rfl rfl rfl rfl rfl rfl ?_
      refine RegL.skipG rfl rfl rfl rfl rfl rfl ?_
      refine RegL.skipG rfl rfl rfl rfl rfl rfl ?_
      refine RegL.pure (p := (pEq (.bool true))) rfl rfl rfl (J_pick rfl (Opd.tmp rfl) (fun _ => Opd.con) (fun hf => absurd hf (by decide))) ?_
      refine RegL.nil ?_
      replace h := Option.some.inj h; subst h
      exact Ct.mid () rfl ⟨rfl, rfl, trivial⟩
    · replace h := bif_f hc3 h
      refine RegL.pureG (p := (pPtr ((cK .i64) b_0.Low))) rfl rfl rfl hc3 rfl rfl (J_fieldAddr rfl Tryd.underlying52 rfl sz2 (by decide) (Opd.tmp rfl) rfl) ?_
      refine RegL.pureG (p := (pEq (.int .i64 b_0.Low))) rfl rfl rfl hc3 rfl rfl (J_load rfl Tryd.isAgg2 (Opd.tmp rfl)) ?_
      replace h := bind_some h; obtain ⟨x4, hx4, h⟩ := h
      refine RegL.pureG (p := (pEq (.bool x4))) rfl rfl rfl hc3 rfl rfl (J_call rfl Tryd.call57 (c_impl_within hx4) (Opds.cons (Opd.tmp rfl) (Opds.cons Opd.con (Opds.cons Opd.con Opds.nil)))) ?_
      refine RegL.pureG (p := (pEq (.bool (!x4)))) rfl rfl rfl hc3 rfl rfl (J_not rfl (Opd.tmp rfl)) ?_
      refine RegL.pure (p := (pEq (.bool (!x4)))) rfl rfl rfl (J_pick rfl (Opd.tmp rfl) (fun hf => absurd (hc3.symm.trans hf) (by decide)) (fun _ => (Opd.tmp rfl))) ?_
      refine RegL.pure (p := (pEq (.bool (!x4)))) rfl rfl rfl (J_move rfl (Opd.tmp rfl)) ?_
      rcases Bool.eq_false_or_eq_true (!x4) with hc5 | hc5
      · replace h := bif_t hc5 h
        refine RegL.skipG rfl rfl rfl hc5 rfl rfl ?_
        refine RegL.skipG rfl rfl rfl hc5 rfl rfl ?_
        refine RegL.skipG rfl rfl rfl hc5 rfl rfl ?_
        refine RegL.skipG rfl rfl rfl hc5 rfl rfl ?_
        refine RegL.skipG rfl rfl rfl hc5 rfl rfl ?_
        refine RegL.skipG rfl rfl rfl hc5 rfl rfl ?_
        refine RegL.pure (p := (pEq (.bool true))) rfl rfl rfl (J_pick rfl (Opd.tmp rfl) (fun _ => Opd.con) (fun hf => absurd (hc5.symm.trans hf) (by decide))) ?_
        refine RegL.pure (p := (pEq (.bool true))) rfl rfl rfl (J_move rfl (Opd.tmp rfl)) ?_
        refine RegL.skipG rfl rfl rfl rfl rfl rfl ?_
        refine RegL.skipG rfl rfl rfl rfl rfl rfl ?_
        refine RegL.skipG rfl rfl rfl rfl rfl rfl ?_
        refine RegL.skipG rfl rfl rfl rfl rfl rfl ?_
        refine RegL.pure (p := (pEq (.bool true))) rfl rfl rfl (J_pick rfl (Opd.tmp rfl) (fun _ => Opd.con) (fun hf => absurd hf (by decide))) ?_
        refine RegL.pure (p := (pEq (.bool true))) rfl rfl rfl (J_move rfl (Opd.tmp rfl)) ?_
        refine RegL.skipG rfl rfl rfl rfl rfl rfl ?_
        refine RegL.skipG rfl rfl rfl rfl rfl rfl ?_
        refine RegL.skipG rfl rfl rfl rfl rfl rfl ?_
        refine RegL.skipG rfl rfl rfl rfl rfl rfl ?_
        refine RegL.pure (p := (pEq (.bool true))) rfl rfl rfl (J_pick rfl (Opd.tmp rfl) (fun _ => Opd.con) (fun hf => absurd hf (by decide))) ?_
        refine RegL.nil ?_
        replace h := Option.some.inj h; subst h
        exact Ct.mid () rfl ⟨rfl, rfl, trivial⟩
      · replace h := bif_f hc5 h
        refine RegL.pureG (p := (pPtr ((cK .i64) b_0.High))) rfl rfl rfl hc5 rfl rfl (J_fieldAddr rfl Tryd.underlying52 rfl sz2 (by decide) (Opd.tmp rfl) rfl) ?_
        refine RegL.pureG (p := (pEq (.int .i64 b_0.High))) rfl rfl rfl hc5 rfl rfl (J_load rfl Tryd.isAgg2 (Opd.tmp rfl)) ?_
        refine RegL.pureG (p := (pPtr ((cK .i64) b_0.Low))) rfl rfl rfl hc5 rfl rfl (J_fieldAddr rfl Tryd.underlying52 rfl sz2 (by decide) (Opd.tmp rfl) rfl) ?_
        refine RegL.pureG (p := (pEq (.int .i64 b_0.Low))) rfl rfl rfl hc5 rfl rfl (J_load rfl Tryd.isAgg2 (Opd.tmp rfl)) ?_
        replace h := bind_some h; obtain ⟨x6, hx6, h⟩ := h
        refine RegL.pureG (p := (pEq (.bool x6))) rfl rfl rfl hc5 rfl rfl (J_call rfl Tryd.call57 (c_impl_within hx6) (Opds.cons (Opd.tmp rfl) (Opds.cons (Opd.tmp rfl) (Opds.cons Opd.con Opds.nil)))) ?_
        refine RegL.pureG (p := (pEq (.bool (!x6)))) rfl rfl rfl hc5 rfl rfl (J_not rfl (Opd.tmp rfl)) ?_
        refine RegL.pure (p := (pEq (.bool (!x6)))) rfl rfl rfl (J_pick rfl (Opd.tmp rfl) (fun hf => absurd (hc5.symm.trans hf) (by decide)) (fun _ => (Opd.tmp rfl))) ?_
        refine RegL.pure (p := (pEq (.bool (!x6)))) rfl rfl rfl (J_move rfl (Opd.tmp rfl)) ?_
        rcases Bool.eq_false_or_eq_true (!x6) with hc7 | hc7
        · replace h := bif_t hc7 h
          refine RegL.skipG rfl rfl rfl hc7 rfl rfl ?_
          refine RegL.skipG rfl rfl rfl hc7 rfl rfl ?_
          refine RegL.skipG rfl rfl rfl hc7 rfl rfl ?_
          refine RegL.skipG rfl rfl rfl hc7 rfl rfl ?_
          refine RegL.pure (p := (pEq (.bool true))) rfl rfl rfl (J_pick rfl (Opd.tmp rfl) (fun _ => Opd.con) (fun hf => absurd (hc7.symm.trans hf) (by decide))) ?_
          refine RegL.pure (p := (pEq (.bool true))) rfl rfl rfl (J_move rfl (Opd.tmp rfl)) ?_
          refine RegL.skipG rfl rfl rfl rfl rfl rfl ?_
          refine RegL.skipG rfl rfl rfl rfl rfl rfl ?_
          refine RegL.skipG rfl rfl rfl rfl rfl rfl ?_
          refine RegL.skipG rfl rfl rfl rfl rfl rfl ?_
          refine RegL.pure (p := (pEq (.bool true))) rfl rfl rfl (J_pick rfl (Opd.tmp rfl) (fun _ => Opd.con) (fun hf => absurd hf (by decide))) ?_
          refine RegL.nil ?_
          replace h := Option.some.inj h; subst h
          exact Ct.mid () rfl ⟨rfl, rfl, trivial⟩
        · replace h := bif_f hc7 h
          refine RegL.pureG (p := (pPtr ((cK .i64) b_0.Raster))) rfl rfl rfl hc7 rfl rfl (J_fieldAddr rfl Tryd.underlying52 rfl sz2 (by decide) (Opd.tmp rfl) rfl) ?_
          refine RegL.pureG (p := (pEq (.int .i64 b_0.Raster))) rfl rfl rfl hc7 rfl rfl (J_load rfl Tryd.isAgg2 (Opd.tmp rfl)) ?_
          replace h := bind_some h; obtain ⟨x8, hx8, h⟩ := h
          refine RegL.pureG (p := (pEq (.bool x8))) rfl rfl rfl hc7 rfl rfl (J_call rfl Tryd.call57 (c_impl_within hx8) (Opds.cons (Opd.tmp rfl) (Opds.cons Opd.con (Opds.cons Opd.con Opds.nil)))) ?_
          refine RegL.pureG (p := (pEq (.bool (!x8)))) rfl rfl rfl hc7 rfl rfl (J_not rfl (Opd.tmp rfl)) ?_
          refine RegL.pure (p := (pEq (.bool (!x8)))) rfl rfl rfl (J_pick rfl (Opd.tmp rfl) (fun hf => absurd (hc7.symm.trans hf) (by decide)) (fun _ => (Opd.tmp rfl))) ?_
          refine RegL.pure (p := (pEq (.bool (!x8)))) rfl rfl rfl (J_move rfl (Opd.tmp rfl)) ?_
          rcases Bool.eq_false_or_eq_true (!x8) with hc9 | hc9
          · replace h := bif_t hc9 h
            refine RegL.skipG rfl rfl rfl hc9 rfl rfl ?_
            refine RegL.skipG rfl rfl rfl hc9 rfl rfl ?_
            refine RegL.skipG rfl rfl rfl hc9 rfl rfl ?_
            refine RegL.skipG rfl rfl rfl hc9 rfl rfl ?_
            refine RegL.pure (p := (pEq (.bool true))) rfl rfl rfl (J_pick rfl (Opd.tmp rfl) (fun _ => Opd.con) (fun hf => absurd (hc9.symm.trans hf) (by decide))) ?_
            refine RegL.nil ?_
            replace h := Option.some.inj h; subst h
            exact Ct.mid () rfl ⟨rfl, rfl, trivial⟩
          · replace h := bif_f hc9 h
            refine RegL.pureG (p := (pAgg (cGBand b_0))) rfl rfl rfl hc9 rfl rfl (J_loadA rfl Tryd.isAgg52 sz52 (Opd.tmp rfl) rfl) ?_
            replace h := bind_some h; obtain ⟨x10, hx10, h⟩ := h
            refine RegL.pureG (p := (pEq (.int .i64 x10))) rfl rfl rfl hc9 rfl rfl (J_call rfl Tryd.call94 (c_impl_Band_count hx10) (Opds.cons (Opd.tmp rfl) Opds.nil)) ?_
            replace h := bind_some h; obtain ⟨x11, hx11, h⟩ := h
            refine RegL.pureG (p := (pEq (.bool x11))) rfl rfl rfl hc9 rfl rfl (J_call rfl Tryd.call57 (c_impl_within hx11) (Opds.cons (Opd.tmp rfl) (Opds.cons Opd.con (Opds.cons Opd.con Opds.nil)))) ?_
            refine RegL.pureG (p := (pEq (.bool (!x11)))) rfl rfl rfl hc9 rfl rfl (J_not rfl (Opd.tmp rfl)) ?_
            refine RegL.pure (p := (pEq (.bool (!x11)))) rfl rfl rfl (J_pick rfl (Opd.tmp rfl) (fun hf => absurd (hc9.symm.trans hf) (by decide)) (fun _ => (Opd.tmp rfl))) ?_
            refine RegL.nil ?_
            replace h := Option.some.inj h; subst h
            exact Ct.mid () rfl ⟨rfl, rfl, trivial⟩
  · clear hx1
    refine Ct.then_tr ?_
    refine Tr.weak (Γ' := [(1, (pPtr (cGBand b_0))), (32, (pEq (.bool x1)))]) ⟨rfl, rfl, trivial⟩ ?_
    refine Tr.cond (Opd.tmp rfl) (fun hc => ?_) (fun hc => ?_)
    · replace h := bif_t hc h
      refine Tr.seq ?_
      refine Tr.region ?_
      refine RegL.pure (p := (pEq (.bool false))) rfl rfl rfl (J_assign rfl Opd.con) ?_
      refine RegL.nil ?_
      refine Ct.then_tr ?_
      refine Tr.weak (Γ' := [(2, (pEq (.bool false)))]) ⟨rfl, trivial⟩ ?_
      refine Tr.ret ?_
      refine Ct.then_ret ?_
      replace h := Option.some.inj h; subst h
      exact Ct.retH1 (Ωx := []) () rfl (RvOk.tmp rfl) rfl
    · replace h := bif_f hc h
      refine Tr.skip ?_
      refine Ct.then_tr ?_
      refine Tr.weak (Γ' := [(1, (pPtr (cGBand b_0)))]) ⟨rfl, trivial⟩ ?_
      refine Tr.seq ?_
      replace h := bind_some h; obtain ⟨x13, hx13, h⟩ := h
      refine Tr.cut (γ := Unit) (Γm := fun g => [(2, (pEq (.bool x13)))]) (Ωm := fun g => []) ?_ (fun g16 => ?_)
      · clear h
        have h := hx13
        clear hx13
        refine Tr.region ?_
        refine RegL.pure (p := (pPtr ((cK .i64) b_0.Duplex))) rfl rfl rfl (J_fieldAddr rfl Tryd.underlying52 rfl sz2 (by decide) (Opd.tmp rfl) rfl) ?_
        refine RegL.pure (p := (pEq (.int .i64 b_0.Duplex))) rfl rfl rfl (J_load rfl Tryd.isAgg2 (Opd.tmp rfl)) ?_
        refine RegL.pure (p := (pEq (.bool (b_0.Duplex == (0 : Int))))) rfl rfl rfl (J_bin rfl (Opd.tmp rfl) Opd.con B_eql) ?_
        refine RegL.pure (p := (pEq (.bool (b_0.Duplex == (0 : Int))))) rfl rfl rfl (J_move rfl (Opd.tmp rfl)) ?_
        rcases Bool.eq_false_or_eq_true (b_0.Duplex == (0 : Int)) with hc14 | hc14
        · replace h := bif_t hc14 h
          refine RegL.skipG rfl rfl rfl hc14 rfl rfl ?_
          refine RegL.skipG rfl rfl rfl hc14 rfl rfl ?_
          refine RegL.skipG rfl rfl rfl hc14 rfl rfl ?_
          refine RegL.skipG rfl rfl rfl hc14 rfl rfl ?_
          refine RegL.skipG rfl rfl rfl hc14 rfl rfl ?_
          refine RegL.skipG rfl rfl rfl hc14 rfl rfl ?_
          refine RegL.skipG rfl rfl rfl hc14 rfl rfl ?_
          refine RegL.skipG rfl rfl rfl hc14 rfl rfl ?_
          refine RegL.skipG rfl rfl rfl hc14 rfl rfl ?_
          refine RegL.skipG rfl rfl rfl hc14 rfl rfl ?_
          refine RegL.skipG rfl rfl rfl hc14 rfl rfl ?_
          refine RegL.pure (p := (pEq (.bool true))) rfl rfl rfl (J_pick rfl (Opd.tmp rfl) (fun _ => Opd.con) (fun hf => absurd (hc14.symm.trans hf) (by decide))) ?_
          refine RegL.pure (p := (pEq (.bool true))) rfl rfl rfl (J_assign rfl (Opd.tmp rfl)) ?_
          refine RegL.nil ?_
          replace h := Option.some.inj h; subst h
          exact Ct.mid () rfl ⟨rfl, trivial⟩
        · replace h := bif_f hc14 h
          refine RegL.pureG (p := (pPtr ((cK .i64) b_0.Duplex))) rfl rfl rfl hc14 rfl rfl (J_fieldAddr rfl Tryd.underlying52 rfl sz2 (by decide) (Opd.tmp rfl) rfl) ?_
          refine RegL.pureG (p := (pEq (.int .i64 b_0.Duplex))) rfl rfl rfl hc14 rfl rfl (J_load rfl Tryd.isAgg2 (Opd.tmp rfl)) ?_
          refine RegL.pureG (p := (pPtr ((cK .i64) b_0.High))) rfl rfl rfl hc14 rfl rfl (J_fieldAddr rfl Tryd.underlying52 rfl sz2 (by decide) (Opd.tmp rfl) rfl) ?_
          refine RegL.pureG (p := (pEq (.int .i64 b_0.High))) rfl rfl rfl hc14 rfl rfl (J_load rfl Tryd.isAgg2 (Opd.tmp rfl)) ?_
          refine RegL.pureG (p := (pPtr ((cK .i64) b_0.Low))) rfl rfl rfl hc14 rfl rfl (J_fieldAddr rfl Tryd.underlying52 rfl sz2 (by decide) (Opd.tmp rfl) rfl) ?_
          refine RegL.pureG (p := (pEq (.int .i64 b_0.Low))) rfl rfl rfl hc14 rfl rfl (J_load rfl Tryd.isAgg2 (Opd.tmp rfl)) ?_
          refine RegL.pureG (p := (pEq (.int .i64 (w64 (b_0.High - b_0.Low))))) rfl rfl rfl hc14 rfl rfl (J_bin rfl (Opd.tmp rfl) (Opd.tmp rfl) B_sub) ?_
          refine RegL.pureG (p := (pPtr ((cK .i64) b_0.High))) rfl rfl rfl hc14 rfl rfl (J_fieldAddr rfl Tryd.underlying52 rfl sz2 (by decide) (Opd.tmp rfl) rfl) ?_
          refine RegL.pureG (p := (pEq (.int .i64 b_0.High))) rfl rfl rfl hc14 rfl rfl (J_load rfl Tryd.isAgg2 (Opd.tmp rfl)) ?_
          refine RegL.pureG (p := (pEq (.int .i64 (w64 ((100000000 : Int) - b_0.High))))) rfl rfl rfl hc14 rfl rfl (J_bin rfl Opd.con (Opd.tmp rfl) B_sub) ?_
          replace h := bind_some h; obtain ⟨x15, hx15, h⟩ := h
          refine RegL.pureG (p := (pEq (.bool x15))) rfl rfl rfl hc14 rfl rfl (J_call rfl Tryd.call57 (c_impl_within hx15) (Opds.cons (Opd.tmp rfl) (Opds.cons (Opd.tmp rfl) (Opds.cons (Opd.tmp rfl) Opds.nil)))) ?_
          refine RegL.pure (p := (pEq (.bool x15))) rfl rfl rfl (J_pick rfl (Opd.tmp rfl) (fun hf => absurd (hc14.symm.trans hf) (by decide)) (fun _ => (Opd.tmp rfl))) ?_
          refine RegL.pure (p := (pEq (.bool x15))) rfl rfl rfl (J_assign rfl (Opd.tmp rfl)) ?_
          refine RegL.nil ?_
          replace h := Option.some.inj h; subst h
          exact Ct.mid () rfl ⟨rfl, trivial⟩
      · clear hx13
        refine Ct.then_tr ?_
        refine Tr.weak (Γ' := [(2, (pEq (.bool x13)))]) ⟨rfl, trivial⟩ ?_
        refine Tr.ret ?_
        replace h := Option.some.inj h; subst h
        exact Ct.retH1 (Ωx := []) () rfl (RvOk.tmp rfl) rfl

theorem c_strings_Join {xs_0 : List ByteArray} {sep_1 r : ByteArray} (h : m_strings_Join xs_0 sep_1 = some r) : CallJ Tryd.prog 61 [(pSl 1 cS xs_0), (pEq (.string sep_1))] (pEq (.string r)) :=
  join_contract joinAt61 joinNone61 h

theorem c_impl_BandText {b_0 : GBand} {r : ByteArray} (h : m_impl_BandText b_0 = some r) : CallJ Tryd.prog 31 [(pG (pF (fRB 1 0 2 3)) (pAgg (cGBand b_0)))] (pEq (.string r)) := by
  unfold m_impl_BandText at h
  refine CallJ.enterH Tryd.func31 rfl Tryd.ntmps31 rfl fun W I0 H => ?_
  refine Tr.tabF (s := 0) (k := 99999) rfl ?_; refine Tr.weak (Γ' := [(0, (pAgg (cGBand b_0))), (99999, (pF (fRB 1 0 2 3)))]) ⟨rfl, rfl, trivial⟩ ?_
  refine Tr.seq ?_
  refine Tr.region ?_
  refine RegL.pure (p := (pPtr (cGBand b_0))) rfl rfl rfl (J_boxA rfl (Opd.tmp rfl)) ?_
  refine RegL.pure (p := (pEq (.string (ByteArray.mk #[])))) rfl rfl rfl (J_assign rfl Opd.con) ?_
  refine RegL.nil ?_
  refine Ct.then_tr ?_
  refine Tr.weak (Γ' := [(1, (pPtr (cGBand b_0))), (99999, (pF (fRB 1 0 2 3)))]) ⟨rfl, rfl, trivial⟩ ?_
  refine Tr.seq ?_
  refine Tr.seq ?_
  refine Tr.region ?_
  refine RegL.pure (p := (pAgg (cGBand b_0))) rfl rfl rfl (J_loadA rfl Tryd.isAgg52 sz52 (Opd.tmp rfl) rfl) ?_
  replace h := bind_some h; obtain ⟨x1, hx1, h⟩ := h
  refine RegL.pure (p := (pEq (.bool x1))) rfl rfl rfl (J_call rfl Tryd.call60 (c_impl_ValidBand hx1) (Opds.cons (Opd.tmp rfl) Opds.nil)) ?_
  refine RegL.pure (p := (pEq (.bool (!x1)))) rfl rfl rfl (J_not rfl (Opd.tmp rfl)) ?_
  refine RegL.nil ?_
  refine Ct.then_tr ?_
  refine Tr.weak (Γ' := [(1, (pPtr (cGBand b_0))), (5, (pEq (.bool (!x1)))), (99999, (pF (fRB 1 0 2 3)))]) ⟨rfl, rfl, rfl, trivial⟩ ?_
  refine Tr.cond (Opd.tmp rfl) (fun hc => ?_) (fun hc => ?_)
  · replace h := bif_t hc h
    refine Tr.seq ?_
    refine Tr.region ?_
    refine RegL.pure (p := (pEq (.string (ByteArray.mk #[])))) rfl rfl rfl (J_assign rfl Opd.con) ?_
    refine RegL.nil ?_
    refine Ct.then_tr ?_
    refine Tr.weak (Γ' := [(2, (pEq (.string (ByteArray.mk #[])))), (99999, (pF (fRB 1 0 2 3)))]) ⟨rfl, rfl, trivial⟩ ?_
    refine Tr.ret ?_
    refine Ct.then_ret ?_
    replace h := Option.some.inj h; subst h
    exact Ct.retH1 (Ωx := []) () rfl (RvOk.tmp rfl) rfl
  · replace h := bif_f hc h
    refine Tr.skip ?_
    refine Ct.then_tr ?_
    refine Tr.weak (Γ' := [(1, (pPtr (cGBand b_0))), (99999, (pF (fRB 1 0 2 3)))]) ⟨rfl, rfl, trivial⟩ ?_
    refine Tr.seq ?_
    replace h := bind_some h; obtain ⟨x2, hx2, h⟩ := h
    replace h := bind_some h; obtain ⟨x3, hx3, h⟩ := h
    replace h := bind_some h; obtain ⟨x4, hx4, h⟩ := h
    replace h := bind_some h; obtain ⟨x5, hx5, h⟩ := h
    replace h := bind_some h; obtain ⟨x6, hx6, h⟩ := h
    refine Tr.drawD (n := 22) (m := 16) (es := [some (Ent.mk [(1, (pPtr (cGBand b_0)))] (pPtr (cS b_0.Name)) true), some (Ent.mk [(6, (pPtr (cS b_0.Name)))] (pEq (.string b_0.Name)) true), some (Ent.mk [(1, (pPtr (cGBand b_0)))] (pPtr ((cK .i64) b_0.Low)) true), some (Ent.mk [(8, (pPtr ((cK .i64) b_0.Low)))] (pEq (.int .i64 b_0.Low)) true), some (Ent.mk [(9, (pEq (.int .i64 b_0.Low))), (99999, (pF (fRB 1 0 2 3)))] (pEq (.string x2)) true), some (Ent.mk [(1, (pPtr (cGBand b_0)))] (pPtr ((cK .i64) b_0.High)) true), some (Ent.mk [(11, (pPtr ((cK .i64) b_0.High)))] (pEq (.int .i64 b_0.High)) true), some (Ent.mk [(12, (pEq (.int .i64 b_0.High))), (99999, (pF (fRB 1 0 2 3)))] (pEq (.string x3)) true), some (Ent.mk [(1, (pPtr (cGBand b_0)))] (pPtr ((cK .i64) b_0.Raster)) true), some (Ent.mk [(14, (pPtr ((cK .i64) b_0.Raster)))] (pEq (.int .i64 b_0.Raster)) true), some (Ent.mk [(15, (pEq (.int .i64 b_0.Raster))), (99999, (pF (fRB 1 0 2 3)))] (pEq (.string x4)) true), some (Ent.mk [(1, (pPtr (cGBand b_0)))] (pPtr ((cK .i64) b_0.Duplex)) true), some (Ent.mk [(17, (pPtr ((cK .i64) b_0.Duplex)))] (pEq (.int .i64 b_0.Duplex)) true), some (Ent.mk [(18, (pEq (.int .i64 b_0.Duplex))), (99999, (pF (fRB 1 0 2 3)))] (pEq (.string x5)) true), some (Ent.mk [(7, (pEq (.string b_0.Name))), (10, (pEq (.string x2))), (13, (pEq (.string x3))), (16, (pEq (.string x4))), (19, (pEq (.string x5)))] (pSl 1 cS ([b_0.Name, x2, x3, x4, x5] : (List ByteArray))) true), some (Ent.mk [(20, (pSl 1 cS ([b_0.Name, x2, x3, x4, x5] : (List ByteArray))))] (pEq (.string x6)) true)]) (rd := [[1], [6], [1], [8], [9, 99999], [1], [11], [12, 99999], [1], [14], [15, 99999], [1], [17], [18, 99999], [7, 10, 13, 16, 19], [20]]) rfl hmix (by kernel_rfl) fun hD => ?_
    refine RD.fin (es := [Ent.mk [(1, (pPtr (cGBand b_0)))] (pPtr (cS b_0.Name)) true, Ent.mk [(6, (pPtr (cS b_0.Name)))] (pEq (.string b_0.Name)) true, Ent.mk [(1, (pPtr (cGBand b_0)))] (pPtr ((cK .i64) b_0.Low)) true, Ent.mk [(8, (pPtr ((cK .i64) b_0.Low)))] (pEq (.int .i64 b_0.Low)) true, Ent.mk [(9, (pEq (.int .i64 b_0.Low))), (99999, (pF (fRB 1 0 2 3)))] (pEq (.string x2)) true, Ent.mk [(1, (pPtr (cGBand b_0)))] (pPtr ((cK .i64) b_0.High)) true, Ent.mk [(11, (pPtr ((cK .i64) b_0.High)))] (pEq (.int .i64 b_0.High)) true, Ent.mk [(12, (pEq (.int .i64 b_0.High))), (99999, (pF (fRB 1 0 2 3)))] (pEq (.string x3)) true, Ent.mk [(1, (pPtr (cGBand b_0)))] (pPtr ((cK .i64) b_0.Raster)) true, Ent.mk [(14, (pPtr ((cK .i64) b_0.Raster)))] (pEq (.int .i64 b_0.Raster)) true, Ent.mk [(15, (pEq (.int .i64 b_0.Raster))), (99999, (pF (fRB 1 0 2 3)))] (pEq (.string x4)) true, Ent.mk [(1, (pPtr (cGBand b_0)))] (pPtr ((cK .i64) b_0.Duplex)) true, Ent.mk [(17, (pPtr ((cK .i64) b_0.Duplex)))] (pEq (.int .i64 b_0.Duplex)) true, Ent.mk [(18, (pEq (.int .i64 b_0.Duplex))), (99999, (pF (fRB 1 0 2 3)))] (pEq (.string x5)) true, Ent.mk [(7, (pEq (.string b_0.Name))), (10, (pEq (.string x2))), (13, (pEq (.string x3))), (16, (pEq (.string x4))), (19, (pEq (.string x5)))] (pSl 1 cS ([b_0.Name, x2, x3, x4, x5] : (List ByteArray))) true, Ent.mk [(20, (pSl 1 cS ([b_0.Name, x2, x3, x4, x5] : (List ByteArray))))] (pEq (.string x6)) true]) (done := []) hD ⟨.inr ⟨(OpJ.w (J_fieldAddr rfl Tryd.underlying52 rfl sz9 (by decide) (Opd.tmp rfl) rfl)), ⟨rfl, trivial⟩, rfl, rfl⟩, ⟨.inr ⟨(OpJ.w (J_load rfl Tryd.isAgg9 (Opd.tmp rfl))), ⟨rfl, trivial⟩, rfl, rfl⟩, ⟨.inr ⟨(OpJ.w (J_fieldAddr rfl Tryd.underlying52 rfl sz2 (by decide) (Opd.tmp rfl) rfl)), ⟨rfl, trivial⟩, rfl, rfl⟩, ⟨.inr ⟨(OpJ.w (J_load rfl Tryd.isAgg2 (Opd.tmp rfl))), ⟨rfl, trivial⟩, rfl, rfl⟩, ⟨.inr ⟨(OpJ.w (J_call rfl Tryd.call62 (c_impl_Decimal hx2) (Opds.cons (Opd.tabF (Opd.tmp rfl) 99999 rfl) Opds.nil))), ⟨rfl, rfl, trivial⟩, rfl, rfl⟩, ⟨.inr ⟨(OpJ.w (J_fieldAddr rfl Tryd.underlying52 rfl sz2 (by decide) (Opd.tmp rfl) rfl)), ⟨rfl, trivial⟩, rfl, rfl⟩, ⟨.inr ⟨(OpJ.w (J_load rfl Tryd.isAgg2 (Opd.tmp rfl))), ⟨rfl, trivial⟩, rfl, rfl⟩, ⟨.inr ⟨(OpJ.w (J_call rfl Tryd.call62 (c_impl_Decimal hx3) (Opds.cons (Opd.tabF (Opd.tmp rfl) 99999 rfl) Opds.nil))), ⟨rfl, rfl, trivial⟩, rfl, rfl⟩, ⟨.inr ⟨(OpJ.w (J_fieldAddr rfl Tryd.underlying52 rfl sz2 (by decide) (Opd.tmp rfl) rfl)), ⟨rfl, trivial⟩, rfl, rfl⟩, ⟨.inr ⟨(OpJ.w (J_load rfl Tryd.isAgg2 (Opd.tmp rfl))), ⟨rfl, trivial⟩, rfl, rfl⟩, ⟨.inr ⟨(OpJ.w (J_call rfl Tryd.call62 (c_impl_Decimal hx4) (Opds.cons (Opd.tabF (Opd.tmp rfl) 99999 rfl) Opds.nil))), ⟨rfl, rfl, trivial⟩, rfl, rfl⟩, ⟨.inr ⟨(OpJ.w (J_fieldAddr rfl Tryd.underlying52 rfl sz2 (by decide) (Opd.tmp rfl) rfl)), ⟨rfl, trivial⟩, rfl, rfl⟩, ⟨.inr ⟨(OpJ.w (J_load rfl Tryd.isAgg2 (Opd.tmp rfl))), ⟨rfl, trivial⟩, rfl, rfl⟩, ⟨.inr ⟨(OpJ.w (J_call rfl Tryd.call62 (c_impl_Decimal hx5) (Opds.cons (Opd.tabF (Opd.tmp rfl) 99999 rfl) Opds.nil))), ⟨rfl, rfl, trivial⟩, rfl, rfl⟩, ⟨.inr ⟨(OpJ.w (J_buildSlice (l := ([b_0.Name, x2, x3, x4, x5] : (List ByteArray))) (qss := [(0, cS b_0.Name), (1, cS x2), (2, cS x3), (3, cS x4), (4, cS x5)]) rfl Tryd.underlying79 el9 rfl (Parts.cons (Part.one (Opd.tmp rfl) OneC.str) (Parts.cons (Part.one (Opd.tmp rfl) OneC.str) (Parts.cons (Part.one (Opd.tmp rfl) OneC.str) (Parts.cons (Part.one (Opd.tmp rfl) OneC.str) (Parts.cons (Part.one (Opd.tmp rfl) OneC.str) Parts.nil))))) rfl rfl)), ⟨rfl, rfl, rfl, rfl, rfl, trivial⟩, rfl, rfl⟩, ⟨.inr ⟨(OpJ.w (J_call rfl Tryd.call61 (c_strings_Join hx6) (Opds.cons (Opd.tmp rfl) (Opds.cons Opd.con Opds.nil)))), ⟨rfl, trivial⟩, rfl, rfl⟩, trivial⟩⟩⟩⟩⟩⟩⟩⟩⟩⟩⟩⟩⟩⟩⟩⟩ ?_
    refine RegL.pure (p := (pEq (.string x6))) rfl rfl rfl (J_assign rfl (Opd.tmp rfl)) ?_
    refine RegL.nil ?_
    refine Ct.then_tr ?_
    refine Tr.weak (Γ' := [(2, (pEq (.string x6))), (99999, (pF (fRB 1 0 2 3)))]) ⟨rfl, rfl, trivial⟩ ?_
    refine Tr.ret ?_
    replace h := Option.some.inj h; subst h
    exact Ct.retH1 (Ωx := []) () rfl (RvOk.tmp rfl) rfl

theorem c_impl_ReadBand {s_0 : ByteArray} {r : (GBand × Bool)} (h : m_impl_ReadBand s_0 = some r) : CallJ Tryd.prog 33 [(pG (pF (fRB 1 0 2 3)) (pEq (.string s_0)))] (pTup [(pAgg (cGBand r.1)), (pEq (.bool r.2))]) := by
  unfold m_impl_ReadBand at h
  refine CallJ.enterH Tryd.func33 rfl Tryd.ntmps33 rfl fun W I0 H => ?_
  refine Tr.tabF (s := 0) (k := 99999) rfl ?_; refine Tr.weak (Γ' := [(0, (pEq (.string s_0))), (99999, (pF (fRB 1 0 2 3)))]) ⟨rfl, rfl, trivial⟩ ?_
  refine Tr.seq ?_
  refine Tr.region ?_
  refine RegL.step (γ := Nat) (p := fun b => pEq (.pointer (some ⟨b, 0, none⟩))) (Ω' := fun b => [oBlk b [(pEq (.string ByteArray.empty)), (pEq (.int .i64 (0 : Int))), (pEq (.int .i64 (0 : Int))), (pEq (.int .i64 (0 : Int))), (pEq (.int .i64 (0 : Int)))]]) rfl rfl rfl (M_alloc rfl zero52) fun b1 => ?_
  refine RegL.pure (p := (pEq (.bool false))) rfl rfl rfl (J_assign rfl Opd.con) ?_
  refine RegL.nil ?_
  refine Ct.then_tr ?_
  refine Tr.weak (Γ' := [(0, (pEq (.string s_0))), (2, (pEq (.pointer (some ⟨b1, 0, none⟩)))), (99999, (pF (fRB 1 0 2 3)))]) ⟨rfl, rfl, rfl, trivial⟩ ?_
  refine Tr.seq ?_
  refine Tr.region ?_
  refine RegL.pure (p := (pEq (.string s_0))) rfl rfl rfl (J_move rfl (Opd.tmp rfl)) ?_
  replace h := bind_some h; obtain ⟨x2, hx2, h⟩ := h
  refine RegL.pure (p := (pSl 1 cS x2)) rfl rfl rfl (J_call rfl Tryd.call65 (c_strings_Split hx2) (Opds.cons (Opd.tabF (Opd.tmp rfl) 99999 rfl) (Opds.cons Opd.con Opds.nil))) ?_
  refine RegL.pure (p := (pSl 1 cS x2)) rfl rfl rfl (J_assign rfl (Opd.tmp rfl)) ?_
  refine RegL.nil ?_
  refine Ct.then_tr ?_
  refine Tr.weak (Γ' := [(0, (pEq (.string s_0))), (2, (pEq (.pointer (some ⟨b1, 0, none⟩)))), (4, (pSl 1 cS x2)), (99999, (pF (fRB 1 0 2 3)))]) ⟨rfl, rfl, rfl, rfl, trivial⟩ ?_
  refine Tr.seq ?_
  refine Tr.seq ?_
  refine Tr.region ?_
  refine RegL.pure (p := (pSl 1 cS x2)) rfl rfl rfl (J_move rfl (Opd.tmp rfl)) ?_
  refine RegL.pure (p := (pEq (.int .i64 (x2.length : Int)))) rfl rfl rfl (J_len rfl Tryd.underlying79 (Opd.tmp rfl) rfl) ?_
  refine RegL.pure (p := (pEq (.bool ((x2.length : Int) != (5 : Int))))) rfl rfl rfl (J_bin rfl (Opd.tmp rfl) Opd.con B_neq) ?_
  refine RegL.nil ?_
  refine Ct.then_tr ?_
  refine Tr.weak (Γ' := [(0, (pEq (.string s_0))), (2, (pEq (.pointer (some ⟨b1, 0, none⟩)))), (4, (pSl 1 cS x2)), (13, (pEq (.bool ((x2.length : Int) != (5 : Int))))), (99999, (pF (fRB 1 0 2 3)))]) ⟨rfl, rfl, rfl, rfl, rfl, trivial⟩ ?_
  refine Tr.cond (Opd.tmp rfl) (fun hc => ?_) (fun hc => ?_)
  · replace h := bif_t hc h
    refine Tr.seq ?_
    refine Tr.region ?_
    refine RegL.pure (p := (pAgg (cGBand (GBand.mk ByteArray.empty (0 : Int) (0 : Int) (0 : Int) (0 : Int))))) rfl rfl rfl (J_build (qss := []) rfl bl52 bz52o Parts.nil rfl) ?_
    refine RegL.stepN (γ := Unit) (p := fun _ => pAny) (Ω' := fun _ => [oBlk b1 [(pEq (.string (GBand.mk ByteArray.empty (0 : Int) (0 : Int) (0 : Int) (0 : Int)).Name)), (pEq (.int .i64 (GBand.mk ByteArray.empty (0 : Int) (0 : Int) (0 : Int) (0 : Int)).Low)), (pEq (.int .i64 (GBand.mk ByteArray.empty (0 : Int) (0 : Int) (0 : Int) (0 : Int)).High)), (pEq (.int .i64 (GBand.mk ByteArray.empty (0 : Int) (0 : Int) (0 : Int) (0 : Int)).Raster)), (pEq (.int .i64 (GBand.mk ByteArray.empty (0 : Int) (0 : Int) (0 : Int) (0 : Int)).Duplex))]]) rfl rfl (M_storeA rfl sz52 (Opd.tmp rfl) (Opd.tmp rfl) (fun _ _ _ h => ones_of ((OneCs.cons OneC.str (OneCs.cons OneC.int (OneCs.cons OneC.int (OneCs.cons OneC.int (OneCs.cons OneC.int OneCs.nil)))))) h) rfl rfl) fun g3 => ?_
    refine RegL.pure (p := (pEq (.bool false))) rfl rfl rfl (J_assign rfl Opd.con) ?_
    refine RegL.nil ?_
    refine Ct.then_tr ?_
    refine Tr.weak (Γ' := [(2, (pEq (.pointer (some ⟨b1, 0, none⟩)))), (3, (pEq (.bool false))), (99999, (pF (fRB 1 0 2 3)))]) ⟨rfl, rfl, rfl, trivial⟩ ?_
    refine Tr.ret ?_
    refine Ct.then_ret ?_
    replace h := Option.some.inj h; subst h
    exact Ct.retH2 (Ωx := [oBlk b1 [(pEq (.string (GBand.mk ByteArray.empty (0 : Int) (0 : Int) (0 : Int) (0 : Int)).Name)), (pEq (.int .i64 (GBand.mk ByteArray.empty (0 : Int) (0 : Int) (0 : Int) (0 : Int)).Low)), (pEq (.int .i64 (GBand.mk ByteArray.empty (0 : Int) (0 : Int) (0 : Int) (0 : Int)).High)), (pEq (.int .i64 (GBand.mk ByteArray.empty (0 : Int) (0 : Int) (0 : Int) (0 : Int)).Raster)), (pEq (.int .i64 (GBand.mk ByteArray.empty (0 : Int) (0 : Int) (0 : Int) (0 : Int)).Duplex))]]) () rfl (RvOk.cellA (i := 0) Tryd.isAgg52 sz52 rfl rfl rfl) (RvOk.tmp rfl) rfl rfl
  · replace h := bif_f hc h
    refine Tr.skip ?_
    refine Ct.then_tr ?_
    refine Tr.weak (Γ' := [(0, (pEq (.string s_0))), (2, (pEq (.pointer (some ⟨b1, 0, none⟩)))), (4, (pSl 1 cS x2)), (99999, (pF (fRB 1 0 2 3)))]) ⟨rfl, rfl, rfl, rfl, trivial⟩ ?_
    refine Tr.seq ?_
    refine Tr.region ?_
    refine RegL.step (γ := Nat) (p := fun b => pEq (.pointer (some ⟨b, 0, none⟩))) (Ω' := fun b => [oBlk b ((cArr (cK .i64)) (List.replicate 4 (0 : Int))), oBlk b1 [(pEq (.string ByteArray.empty)), (pEq (.int .i64 (0 : Int))), (pEq (.int .i64 (0 : Int))), (pEq (.int .i64 (0 : Int))), (pEq (.int .i64 (0 : Int)))]]) rfl rfl rfl (M_alloc rfl zero84) fun b4 => ?_
    refine RegL.nil ?_
    refine Ct.then_tr ?_
    refine Tr.weak (Γ' := [(0, (pEq (.string s_0))), (2, (pEq (.pointer (some ⟨b1, 0, none⟩)))), (4, (pSl 1 cS x2)), (5, (pEq (.pointer (some ⟨b4, 0, none⟩)))), (99999, (pF (fRB 1 0 2 3)))]) ⟨rfl, rfl, rfl, rfl, rfl, trivial⟩ ?_
    refine Tr.seq ?_
    refine Tr.seq ?_
    refine Tr.region ?_
    refine RegL.pure (p := (pSl 1 cS x2)) rfl rfl rfl (J_move rfl (Opd.tmp rfl)) ?_
    replace h := bind_some h; obtain ⟨x5, hx5, h⟩ := h
    refine RegL.pure (p := (pSl 1 cS x5)) rfl rfl rfl (J_slSlice rfl Tryd.underlying79 sz9 (Opd.tmp rfl) (SOpd.some Opd.con) SOpd.none hx5) ?_
    refine RegL.pure (p := (pEq (.int .i64 (x5.length : Int)))) rfl rfl rfl (J_len rfl Tryd.underlying79 (Opd.tmp rfl) rfl) ?_
    refine RegL.pure (p := (pEq (.int .i64 (0 : Int)))) rfl rfl rfl (J_move rfl Opd.con) ?_
    refine RegL.nil ?_
    refine Ct.then_tr ?_
    refine Tr.weak (Γ' := [(0, (pEq (.string s_0))), (2, (pEq (.pointer (some ⟨b1, 0, none⟩)))), (4, (pSl 1 cS x2)), (5, (pEq (.pointer (some ⟨b4, 0, none⟩)))), (16, (pSl 1 cS x5)), (17, (pEq (.int .i64 (x5.length : Int)))), (18, (pEq (.int .i64 (0 : Int)))), (99999, (pF (fRB 1 0 2 3)))]) ⟨rfl, rfl, rfl, rfl, rfl, rfl, rfl, rfl, trivial⟩ ?_
    replace h := bind_some h; obtain ⟨x6, hx6, h⟩ := h
    refine Tr.cut (γ := Unit) (Γm := fun g => [(0, (pEq (.string s_0))), (2, (pEq (.pointer (some ⟨b1, 0, none⟩)))), (4, (pSl 1 cS x2)), (5, (pEq (.pointer (some ⟨b4, 0, none⟩)))), (99999, (pF (fRB 1 0 2 3)))]) (Ωm := fun g => [oBlk b4 ((cArr (cK .i64)) x6), oBlk b1 [(pEq (.string ByteArray.empty)), (pEq (.int .i64 (0 : Int))), (pEq (.int .i64 (0 : Int))), (pEq (.int .i64 (0 : Int))), (pEq (.int .i64 (0 : Int)))]]) ?_ (fun g15 => ?_)
    · clear h
      have h := hx6
      clear hx6
      refine Tr.block ?_
      refine Tr.weak (Γ' := [(0, (pEq (.string s_0))), (2, (pEq (.pointer (some ⟨b1, 0, none⟩)))), (4, (pSl 1 cS x2)), (5, (pEq (.pointer (some ⟨b4, 0, none⟩)))), (16, (pSl 1 cS x5)), (17, (pEq (.int .i64 (x5.length : Int)))), (18, (pEq (.int .i64 (0 : Int)))), (99999, (pF (fRB 1 0 2 3)))]) ⟨rfl, rfl, rfl, rfl, rfl, rfl, rfl, rfl, trivial⟩ ?_
      refine Tr.loop (γ := Unit) (σ := (Int × (List Int))) (Γσ := fun s g => [(0, (pEq (.string s_0))), (2, (pEq (.pointer (some ⟨b1, 0, none⟩)))), (4, (pSl 1 cS x2)), (5, (pEq (.pointer (some ⟨b4, 0, none⟩)))), (16, (pSl 1 cS x5)), (17, (pEq (.int .i64 (x5.length : Int)))), (18, (pEq (.int .i64 s.1))), (99999, (pF (fRB 1 0 2 3)))]) (Ωσ := fun s g => [oBlk b4 ((cArr (cK .i64)) s.2), oBlk b1 [(pEq (.string ByteArray.empty)), (pEq (.int .i64 (0 : Int))), (pEq (.int .i64 (0 : Int))), (pEq (.int .i64 (0 : Int))), (pEq (.int .i64 (0 : Int)))]]) (g := ()) h ?_
      clear h
      rintro ⟨v8, v9⟩ g10 t h
      replace h : m_impl_ReadBand_B7 x5 v8 v9 = some t := h
      unfold m_impl_ReadBand_B7 at h
      refine Tr.weakO (Γ' := [(0, (pEq (.string s_0))), (2, (pEq (.pointer (some ⟨b1, 0, none⟩)))), (4, (pSl 1 cS x2)), (5, (pEq (.pointer (some ⟨b4, 0, none⟩)))), (16, (pSl 1 cS x5)), (17, (pEq (.int .i64 (x5.length : Int)))), (18, (pEq (.int .i64 v8))), (99999, (pF (fRB 1 0 2 3)))]) (Ω' := [oBlk b4 ((cArr (cK .i64)) v9), oBlk b1 [(pEq (.string ByteArray.empty)), (pEq (.int .i64 (0 : Int))), (pEq (.int .i64 (0 : Int))), (pEq (.int .i64 (0 : Int))), (pEq (.int .i64 (0 : Int)))]]) rfl ⟨rfl, rfl, rfl, rfl, rfl, rfl, rfl, rfl, trivial⟩ ?_
      refine Tr.seq ?_
      refine Tr.region ?_
      refine RegL.pure (p := (pEq (.bool (decide (v8 < (x5.length : Int)))))) rfl rfl rfl (J_bin rfl (Opd.tmp rfl) (Opd.tmp rfl) B_lss) ?_
      refine RegL.nil ?_
      refine Ct.then_tr ?_
      refine Tr.weak (Γ' := [(0, (pEq (.string s_0))), (2, (pEq (.pointer (some ⟨b1, 0, none⟩)))), (4, (pSl 1 cS x2)), (5, (pEq (.pointer (some ⟨b4, 0, none⟩)))), (16, (pSl 1 cS x5)), (17, (pEq (.int .i64 (x5.length : Int)))), (18, (pEq (.int .i64 v8))), (19, (pEq (.bool (decide (v8 < (x5.length : Int)))))), (99999, (pF (fRB 1 0 2 3)))]) ⟨rfl, rfl, rfl, rfl, rfl, rfl, rfl, rfl, rfl, trivial⟩ ?_
      refine Tr.seq ?_
      refine Tr.cond (Opd.tmp rfl) (fun hc => ?_) (fun hc => ?_)
      · replace h := bif_t hc h
        refine Tr.skip ?_
        refine Ct.then_tr ?_
        refine Tr.weak (Γ' := [(0, (pEq (.string s_0))), (2, (pEq (.pointer (some ⟨b1, 0, none⟩)))), (4, (pSl 1 cS x2)), (5, (pEq (.pointer (some ⟨b4, 0, none⟩)))), (16, (pSl 1 cS x5)), (17, (pEq (.int .i64 (x5.length : Int)))), (18, (pEq (.int .i64 v8))), (99999, (pF (fRB 1 0 2 3)))]) ⟨rfl, rfl, rfl, rfl, rfl, rfl, rfl, rfl, trivial⟩ ?_
        refine Tr.seq ?_
        refine Tr.block ?_
        refine Tr.seq ?_
        refine Tr.region ?_
        refine RegL.pure (p := (pEq (.int .i64 v8))) rfl rfl rfl (J_move rfl (Opd.tmp rfl)) ?_
        replace h := bind_some h; obtain ⟨x11, hx11, h⟩ := h
        refine RegL.pure (p := (pPtr (cS x11))) rfl rfl rfl (J_idx rfl Tryd.underlying79 sz9 (Opd.tmp rfl) (Opd.tmp rfl) hx11) ?_
        refine RegL.pure (p := (pEq (.string x11))) rfl rfl rfl (J_load rfl Tryd.isAgg9 (Opd.tmp rfl)) ?_
        refine RegL.pure (p := (pEq (.int .i64 v8))) rfl rfl rfl (J_assign rfl (Opd.tmp rfl)) ?_
        refine RegL.pure (p := (pEq (.string x11))) rfl rfl rfl (J_assign rfl (Opd.tmp rfl)) ?_
        refine RegL.nil ?_
        refine Ct.then_tr ?_
        refine Tr.weak (Γ' := [(0, (pEq (.string s_0))), (2, (pEq (.pointer (some ⟨b1, 0, none⟩)))), (4, (pSl 1 cS x2)), (5, (pEq (.pointer (some ⟨b4, 0, none⟩)))), (6, (pEq (.int .i64 v8))), (7, (pEq (.string x11))), (16, (pSl 1 cS x5)), (17, (pEq (.int .i64 (x5.length : Int)))), (18, (pEq (.int .i64 v8))), (99999, (pF (fRB 1 0 2 3)))]) ⟨rfl, rfl, rfl, rfl, rfl, rfl, rfl, rfl, rfl, rfl, trivial⟩ ?_
        refine Tr.region ?_
        refine RegL.pure (p := (pEq (.int .i64 v8))) rfl rfl rfl (J_move rfl (Opd.tmp rfl)) ?_
        refine RegL.pure (p := (pEq (.string x11))) rfl rfl rfl (J_move rfl (Opd.tmp rfl)) ?_
        replace h := bind_some h; obtain ⟨x12, hx12, h⟩ := h
        refine RegL.pure (p := (pTup [(pEq (.int .i64 x12.1)), (pEq (.bool x12.2))])) rfl rfl rfl (J_call rfl Tryd.call66 (c_impl_ReadDecimal hx12) (Opds.cons (Opd.tabF (Opd.tmp rfl) 99999 rfl) Opds.nil)) ?_
        refine RegL.pure (p := (pTup [(pEq (.int .i64 x12.1)), (pEq (.bool x12.2))])) rfl rfl rfl (J_move rfl (Opd.tmp rfl)) ?_
        refine RegL.pure (p := (pEq (.int .i64 x12.1))) rfl rfl rfl (J_extract rfl (Opd.tmp rfl) rfl) ?_
        refine RegL.pure (p := (pEq (.bool x12.2))) rfl rfl rfl (J_extract rfl (Opd.tmp rfl) rfl) ?_
        replace h := bind_some h; obtain ⟨x13, hx13, h⟩ := h
        refine RegL.pure (p := (pEq (.pointer (some ⟨b4, (v8).toNat * 1, none⟩)))) rfl rfl rfl (J_ownIdx rfl Tryd.underlying84 sz2 (Opd.tmp rfl) (Opd.tmp rfl) hx13) ?_
        refine RegL.stepN (γ := Unit) (p := fun _ => pAny) (Ω' := fun _ => [oBlk b4 ((cArr (cK .i64)) (v9.set (v8).toNat x12.1)), oBlk b1 [(pEq (.string ByteArray.empty)), (pEq (.int .i64 (0 : Int))), (pEq (.int .i64 (0 : Int))), (pEq (.int .i64 (0 : Int))), (pEq (.int .i64 (0 : Int)))]]) rfl rfl (M_store rfl sz2 (Opd.tmp rfl) (Opd.tmp rfl) OneC.int (cArr_lt hx13) (cArr_set hx13)) fun g14 => ?_
        refine RegL.nil ?_
        refine Ct.blk_normal ?_
        refine Ct.then_tr ?_
        refine Tr.weak (Γ' := [(0, (pEq (.string s_0))), (2, (pEq (.pointer (some ⟨b1, 0, none⟩)))), (4, (pSl 1 cS x2)), (5, (pEq (.pointer (some ⟨b4, 0, none⟩)))), (16, (pSl 1 cS x5)), (17, (pEq (.int .i64 (x5.length : Int)))), (18, (pEq (.int .i64 v8))), (99999, (pF (fRB 1 0 2 3)))]) ⟨rfl, rfl, rfl, rfl, rfl, rfl, rfl, rfl, trivial⟩ ?_
        refine Tr.region ?_
        refine RegL.pure (p := (pEq (.int .i64 (w64 (v8 + (1 : Int)))))) rfl rfl rfl (J_bin rfl (Opd.tmp rfl) Opd.con B_add) ?_
        refine RegL.pure (p := (pEq (.int .i64 (w64 (v8 + (1 : Int)))))) rfl rfl rfl (J_move rfl (Opd.tmp rfl)) ?_
        refine RegL.nil ?_
        replace h := Option.some.inj h; subst h
        exact Ct.again () rfl ⟨rfl, rfl, rfl, rfl, rfl, rfl, rfl, rfl, trivial⟩
      · replace h := bif_f hc h
        refine Tr.exit ?_
        refine Ct.then_exit ?_
        replace h := map_some h; obtain ⟨r1, h, rfl⟩ := h
        refine Ct.out_exit fun e => ?_
        subst e
        refine Ct.blk_exit ?_
        replace h := Option.some.inj h; subst h
        exact Ct.mid () rfl ⟨rfl, rfl, rfl, rfl, rfl, trivial⟩
    · clear hx6
      refine Ct.then_tr ?_
      refine Tr.weak (Γ' := [(0, (pEq (.string s_0))), (2, (pEq (.pointer (some ⟨b1, 0, none⟩)))), (4, (pSl 1 cS x2)), (5, (pEq (.pointer (some ⟨b4, 0, none⟩)))), (99999, (pF (fRB 1 0 2 3)))]) ⟨rfl, rfl, rfl, rfl, rfl, trivial⟩ ?_
      refine Tr.seq ?_
      replace h := bind_some h; obtain ⟨x16, hx16, h⟩ := h
      replace h := bind_some h; obtain ⟨x17, hx17, h⟩ := h
      replace h := bind_some h; obtain ⟨x18, hx18, h⟩ := h
      replace h := bind_some h; obtain ⟨x19, hx19, h⟩ := h
      replace h := bind_some h; obtain ⟨x20, hx20, h⟩ := h
      refine Tr.drawD (n := 54) (m := 13) (es := [some (Ent.mk [(4, (pSl 1 cS x2))] (pSl 1 cS x2) true), some (Ent.mk [(31, (pSl 1 cS x2))] (pPtr (cS x16)) true), some (Ent.mk [(32, (pPtr (cS x16)))] (pEq (.string x16)) true), some (Ent.mk [(5, (pEq (.pointer (some ⟨b4, 0, none⟩))))] (pEq (.pointer (some ⟨b4, ((0 : Int)).toNat * 1, none⟩))) true), some (Ent.mk [(34, (pEq (.pointer (some ⟨b4, ((0 : Int)).toNat * 1, none⟩))))] (pEq (.int .i64 x17)) true), some (Ent.mk [(5, (pEq (.pointer (some ⟨b4, 0, none⟩))))] (pEq (.pointer (some ⟨b4, ((1 : Int)).toNat * 1, none⟩))) true), some (Ent.mk [(36, (pEq (.pointer (some ⟨b4, ((1 : Int)).toNat * 1, none⟩))))] (pEq (.int .i64 x18)) true), some (Ent.mk [(5, (pEq (.pointer (some ⟨b4, 0, none⟩))))] (pEq (.pointer (some ⟨b4, ((2 : Int)).toNat * 1, none⟩))) true), some (Ent.mk [(38, (pEq (.pointer (some ⟨b4, ((2 : Int)).toNat * 1, none⟩))))] (pEq (.int .i64 x19)) true), some (Ent.mk [(5, (pEq (.pointer (some ⟨b4, 0, none⟩))))] (pEq (.pointer (some ⟨b4, ((3 : Int)).toNat * 1, none⟩))) true), some (Ent.mk [(40, (pEq (.pointer (some ⟨b4, ((3 : Int)).toNat * 1, none⟩))))] (pEq (.int .i64 x20)) true), some (Ent.mk [(33, (pEq (.string x16))), (35, (pEq (.int .i64 x17))), (37, (pEq (.int .i64 x18))), (39, (pEq (.int .i64 x19))), (41, (pEq (.int .i64 x20)))] (pAgg (cGBand (GBand.mk x16 x17 x18 x19 x20))) true), none]) (rd := [[4], [31], [32], [5], [34], [5], [36], [5], [38], [5], [40], [33, 35, 37, 39, 41], []]) rfl hmix (by kernel_rfl) fun hD => ?_
      refine RD.step hD (es := [some (Ent.mk [(4, (pSl 1 cS x2))] (pSl 1 cS x2) true), some (Ent.mk [(31, (pSl 1 cS x2))] (pPtr (cS x16)) true), some (Ent.mk [(32, (pPtr (cS x16)))] (pEq (.string x16)) true), some (Ent.mk [(5, (pEq (.pointer (some ⟨b4, 0, none⟩))))] (pEq (.pointer (some ⟨b4, ((0 : Int)).toNat * 1, none⟩))) true), some (Ent.mk [(34, (pEq (.pointer (some ⟨b4, ((0 : Int)).toNat * 1, none⟩))))] (pEq (.int .i64 x17)) true), some (Ent.mk [(5, (pEq (.pointer (some ⟨b4, 0, none⟩))))] (pEq (.pointer (some ⟨b4, ((1 : Int)).toNat * 1, none⟩))) true), some (Ent.mk [(36, (pEq (.pointer (some ⟨b4, ((1 : Int)).toNat * 1, none⟩))))] (pEq (.int .i64 x18)) true), some (Ent.mk [(5, (pEq (.pointer (some ⟨b4, 0, none⟩))))] (pEq (.pointer (some ⟨b4, ((2 : Int)).toNat * 1, none⟩))) true), some (Ent.mk [(38, (pEq (.pointer (some ⟨b4, ((2 : Int)).toNat * 1, none⟩))))] (pEq (.int .i64 x19)) true), some (Ent.mk [(5, (pEq (.pointer (some ⟨b4, 0, none⟩))))] (pEq (.pointer (some ⟨b4, ((3 : Int)).toNat * 1, none⟩))) true), some (Ent.mk [(40, (pEq (.pointer (some ⟨b4, ((3 : Int)).toNat * 1, none⟩))))] (pEq (.int .i64 x20)) true), some (Ent.mk [(33, (pEq (.string x16))), (35, (pEq (.int .i64 x17))), (37, (pEq (.int .i64 x18))), (39, (pEq (.int .i64 x19))), (41, (pEq (.int .i64 x20)))] (pAgg (cGBand (GBand.mk x16 x17 x18 x19 x20))) true), none]) (done := []) (mask := [true, true, true, true, true, true, true, true, true, true, true, true, false]) (γ := Nat) (p := fun b => pEq (.pointer (some ⟨b, 0, none⟩))) (Ω' := fun b => [oBlk b [(pEq (.string ByteArray.empty)), (pEq (.int .i64 (0 : Int))), (pEq (.int .i64 (0 : Int))), (pEq (.int .i64 (0 : Int))), (pEq (.int .i64 (0 : Int)))], oBlk b4 ((cArr (cK .i64)) x6), oBlk b1 [(pEq (.string ByteArray.empty)), (pEq (.int .i64 (0 : Int))), (pEq (.int .i64 (0 : Int))), (pEq (.int .i64 (0 : Int))), (pEq (.int .i64 (0 : Int)))]]) (es' := fun b21 => [some (Ent.mk [(4, (pSl 1 cS x2))] (pSl 1 cS x2) true), some (Ent.mk [(31, (pSl 1 cS x2))] (pPtr (cS x16)) true), some (Ent.mk [(32, (pPtr (cS x16)))] (pEq (.string x16)) true), some (Ent.mk [(5, (pEq (.pointer (some ⟨b4, 0, none⟩))))] (pEq (.pointer (some ⟨b4, ((0 : Int)).toNat * 1, none⟩))) true), some (Ent.mk [(34, (pEq (.pointer (some ⟨b4, ((0 : Int)).toNat * 1, none⟩))))] (pEq (.int .i64 x17)) true), some (Ent.mk [(5, (pEq (.pointer (some ⟨b4, 0, none⟩))))] (pEq (.pointer (some ⟨b4, ((1 : Int)).toNat * 1, none⟩))) true), some (Ent.mk [(36, (pEq (.pointer (some ⟨b4, ((1 : Int)).toNat * 1, none⟩))))] (pEq (.int .i64 x18)) true), some (Ent.mk [(5, (pEq (.pointer (some ⟨b4, 0, none⟩))))] (pEq (.pointer (some ⟨b4, ((2 : Int)).toNat * 1, none⟩))) true), some (Ent.mk [(38, (pEq (.pointer (some ⟨b4, ((2 : Int)).toNat * 1, none⟩))))] (pEq (.int .i64 x19)) true), some (Ent.mk [(5, (pEq (.pointer (some ⟨b4, 0, none⟩))))] (pEq (.pointer (some ⟨b4, ((3 : Int)).toNat * 1, none⟩))) true), some (Ent.mk [(40, (pEq (.pointer (some ⟨b4, ((3 : Int)).toNat * 1, none⟩))))] (pEq (.int .i64 x20)) true), some (Ent.mk [(33, (pEq (.string x16))), (35, (pEq (.int .i64 x17))), (37, (pEq (.int .i64 x18))), (39, (pEq (.int .i64 x19))), (41, (pEq (.int .i64 x20)))] (pAgg (cGBand (GBand.mk x16 x17 x18 x19 x20))) true), some (Ent.mk [] (pEq (.pointer (some ⟨b21, 0, none⟩))) true)]) (Γc := []) 12 rfl rfl rfl (by kernel_rfl) ⟨.inr ⟨(OpJ.w (J_move rfl (Opd.tmp rfl))), ⟨rfl, trivial⟩, rfl, rfl⟩, ⟨.inr ⟨(OpJ.w (J_idx rfl Tryd.underlying79 sz9 (Opd.tmp rfl) Opd.con hx16)), ⟨rfl, trivial⟩, rfl, rfl⟩, ⟨.inr ⟨(OpJ.w (J_load rfl Tryd.isAgg9 (Opd.tmp rfl))), ⟨rfl, trivial⟩, rfl, rfl⟩, ⟨.inr ⟨(OpJ.w (J_ownIdx rfl Tryd.underlying84 sz2 (Opd.tmp rfl) Opd.con hx17)), ⟨rfl, trivial⟩, rfl, rfl⟩, ⟨.inr ⟨(W_load (i := 0) rfl Tryd.isAgg2 (Opd.tmp rfl) rfl (cArr_at hx17)), ⟨rfl, trivial⟩, rfl, rfl⟩, ⟨.inr ⟨(OpJ.w (J_ownIdx rfl Tryd.underlying84 sz2 (Opd.tmp rfl) Opd.con hx18)), ⟨rfl, trivial⟩, rfl, rfl⟩, ⟨.inr ⟨(W_load (i := 0) rfl Tryd.isAgg2 (Opd.tmp rfl) rfl (cArr_at hx18)), ⟨rfl, trivial⟩, rfl, rfl⟩, ⟨.inr ⟨(OpJ.w (J_ownIdx rfl Tryd.underlying84 sz2 (Opd.tmp rfl) Opd.con hx19)), ⟨rfl, trivial⟩, rfl, rfl⟩, ⟨.inr ⟨(W_load (i := 0) rfl Tryd.isAgg2 (Opd.tmp rfl) rfl (cArr_at hx19)), ⟨rfl, trivial⟩, rfl, rfl⟩, ⟨.inr ⟨(OpJ.w (J_ownIdx rfl Tryd.underlying84 sz2 (Opd.tmp rfl) Opd.con hx20)), ⟨rfl, trivial⟩, rfl, rfl⟩, ⟨.inr ⟨(W_load (i := 0) rfl Tryd.isAgg2 (Opd.tmp rfl) rfl (cArr_at hx20)), ⟨rfl, trivial⟩, rfl, rfl⟩, ⟨.inr ⟨(OpJ.w (J_build (qss := [(0, cS x16), (1, (cK .i64) x17), (2, (cK .i64) x18), (3, (cK .i64) x19), (4, (cK .i64) x20)]) rfl bl52 bz52o (Parts.cons (Part.one (Opd.tmp rfl) OneC.str) (Parts.cons (Part.one (Opd.tmp rfl) OneC.int) (Parts.cons (Part.one (Opd.tmp rfl) OneC.int) (Parts.cons (Part.one (Opd.tmp rfl) OneC.int) (Parts.cons (Part.one (Opd.tmp rfl) OneC.int) Parts.nil))))) rfl)), ⟨rfl, rfl, rfl, rfl, rfl, trivial⟩, rfl, rfl⟩, trivial⟩⟩⟩⟩⟩⟩⟩⟩⟩⟩⟩⟩ rfl rfl trivial (fun _ => M_alloc rfl zero52) (fun b21 => ⟨rfl, ⟨rfl, ⟨rfl, ⟨rfl, ⟨rfl, ⟨rfl, ⟨rfl, ⟨rfl, ⟨rfl, ⟨rfl, ⟨rfl, ⟨rfl, trivial⟩⟩⟩⟩⟩⟩⟩⟩⟩⟩⟩⟩) (fun b21 => rfl) rfl fun b21 => ?_
      refine RD.fin (es := [Ent.mk [(4, (pSl 1 cS x2))] (pSl 1 cS x2) true, Ent.mk [(31, (pSl 1 cS x2))] (pPtr (cS x16)) true, Ent.mk [(32, (pPtr (cS x16)))] (pEq (.string x16)) true, Ent.mk [(5, (pEq (.pointer (some ⟨b4, 0, none⟩))))] (pEq (.pointer (some ⟨b4, ((0 : Int)).toNat * 1, none⟩))) true, Ent.mk [(34, (pEq (.pointer (some ⟨b4, ((0 : Int)).toNat * 1, none⟩))))] (pEq (.int .i64 x17)) true, Ent.mk [(5, (pEq (.pointer (some ⟨b4, 0, none⟩))))] (pEq (.pointer (some ⟨b4, ((1 : Int)).toNat * 1, none⟩))) true, Ent.mk [(36, (pEq (.pointer (some ⟨b4, ((1 : Int)).toNat * 1, none⟩))))] (pEq (.int .i64 x18)) true, Ent.mk [(5, (pEq (.pointer (some ⟨b4, 0, none⟩))))] (pEq (.pointer (some ⟨b4, ((2 : Int)).toNat * 1, none⟩))) true, Ent.mk [(38, (pEq (.pointer (some ⟨b4, ((2 : Int)).toNat * 1, none⟩))))] (pEq (.int .i64 x19)) true, Ent.mk [(5, (pEq (.pointer (some ⟨b4, 0, none⟩))))] (pEq (.pointer (some ⟨b4, ((3 : Int)).toNat * 1, none⟩))) true, Ent.mk [(40, (pEq (.pointer (some ⟨b4, ((3 : Int)).toNat * 1, none⟩))))] (pEq (.int .i64 x20)) true, Ent.mk [(33, (pEq (.string x16))), (35, (pEq (.int .i64 x17))), (37, (pEq (.int .i64 x18))), (39, (pEq (.int .i64 x19))), (41, (pEq (.int .i64 x20)))] (pAgg (cGBand (GBand.mk x16 x17 x18 x19 x20))) true, Ent.mk [] (pEq (.pointer (some ⟨b21, 0, none⟩))) true]) (done := [12]) hD ⟨.inr ⟨(OpJ.w (J_move rfl (Opd.tmp rfl))), ⟨rfl, trivial⟩, rfl, rfl⟩, ⟨.inr ⟨(OpJ.w (J_idx rfl Tryd.underlying79 sz9 (Opd.tmp rfl) Opd.con hx16)), ⟨rfl, trivial⟩, rfl, rfl⟩, ⟨.inr ⟨(OpJ.w (J_load rfl Tryd.isAgg9 (Opd.tmp rfl))), ⟨rfl, trivial⟩, rfl, rfl⟩, ⟨.inr ⟨(OpJ.w (J_ownIdx rfl Tryd.underlying84 sz2 (Opd.tmp rfl) Opd.con hx17)), ⟨rfl, trivial⟩, rfl, rfl⟩, ⟨.inr ⟨(W_load (i := 1) rfl Tryd.isAgg2 (Opd.tmp rfl) rfl (cArr_at hx17)), ⟨rfl, trivial⟩, rfl, rfl⟩, ⟨.inr ⟨(OpJ.w (J_ownIdx rfl Tryd.underlying84 sz2 (Opd.tmp rfl) Opd.con hx18)), ⟨rfl, trivial⟩, rfl, rfl⟩, ⟨.inr ⟨(W_load (i := 1) rfl Tryd.isAgg2 (Opd.tmp rfl) rfl (cArr_at hx18)), ⟨rfl, trivial⟩, rfl, rfl⟩, ⟨.inr ⟨(OpJ.w (J_ownIdx rfl Tryd.underlying84 sz2 (Opd.tmp rfl) Opd.con hx19)), ⟨rfl, trivial⟩, rfl, rfl⟩, ⟨.inr ⟨(W_load (i := 1) rfl Tryd.isAgg2 (Opd.tmp rfl) rfl (cArr_at hx19)), ⟨rfl, trivial⟩, rfl, rfl⟩, ⟨.inr ⟨(OpJ.w (J_ownIdx rfl Tryd.underlying84 sz2 (Opd.tmp rfl) Opd.con hx20)), ⟨rfl, trivial⟩, rfl, rfl⟩, ⟨.inr ⟨(W_load (i := 1) rfl Tryd.isAgg2 (Opd.tmp rfl) rfl (cArr_at hx20)), ⟨rfl, trivial⟩, rfl, rfl⟩, ⟨.inr ⟨(OpJ.w (J_build (qss := [(0, cS x16), (1, (cK .i64) x17), (2, (cK .i64) x18), (3, (cK .i64) x19), (4, (cK .i64) x20)]) rfl bl52 bz52o (Parts.cons (Part.one (Opd.tmp rfl) OneC.str) (Parts.cons (Part.one (Opd.tmp rfl) OneC.int) (Parts.cons (Part.one (Opd.tmp rfl) OneC.int) (Parts.cons (Part.one (Opd.tmp rfl) OneC.int) (Parts.cons (Part.one (Opd.tmp rfl) OneC.int) Parts.nil))))) rfl)), ⟨rfl, rfl, rfl, rfl, rfl, trivial⟩, rfl, rfl⟩, ⟨.inl rfl, trivial⟩⟩⟩⟩⟩⟩⟩⟩⟩⟩⟩⟩⟩ ?_
      refine RegL.stepN (γ := Unit) (p := fun _ => pAny) (Ω' := fun _ => [oBlk b21 [(pEq (.string (GBand.mk x16 x17 x18 x19 x20).Name)), (pEq (.int .i64 (GBand.mk x16 x17 x18 x19 x20).Low)), (pEq (.int .i64 (GBand.mk x16 x17 x18 x19 x20).High)), (pEq (.int .i64 (GBand.mk x16 x17 x18 x19 x20).Raster)), (pEq (.int .i64 (GBand.mk x16 x17 x18 x19 x20).Duplex))], oBlk b4 ((cArr (cK .i64)) x6), oBlk b1 [(pEq (.string ByteArray.empty)), (pEq (.int .i64 (0 : Int))), (pEq (.int .i64 (0 : Int))), (pEq (.int .i64 (0 : Int))), (pEq (.int .i64 (0 : Int)))]]) rfl rfl (M_storeA rfl sz52 (Opd.tmp rfl) (Opd.tmp rfl) (fun _ _ _ h => ones_of ((OneCs.cons OneC.str (OneCs.cons OneC.int (OneCs.cons OneC.int (OneCs.cons OneC.int (OneCs.cons OneC.int OneCs.nil)))))) h) rfl rfl) fun g22 => ?_
      refine RegL.freeze (s := 8) rfl ?_
      refine RegL.nil ?_
      refine Ct.then_tr ?_
      refine Tr.weak (Γ' := [(0, (pEq (.string s_0))), (2, (pEq (.pointer (some ⟨b1, 0, none⟩)))), (8, (pPtr (cGBand (GBand.mk x16 x17 x18 x19 x20)))), (99999, (pF (fRB 1 0 2 3)))]) ⟨rfl, rfl, rfl, rfl, trivial⟩ ?_
      refine Tr.seq ?_
      refine Tr.seq ?_
      replace h := bind_some h; obtain ⟨x23, hx23, h⟩ := h
      refine Tr.cut (γ := Unit) (Γm := fun g => [(2, (pEq (.pointer (some ⟨b1, 0, none⟩)))), (8, (pPtr (cGBand (GBand.mk x16 x17 x18 x19 x20)))), (51, (pEq (.bool x23))), (99999, (pF (fRB 1 0 2 3)))]) (Ωm := fun g => [oBlk b1 [(pEq (.string ByteArray.empty)), (pEq (.int .i64 (0 : Int))), (pEq (.int .i64 (0 : Int))), (pEq (.int .i64 (0 : Int))), (pEq (.int .i64 (0 : Int)))]]) ?_ (fun g27 => ?_)
      · clear h
        have h := hx23
        clear hx23
        refine Tr.region ?_
        refine RegL.pure (p := (pAgg (cGBand (GBand.mk x16 x17 x18 x19 x20)))) rfl rfl rfl (J_loadA rfl Tryd.isAgg52 sz52 (Opd.tmp rfl) rfl) ?_
        replace h := bind_some h; obtain ⟨x24, hx24, h⟩ := h
        refine RegL.pure (p := (pEq (.bool x24))) rfl rfl rfl (J_call rfl Tryd.call60 (c_impl_ValidBand hx24) (Opds.cons (Opd.tmp rfl) Opds.nil)) ?_
        refine RegL.pure (p := (pEq (.bool (!x24)))) rfl rfl rfl (J_not rfl (Opd.tmp rfl)) ?_
        refine RegL.pure (p := (pEq (.bool (!x24)))) rfl rfl rfl (J_move rfl (Opd.tmp rfl)) ?_
        rcases Bool.eq_false_or_eq_true (!x24) with hc25 | hc25
        · replace h := bif_t hc25 h
          refine RegL.skipG rfl rfl rfl hc25 rfl rfl ?_
          refine RegL.skipG rfl rfl rfl hc25 rfl rfl ?_
          refine RegL.skipG rfl rfl rfl hc25 rfl rfl ?_
          refine RegL.skipG rfl rfl rfl hc25 rfl rfl ?_
          refine RegL.pure (p := (pEq (.bool true))) rfl rfl rfl (J_pick rfl (Opd.tmp rfl) (fun _ => Opd.con) (fun hf => absurd (hc25.symm.trans hf) (by decide))) ?_
          refine RegL.nil ?_
          refine Ct.re (Ω2 := [oBlk b1 [(pEq (.string ByteArray.empty)), (pEq (.int .i64 (0 : Int))), (pEq (.int .i64 (0 : Int))), (pEq (.int .i64 (0 : Int))), (pEq (.int .i64 (0 : Int)))]]) (fun h => SatO.rest h) ?_
          replace h := Option.some.inj h; subst h
          exact Ct.mid () rfl ⟨rfl, rfl, rfl, rfl, trivial⟩
        · replace h := bif_f hc25 h
          refine RegL.pureG (p := (pAgg (cGBand (GBand.mk x16 x17 x18 x19 x20)))) rfl rfl rfl hc25 rfl rfl (J_loadA rfl Tryd.isAgg52 sz52 (Opd.tmp rfl) rfl) ?_
          replace h := bind_some h; obtain ⟨x26, hx26, h⟩ := h
          refine RegL.pureG (p := (pEq (.string x26))) rfl rfl rfl hc25 rfl rfl (J_call rfl Tryd.call31 (c_impl_BandText hx26) (Opds.cons (Opd.tabF (Opd.tmp rfl) 99999 rfl) Opds.nil)) ?_
          refine RegL.pureG (p := (pEq (.string s_0))) rfl rfl rfl hc25 rfl rfl (J_move rfl (Opd.tmp rfl)) ?_
          refine RegL.pureG (p := (pEq (.bool (!(x26.toList == s_0.toList))))) rfl rfl rfl hc25 rfl rfl (J_bin rfl (Opd.tmp rfl) (Opd.tmp rfl) B_sneq) ?_
          refine RegL.pure (p := (pEq (.bool (!(x26.toList == s_0.toList))))) rfl rfl rfl (J_pick rfl (Opd.tmp rfl) (fun hf => absurd (hc25.symm.trans hf) (by decide)) (fun _ => (Opd.tmp rfl))) ?_
          refine RegL.nil ?_
          refine Ct.re (Ω2 := [oBlk b1 [(pEq (.string ByteArray.empty)), (pEq (.int .i64 (0 : Int))), (pEq (.int .i64 (0 : Int))), (pEq (.int .i64 (0 : Int))), (pEq (.int .i64 (0 : Int)))]]) (fun h => SatO.rest h) ?_
          replace h := Option.some.inj h; subst h
          exact Ct.mid () rfl ⟨rfl, rfl, rfl, rfl, trivial⟩
      · clear hx23
        refine Ct.then_tr ?_
        refine Tr.weak (Γ' := [(2, (pEq (.pointer (some ⟨b1, 0, none⟩)))), (8, (pPtr (cGBand (GBand.mk x16 x17 x18 x19 x20)))), (51, (pEq (.bool x23))), (99999, (pF (fRB 1 0 2 3)))]) ⟨rfl, rfl, rfl, rfl, trivial⟩ ?_
        refine Tr.cond (Opd.tmp rfl) (fun hc => ?_) (fun hc => ?_)
        · replace h := bif_t hc h
          refine Tr.seq ?_
          refine Tr.region ?_
          refine RegL.pure (p := (pAgg (cGBand (GBand.mk ByteArray.empty (0 : Int) (0 : Int) (0 : Int) (0 : Int))))) rfl rfl rfl (J_build (qss := []) rfl bl52 bz52o Parts.nil rfl) ?_
          refine RegL.stepN (γ := Unit) (p := fun _ => pAny) (Ω' := fun _ => [oBlk b1 [(pEq (.string (GBand.mk ByteArray.empty (0 : Int) (0 : Int) (0 : Int) (0 : Int)).Name)), (pEq (.int .i64 (GBand.mk ByteArray.empty (0 : Int) (0 : Int) (0 : Int) (0 : Int)).Low)), (pEq (.int .i64 (GBand.mk ByteArray.empty (0 : Int) (0 : Int) (0 : Int) (0 : Int)).High)), (pEq (.int .i64 (GBand.mk ByteArray.empty (0 : Int) (0 : Int) (0 : Int) (0 : Int)).Raster)), (pEq (.int .i64 (GBand.mk ByteArray.empty (0 : Int) (0 : Int) (0 : Int) (0 : Int)).Duplex))]]) rfl rfl (M_storeA rfl sz52 (Opd.tmp rfl) (Opd.tmp rfl) (fun _ _ _ h => ones_of ((OneCs.cons OneC.str (OneCs.cons OneC.int (OneCs.cons OneC.int (OneCs.cons OneC.int (OneCs.cons OneC.int OneCs.nil)))))) h) rfl rfl) fun g28 => ?_
          refine RegL.pure (p := (pEq (.bool false))) rfl rfl rfl (J_assign rfl Opd.con) ?_
          refine RegL.nil ?_
          refine Ct.then_tr ?_
          refine Tr.weak (Γ' := [(2, (pEq (.pointer (some ⟨b1, 0, none⟩)))), (3, (pEq (.bool false))), (99999, (pF (fRB 1 0 2 3)))]) ⟨rfl, rfl, rfl, trivial⟩ ?_
          refine Tr.ret ?_
          refine Ct.then_ret ?_
          replace h := Option.some.inj h; subst h
          exact Ct.retH2 (Ωx := [oBlk b1 [(pEq (.string (GBand.mk ByteArray.empty (0 : Int) (0 : Int) (0 : Int) (0 : Int)).Name)), (pEq (.int .i64 (GBand.mk ByteArray.empty (0 : Int) (0 : Int) (0 : Int) (0 : Int)).Low)), (pEq (.int .i64 (GBand.mk ByteArray.empty (0 : Int) (0 : Int) (0 : Int) (0 : Int)).High)), (pEq (.int .i64 (GBand.mk ByteArray.empty (0 : Int) (0 : Int) (0 : Int) (0 : Int)).Raster)), (pEq (.int .i64 (GBand.mk ByteArray.empty (0 : Int) (0 : Int) (0 : Int) (0 : Int)).Duplex))]]) () rfl (RvOk.cellA (i := 0) Tryd.isAgg52 sz52 rfl rfl rfl) (RvOk.tmp rfl) rfl rfl
        · replace h := bif_f hc h
          refine Tr.skip ?_
          refine Ct.then_tr ?_
          refine Tr.weak (Γ' := [(2, (pEq (.pointer (some ⟨b1, 0, none⟩)))), (8, (pPtr (cGBand (GBand.mk x16 x17 x18 x19 x20)))), (99999, (pF (fRB 1 0 2 3)))]) ⟨rfl, rfl, rfl, trivial⟩ ?_
          refine Tr.seq ?_
          refine Tr.region ?_
          refine RegL.pure (p := (pAgg (cGBand (GBand.mk x16 x17 x18 x19 x20)))) rfl rfl rfl (J_loadA rfl Tryd.isAgg52 sz52 (Opd.tmp rfl) rfl) ?_
          refine RegL.stepN (γ := Unit) (p := fun _ => pAny) (Ω' := fun _ => [oBlk b1 [(pEq (.string (GBand.mk x16 x17 x18 x19 x20).Name)), (pEq (.int .i64 (GBand.mk x16 x17 x18 x19 x20).Low)), (pEq (.int .i64 (GBand.mk x16 x17 x18 x19 x20).High)), (pEq (.int .i64 (GBand.mk x16 x17 x18 x19 x20).Raster)), (pEq (.int .i64 (GBand.mk x16 x17 x18 x19 x20).Duplex))]]) rfl rfl (M_storeA rfl sz52 (Opd.tmp rfl) (Opd.tmp rfl) (fun _ _ _ h => ones_of ((OneCs.cons OneC.str (OneCs.cons OneC.int (OneCs.cons OneC.int (OneCs.cons OneC.int (OneCs.cons OneC.int OneCs.nil)))))) h) rfl rfl) fun g29 => ?_
          refine RegL.pure (p := (pEq (.bool true))) rfl rfl rfl (J_assign rfl Opd.con) ?_
          refine RegL.nil ?_
          refine Ct.then_tr ?_
          refine Tr.weak (Γ' := [(2, (pEq (.pointer (some ⟨b1, 0, none⟩)))), (3, (pEq (.bool true))), (99999, (pF (fRB 1 0 2 3)))]) ⟨rfl, rfl, rfl, trivial⟩ ?_
          refine Tr.ret ?_
          replace h := Option.some.inj h; subst h
          exact Ct.retH2 (Ωx := [oBlk b1 [(pEq (.string (GBand.mk x16 x17 x18 x19 x20).Name)), (pEq (.int .i64 (GBand.mk x16 x17 x18 x19 x20).Low)), (pEq (.int .i64 (GBand.mk x16 x17 x18 x19 x20).High)), (pEq (.int .i64 (GBand.mk x16 x17 x18 x19 x20).Raster)), (pEq (.int .i64 (GBand.mk x16 x17 x18 x19 x20).Duplex))]]) () rfl (RvOk.cellA (i := 0) Tryd.isAgg52 sz52 rfl rfl rfl) (RvOk.tmp rfl) rfl rfl

theorem c_laws_eqBand {a_0 : GBand} {b_1 : GBand} {r : Bool} (h : m_laws_eqBand a_0 b_1 = some r) : CallJ Tryd.prog 34 [(pAgg (cGBand a_0)), (pAgg (cGBand b_1))] (pEq (.bool r)) := by
  unfold m_laws_eqBand at h
  refine CallJ.enterH Tryd.func34 rfl Tryd.ntmps34 rfl fun W I0 H => ?_
  refine Tr.weak (Γ' := [(0, (pAgg (cGBand a_0))), (1, (pAgg (cGBand b_1)))]) ⟨rfl, rfl, trivial⟩ ?_
  refine Tr.seq ?_
  refine Tr.region ?_
  refine RegL.pure (p := (pPtr (cGBand a_0))) rfl rfl rfl (J_boxA rfl (Opd.tmp rfl)) ?_
  refine RegL.pure (p := (pPtr (cGBand b_1))) rfl rfl rfl (J_boxA rfl (Opd.tmp rfl)) ?_
  refine RegL.pure (p := (pEq (.bool false))) rfl rfl rfl (J_assign rfl Opd.con) ?_
  refine RegL.nil ?_
  refine Ct.then_tr ?_
  refine Tr.weak (Γ' := [(2, (pPtr (cGBand a_0))), (3, (pPtr (cGBand b_1)))]) ⟨rfl, rfl, trivial⟩ ?_
  refine Tr.seq ?_
  refine Tr.seq ?_
  refine Tr.region ?_
  refine RegL.pure (p := (pPtr (cS a_0.Name))) rfl rfl rfl (J_fieldAddr rfl Tryd.underlying52 rfl sz9 (by decide) (Opd.tmp rfl) rfl) ?_
  refine RegL.pure (p := (pEq (.string a_0.Name))) rfl rfl rfl (J_load rfl Tryd.isAgg9 (Opd.tmp rfl)) ?_
  refine RegL.pure (p := (pPtr (cS b_1.Name))) rfl rfl rfl (J_fieldAddr rfl Tryd.underlying52 rfl sz9 (by decide) (Opd.tmp rfl) rfl) ?_
  refine RegL.pure (p := (pEq (.string b_1.Name))) rfl rfl rfl (J_load rfl Tryd.isAgg9 (Opd.tmp rfl)) ?_
  refine RegL.pure (p := (pEq (.bool (!(a_0.Name.toList == b_1.Name.toList))))) rfl rfl rfl (J_bin rfl (Opd.tmp rfl) (Opd.tmp rfl) B_sneq) ?_
  refine RegL.nil ?_
  refine Ct.then_tr ?_
  refine Tr.weak (Γ' := [(2, (pPtr (cGBand a_0))), (3, (pPtr (cGBand b_1))), (9, (pEq (.bool (!(a_0.Name.toList == b_1.Name.toList)))))]) ⟨rfl, rfl, rfl, trivial⟩ ?_
  refine Tr.cond (Opd.tmp rfl) (fun hc => ?_) (fun hc => ?_)
  · replace h := bif_t hc h
    refine Tr.seq ?_
    refine Tr.region ?_
    refine RegL.pure (p := (pEq (.bool false))) rfl rfl rfl (J_assign rfl Opd.con) ?_
    refine RegL.nil ?_
    refine Ct.then_tr ?_
    refine Tr.weak (Γ' := [(4, (pEq (.bool false)))]) ⟨rfl, trivial⟩ ?_
    refine Tr.ret ?_
    refine Ct.then_ret ?_
    replace h := Option.some.inj h; subst h
    exact Ct.retH1 (Ωx := []) () rfl (RvOk.tmp rfl) rfl
  · replace h := bif_f hc h
    refine Tr.skip ?_
    refine Ct.then_tr ?_
    refine Tr.weak (Γ' := [(2, (pPtr (cGBand a_0))), (3, (pPtr (cGBand b_1)))]) ⟨rfl, rfl, trivial⟩ ?_
    refine Tr.seq ?_
    refine Tr.seq ?_
    refine Tr.region ?_
    refine RegL.pure (p := (pPtr ((cK .i64) a_0.Low))) rfl rfl rfl (J_fieldAddr rfl Tryd.underlying52 rfl sz2 (by decide) (Opd.tmp rfl) rfl) ?_
    refine RegL.pure (p := (pEq (.int .i64 a_0.Low))) rfl rfl rfl (J_load rfl Tryd.isAgg2 (Opd.tmp rfl)) ?_
    refine RegL.pure (p := (pPtr ((cK .i64) b_1.Low))) rfl rfl rfl (J_fieldAddr rfl Tryd.underlying52 rfl sz2 (by decide) (Opd.tmp rfl) rfl) ?_
    refine RegL.pure (p := (pEq (.int .i64 b_1.Low))) rfl rfl rfl (J_load rfl Tryd.isAgg2 (Opd.tmp rfl)) ?_
    refine RegL.pure (p := (pEq (.bool (a_0.Low != b_1.Low)))) rfl rfl rfl (J_bin rfl (Opd.tmp rfl) (Opd.tmp rfl) B_neq) ?_
    refine RegL.nil ?_
    refine Ct.then_tr ?_
    refine Tr.weak (Γ' := [(2, (pPtr (cGBand a_0))), (3, (pPtr (cGBand b_1))), (14, (pEq (.bool (a_0.Low != b_1.Low))))]) ⟨rfl, rfl, rfl, trivial⟩ ?_
    refine Tr.cond (Opd.tmp rfl) (fun hc => ?_) (fun hc => ?_)
    · replace h := bif_t hc h
      refine Tr.seq ?_
      refine Tr.region ?_
      refine RegL.pure (p := (pEq (.bool false))) rfl rfl rfl (J_assign rfl Opd.con) ?_
      refine RegL.nil ?_
      refine Ct.then_tr ?_
      refine Tr.weak (Γ' := [(4, (pEq (.bool false)))]) ⟨rfl, trivial⟩ ?_
      refine Tr.ret ?_
      refine Ct.then_ret ?_
      replace h := Option.some.inj h; subst h
      exact Ct.retH1 (Ωx := []) () rfl (RvOk.tmp rfl) rfl
    · replace h := bif_f hc h
      refine Tr.skip ?_
      refine Ct.then_tr ?_
      refine Tr.weak (Γ' := [(2, (pPtr (cGBand a_0))), (3, (pPtr (cGBand b_1)))]) ⟨rfl, rfl, trivial⟩ ?_
      refine Tr.seq ?_
      refine Tr.seq ?_
      refine Tr.region ?_
      refine RegL.pure (p := (pPtr ((cK .i64) a_0.High))) rfl rfl rfl (J_fieldAddr rfl Tryd.underlying52 rfl sz2 (by decide) (Opd.tmp rfl) rfl) ?_
      refine RegL.pure (p := (pEq (.int .i64 a_0.High))) rfl rfl rfl (J_load rfl Tryd.isAgg2 (Opd.tmp rfl)) ?_
      refine RegL.pure (p := (pPtr ((cK .i64) b_1.High))) rfl rfl rfl (J_fieldAddr rfl Tryd.underlying52 rfl sz2 (by decide) (Opd.tmp rfl) rfl) ?_
      refine RegL.pure (p := (pEq (.int .i64 b_1.High))) rfl rfl rfl (J_load rfl Tryd.isAgg2 (Opd.tmp rfl)) ?_
      refine RegL.pure (p := (pEq (.bool (a_0.High != b_1.High)))) rfl rfl rfl (J_bin rfl (Opd.tmp rfl) (Opd.tmp rfl) B_neq) ?_
      refine RegL.nil ?_
      refine Ct.then_tr ?_
      refine Tr.weak (Γ' := [(2, (pPtr (cGBand a_0))), (3, (pPtr (cGBand b_1))), (19, (pEq (.bool (a_0.High != b_1.High))))]) ⟨rfl, rfl, rfl, trivial⟩ ?_
      refine Tr.cond (Opd.tmp rfl) (fun hc => ?_) (fun hc => ?_)
      · replace h := bif_t hc h
        refine Tr.seq ?_
        refine Tr.region ?_
        refine RegL.pure (p := (pEq (.bool false))) rfl rfl rfl (J_assign rfl Opd.con) ?_
        refine RegL.nil ?_
        refine Ct.then_tr ?_
        refine Tr.weak (Γ' := [(4, (pEq (.bool false)))]) ⟨rfl, trivial⟩ ?_
        refine Tr.ret ?_
        refine Ct.then_ret ?_
        replace h := Option.some.inj h; subst h
        exact Ct.retH1 (Ωx := []) () rfl (RvOk.tmp rfl) rfl
      · replace h := bif_f hc h
        refine Tr.skip ?_
        refine Ct.then_tr ?_
        refine Tr.weak (Γ' := [(2, (pPtr (cGBand a_0))), (3, (pPtr (cGBand b_1)))]) ⟨rfl, rfl, trivial⟩ ?_
        refine Tr.seq ?_
        refine Tr.seq ?_
        refine Tr.region ?_
        refine RegL.pure (p := (pPtr ((cK .i64) a_0.Raster))) rfl rfl rfl (J_fieldAddr rfl Tryd.underlying52 rfl sz2 (by decide) (Opd.tmp rfl) rfl) ?_
        refine RegL.pure (p := (pEq (.int .i64 a_0.Raster))) rfl rfl rfl (J_load rfl Tryd.isAgg2 (Opd.tmp rfl)) ?_
        refine RegL.pure (p := (pPtr ((cK .i64) b_1.Raster))) rfl rfl rfl (J_fieldAddr rfl Tryd.underlying52 rfl sz2 (by decide) (Opd.tmp rfl) rfl) ?_
        refine RegL.pure (p := (pEq (.int .i64 b_1.Raster))) rfl rfl rfl (J_load rfl Tryd.isAgg2 (Opd.tmp rfl)) ?_
        refine RegL.pure (p := (pEq (.bool (a_0.Raster != b_1.Raster)))) rfl rfl rfl (J_bin rfl (Opd.tmp rfl) (Opd.tmp rfl) B_neq) ?_
        refine RegL.nil ?_
        refine Ct.then_tr ?_
        refine Tr.weak (Γ' := [(2, (pPtr (cGBand a_0))), (3, (pPtr (cGBand b_1))), (24, (pEq (.bool (a_0.Raster != b_1.Raster))))]) ⟨rfl, rfl, rfl, trivial⟩ ?_
        refine Tr.cond (Opd.tmp rfl) (fun hc => ?_) (fun hc => ?_)
        · replace h := bif_t hc h
          refine Tr.seq ?_
          refine Tr.region ?_
          refine RegL.pure (p := (pEq (.bool false))) rfl rfl rfl (J_assign rfl Opd.con) ?_
          refine RegL.nil ?_
          refine Ct.then_tr ?_
          refine Tr.weak (Γ' := [(4, (pEq (.bool false)))]) ⟨rfl, trivial⟩ ?_
          refine Tr.ret ?_
          refine Ct.then_ret ?_
          replace h := Option.some.inj h; subst h
          exact Ct.retH1 (Ωx := []) () rfl (RvOk.tmp rfl) rfl
        · replace h := bif_f hc h
          refine Tr.skip ?_
          refine Ct.then_tr ?_
          refine Tr.weak (Γ' := [(2, (pPtr (cGBand a_0))), (3, (pPtr (cGBand b_1)))]) ⟨rfl, rfl, trivial⟩ ?_
          refine Tr.seq ?_
          refine Tr.seq ?_
          refine Tr.region ?_
          refine RegL.pure (p := (pPtr ((cK .i64) a_0.Duplex))) rfl rfl rfl (J_fieldAddr rfl Tryd.underlying52 rfl sz2 (by decide) (Opd.tmp rfl) rfl) ?_
          refine RegL.pure (p := (pEq (.int .i64 a_0.Duplex))) rfl rfl rfl (J_load rfl Tryd.isAgg2 (Opd.tmp rfl)) ?_
          refine RegL.pure (p := (pPtr ((cK .i64) b_1.Duplex))) rfl rfl rfl (J_fieldAddr rfl Tryd.underlying52 rfl sz2 (by decide) (Opd.tmp rfl) rfl) ?_
          refine RegL.pure (p := (pEq (.int .i64 b_1.Duplex))) rfl rfl rfl (J_load rfl Tryd.isAgg2 (Opd.tmp rfl)) ?_
          refine RegL.pure (p := (pEq (.bool (a_0.Duplex != b_1.Duplex)))) rfl rfl rfl (J_bin rfl (Opd.tmp rfl) (Opd.tmp rfl) B_neq) ?_
          refine RegL.nil ?_
          refine Ct.then_tr ?_
          refine Tr.weak (Γ' := [(29, (pEq (.bool (a_0.Duplex != b_1.Duplex))))]) ⟨rfl, trivial⟩ ?_
          refine Tr.cond (Opd.tmp rfl) (fun hc => ?_) (fun hc => ?_)
          · replace h := bif_t hc h
            refine Tr.seq ?_
            refine Tr.region ?_
            refine RegL.pure (p := (pEq (.bool false))) rfl rfl rfl (J_assign rfl Opd.con) ?_
            refine RegL.nil ?_
            refine Ct.then_tr ?_
            refine Tr.weak (Γ' := [(4, (pEq (.bool false)))]) ⟨rfl, trivial⟩ ?_
            refine Tr.ret ?_
            refine Ct.then_ret ?_
            replace h := Option.some.inj h; subst h
            exact Ct.retH1 (Ωx := []) () rfl (RvOk.tmp rfl) rfl
          · replace h := bif_f hc h
            refine Tr.skip ?_
            refine Ct.then_tr ?_
            refine Tr.weak (Γ' := []) trivial ?_
            refine Tr.seq ?_
            refine Tr.region ?_
            refine RegL.pure (p := (pEq (.bool true))) rfl rfl rfl (J_assign rfl Opd.con) ?_
            refine RegL.nil ?_
            refine Ct.then_tr ?_
            refine Tr.weak (Γ' := [(4, (pEq (.bool true)))]) ⟨rfl, trivial⟩ ?_
            refine Tr.ret ?_
            replace h := Option.some.inj h; subst h
            exact Ct.retH1 (Ωx := []) () rfl (RvOk.tmp rfl) rfl

theorem c_laws_FnExactReadBand {aS_0 : ByteArray} {r : Bool} (h : m_laws_FnExactReadBand aS_0 = some r) : CallJ Tryd.prog 8 [(pG (pF (fRB 1 0 2 3)) (pEq (.string aS_0)))] (pEq (.bool r)) := by
  unfold m_laws_FnExactReadBand at h
  refine CallJ.enterH Tryd.func8 rfl Tryd.ntmps8 rfl fun W I0 H => ?_
  refine Tr.tabF (s := 0) (k := 99999) rfl ?_; refine Tr.weak (Γ' := [(0, (pEq (.string aS_0))), (99999, (pF (fRB 1 0 2 3)))]) ⟨rfl, rfl, trivial⟩ ?_
  refine Tr.seq ?_
  refine Tr.region ?_
  refine RegL.pure (p := (pEq (.bool false))) rfl rfl rfl (J_assign rfl Opd.con) ?_
  refine RegL.nil ?_
  refine Ct.then_tr ?_
  refine Tr.weak (Γ' := [(0, (pEq (.string aS_0))), (99999, (pF (fRB 1 0 2 3)))]) ⟨rfl, rfl, trivial⟩ ?_
  refine Tr.seq ?_
  refine Tr.seq ?_
  refine Tr.region ?_
  refine RegL.pure (p := (pEq (.string aS_0))) rfl rfl rfl (J_move rfl (Opd.tmp rfl)) ?_
  refine RegL.pure (p := (pEq (.int .i64 (aS_0.size : Int)))) rfl rfl rfl (J_slen rfl Tryd.underlying9 (Opd.tmp rfl) rfl) ?_
  refine RegL.pure (p := (pEq (.bool (decide ((1048576 : Int) < (aS_0.size : Int)))))) rfl rfl rfl (J_bin rfl (Opd.tmp rfl) Opd.con B_gtr) ?_
  refine RegL.nil ?_
  refine Ct.then_tr ?_
  refine Tr.weak (Γ' := [(0, (pEq (.string aS_0))), (9, (pEq (.bool (decide ((1048576 : Int) < (aS_0.size : Int)))))), (99999, (pF (fRB 1 0 2 3)))]) ⟨rfl, rfl, rfl, trivial⟩ ?_
  refine Tr.cond (Opd.tmp rfl) (fun hc => ?_) (fun hc => ?_)
  · replace h := bif_t hc h
    refine Tr.seq ?_
    refine Tr.region ?_
    refine RegL.pure (p := (pEq (.bool true))) rfl rfl rfl (J_assign rfl Opd.con) ?_
    refine RegL.nil ?_
    refine Ct.then_tr ?_
    refine Tr.weak (Γ' := [(2, (pEq (.bool true))), (99999, (pF (fRB 1 0 2 3)))]) ⟨rfl, rfl, trivial⟩ ?_
    refine Tr.ret ?_
    refine Ct.then_ret ?_
    replace h := Option.some.inj h; subst h
    exact Ct.retH1 (Ωx := []) () rfl (RvOk.tmp rfl) rfl
  · replace h := bif_f hc h
    refine Tr.skip ?_
    refine Ct.then_tr ?_
    refine Tr.weak (Γ' := [(0, (pEq (.string aS_0))), (99999, (pF (fRB 1 0 2 3)))]) ⟨rfl, rfl, trivial⟩ ?_
    refine Tr.seq ?_
    refine Tr.region ?_
    refine RegL.pure (p := (pEq (.string aS_0))) rfl rfl rfl (J_move rfl (Opd.tmp rfl)) ?_
    replace h := bind_some h; obtain ⟨x1, hx1, h⟩ := h
    refine RegL.pure (p := (pTup [(pAgg (cGBand x1.1)), (pEq (.bool x1.2))])) rfl rfl rfl (J_call rfl Tryd.call32 (c_spec_ReadBand hx1) (Opds.cons (Opd.tmp rfl) Opds.nil)) ?_
    refine RegL.pure (p := (pTup [(pAgg (cGBand x1.1)), (pEq (.bool x1.2))])) rfl rfl rfl (J_move rfl (Opd.tmp rfl)) ?_
    refine RegL.pure (p := (pAgg (cGBand x1.1))) rfl rfl rfl (J_extract rfl (Opd.tmp rfl) rfl) ?_
    refine RegL.pure (p := (pEq (.bool x1.2))) rfl rfl rfl (J_extract rfl (Opd.tmp rfl) rfl) ?_
    refine RegL.step (γ := Nat) (p := fun b => pEq (.pointer (some ⟨b, 0, none⟩))) (Ω' := fun b => [oBlk b [(pEq (.string ByteArray.empty)), (pEq (.int .i64 (0 : Int))), (pEq (.int .i64 (0 : Int))), (pEq (.int .i64 (0 : Int))), (pEq (.int .i64 (0 : Int)))]]) rfl rfl rfl (M_alloc rfl zero52) fun b2 => ?_
    refine RegL.stepN (γ := Unit) (p := fun _ => pAny) (Ω' := fun _ => [oBlk b2 [(pEq (.string x1.1.Name)), (pEq (.int .i64 x1.1.Low)), (pEq (.int .i64 x1.1.High)), (pEq (.int .i64 x1.1.Raster)), (pEq (.int .i64 x1.1.Duplex))]]) rfl rfl (M_storeA rfl sz52 (Opd.tmp rfl) (Opd.tmp rfl) (fun _ _ _ h => ones_of ((OneCs.cons OneC.str (OneCs.cons OneC.int (OneCs.cons OneC.int (OneCs.cons OneC.int (OneCs.cons OneC.int OneCs.nil)))))) h) rfl rfl) fun g3 => ?_
    refine RegL.freeze (s := 3) rfl ?_
    refine RegL.pure (p := (pEq (.bool x1.2))) rfl rfl rfl (J_assign rfl (Opd.tmp rfl)) ?_
    refine RegL.nil ?_
    refine Ct.then_tr ?_
    refine Tr.weak (Γ' := [(0, (pEq (.string aS_0))), (3, (pPtr (cGBand x1.1))), (4, (pEq (.bool x1.2))), (99999, (pF (fRB 1 0 2 3)))]) ⟨rfl, rfl, rfl, rfl, trivial⟩ ?_
    refine Tr.seq ?_
    refine Tr.region ?_
    refine RegL.pure (p := (pEq (.string aS_0))) rfl rfl rfl (J_move rfl (Opd.tmp rfl)) ?_
    replace h := bind_some h; obtain ⟨x4, hx4, h⟩ := h
    refine RegL.pure (p := (pTup [(pAgg (cGBand x4.1)), (pEq (.bool x4.2))])) rfl rfl rfl (J_call rfl Tryd.call33 (c_impl_ReadBand hx4) (Opds.cons (Opd.tabF (Opd.tmp rfl) 99999 rfl) Opds.nil)) ?_
    refine RegL.pure (p := (pTup [(pAgg (cGBand x4.1)), (pEq (.bool x4.2))])) rfl rfl rfl (J_move rfl (Opd.tmp rfl)) ?_
    refine RegL.pure (p := (pAgg (cGBand x4.1))) rfl rfl rfl (J_extract rfl (Opd.tmp rfl) rfl) ?_
    refine RegL.pure (p := (pEq (.bool x4.2))) rfl rfl rfl (J_extract rfl (Opd.tmp rfl) rfl) ?_
    refine RegL.step (γ := Nat) (p := fun b => pEq (.pointer (some ⟨b, 0, none⟩))) (Ω' := fun b => [oBlk b [(pEq (.string ByteArray.empty)), (pEq (.int .i64 (0 : Int))), (pEq (.int .i64 (0 : Int))), (pEq (.int .i64 (0 : Int))), (pEq (.int .i64 (0 : Int)))]]) rfl rfl rfl (M_alloc rfl zero52) fun b5 => ?_
    refine RegL.stepN (γ := Unit) (p := fun _ => pAny) (Ω' := fun _ => [oBlk b5 [(pEq (.string x4.1.Name)), (pEq (.int .i64 x4.1.Low)), (pEq (.int .i64 x4.1.High)), (pEq (.int .i64 x4.1.Raster)), (pEq (.int .i64 x4.1.Duplex))]]) rfl rfl (M_storeA rfl sz52 (Opd.tmp rfl) (Opd.tmp rfl) (fun _ _ _ h => ones_of ((OneCs.cons OneC.str (OneCs.cons OneC.int (OneCs.cons OneC.int (OneCs.cons OneC.int (OneCs.cons OneC.int OneCs.nil)))))) h) rfl rfl) fun g6 => ?_
    refine RegL.freeze (s := 5) rfl ?_
    refine RegL.pure (p := (pEq (.bool x4.2))) rfl rfl rfl (J_assign rfl (Opd.tmp rfl)) ?_
    refine RegL.nil ?_
    refine Ct.then_tr ?_
    refine Tr.weak (Γ' := [(3, (pPtr (cGBand x1.1))), (4, (pEq (.bool x1.2))), (5, (pPtr (cGBand x4.1))), (6, (pEq (.bool x4.2))), (99999, (pF (fRB 1 0 2 3)))]) ⟨rfl, rfl, rfl, rfl, rfl, trivial⟩ ?_
    refine Tr.seq ?_
    refine Tr.seq ?_
    replace h := bind_some h; obtain ⟨x7, hx7, h⟩ := h
    refine Tr.cut (γ := Unit) (Γm := fun g => [(28, (pEq (.bool x7))), (99999, (pF (fRB 1 0 2 3)))]) (Ωm := fun g => []) ?_ (fun g10 => ?_)
    · clear h
      have h := hx7
      clear hx7
      refine Tr.region ?_
      refine RegL.pure (p := (pAgg (cGBand x4.1))) rfl rfl rfl (J_loadA rfl Tryd.isAgg52 sz52 (Opd.tmp rfl) rfl) ?_
      refine RegL.pure (p := (pAgg (cGBand x1.1))) rfl rfl rfl (J_loadA rfl Tryd.isAgg52 sz52 (Opd.tmp rfl) rfl) ?_
      replace h := bind_some h; obtain ⟨x8, hx8, h⟩ := h
      refine RegL.pure (p := (pEq (.bool x8))) rfl rfl rfl (J_call rfl Tryd.call34 (c_laws_eqBand hx8) (Opds.cons (Opd.tmp rfl) (Opds.cons (Opd.tmp rfl) Opds.nil))) ?_
      refine RegL.pure (p := (pEq (.bool (!x8)))) rfl rfl rfl (J_not rfl (Opd.tmp rfl)) ?_
      refine RegL.pure (p := (pEq (.bool (!x8)))) rfl rfl rfl (J_move rfl (Opd.tmp rfl)) ?_
      rcases Bool.eq_false_or_eq_true (!x8) with hc9 | hc9
      · replace h := bif_t hc9 h
        refine RegL.skipG rfl rfl rfl hc9 rfl rfl ?_
        refine RegL.skipG rfl rfl rfl hc9 rfl rfl ?_
        refine RegL.skipG rfl rfl rfl hc9 rfl rfl ?_
        refine RegL.pure (p := (pEq (.bool true))) rfl rfl rfl (J_pick rfl (Opd.tmp rfl) (fun _ => Opd.con) (fun hf => absurd (hc9.symm.trans hf) (by decide))) ?_
        refine RegL.nil ?_
        replace h := Option.some.inj h; subst h
        exact Ct.mid () rfl ⟨rfl, rfl, trivial⟩
      · replace h := bif_f hc9 h
        refine RegL.pureG (p := (pEq (.bool x4.2))) rfl rfl rfl hc9 rfl rfl (J_move rfl (Opd.tmp rfl)) ?_
        refine RegL.pureG (p := (pEq (.bool x1.2))) rfl rfl rfl hc9 rfl rfl (J_move rfl (Opd.tmp rfl)) ?_
        refine RegL.pureG (p := (pEq (.bool (x4.2 != x1.2)))) rfl rfl rfl hc9 rfl rfl (J_bin rfl (Opd.tmp rfl) (Opd.tmp rfl) (B_bneq Tryd.underlying4)) ?_
        refine RegL.pure (p := (pEq (.bool (x4.2 != x1.2)))) rfl rfl rfl (J_pick rfl (Opd.tmp rfl) (fun hf => absurd (hc9.symm.trans hf) (by decide)) (fun _ => (Opd.tmp rfl))) ?_
        refine RegL.nil ?_
        replace h := Option.some.inj h; subst h
        exact Ct.mid () rfl ⟨rfl, rfl, trivial⟩
    · clear hx7
      refine Ct.then_tr ?_
      refine Tr.weak (Γ' := [(28, (pEq (.bool x7))), (99999, (pF (fRB 1 0 2 3)))]) ⟨rfl, rfl, trivial⟩ ?_
      refine Tr.cond (Opd.tmp rfl) (fun hc => ?_) (fun hc => ?_)
      · replace h := bif_t hc h
        refine Tr.seq ?_
        refine Tr.region ?_
        refine RegL.pure (p := (pEq (.bool false))) rfl rfl rfl (J_assign rfl Opd.con) ?_
        refine RegL.nil ?_
        refine Ct.then_tr ?_
        refine Tr.weak (Γ' := [(2, (pEq (.bool false))), (99999, (pF (fRB 1 0 2 3)))]) ⟨rfl, rfl, trivial⟩ ?_
        refine Tr.ret ?_
        refine Ct.then_ret ?_
        replace h := Option.some.inj h; subst h
        exact Ct.retH1 (Ωx := []) () rfl (RvOk.tmp rfl) rfl
      · replace h := bif_f hc h
        refine Tr.skip ?_
        refine Ct.then_tr ?_
        refine Tr.weak (Γ' := [(99999, (pF (fRB 1 0 2 3)))]) ⟨rfl, trivial⟩ ?_
        refine Tr.seq ?_
        refine Tr.region ?_
        refine RegL.pure (p := (pEq (.bool true))) rfl rfl rfl (J_assign rfl Opd.con) ?_
        refine RegL.nil ?_
        refine Ct.then_tr ?_
        refine Tr.weak (Γ' := [(2, (pEq (.bool true))), (99999, (pF (fRB 1 0 2 3)))]) ⟨rfl, rfl, trivial⟩ ?_
        refine Tr.ret ?_
        replace h := Option.some.inj h; subst h
        exact Ct.retH1 (Ωx := []) () rfl (RvOk.tmp rfl) rfl

end Go.Proofs.YtbhegklilcpbmaaDoor.fnExactReadBandW
