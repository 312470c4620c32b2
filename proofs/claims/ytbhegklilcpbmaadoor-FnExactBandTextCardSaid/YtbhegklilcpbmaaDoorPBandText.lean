/-
  PROVED: the law FnExactBandText returns true whatever its arguments, and each argument reads afterwards as it read before. Condition: the tables that the row lists hold what the program's text lays; the card ties them to that text.
-/
import Derived.Test.YtbhegklilcpbmaaDoorRows
import Derived.Test.YtbhegklilcpbmaaDoorCards
import Derived.Test.YtbhegklilcpbmaaDoorTie
import Derived.Test.YtbhegklilcpbmaaDoorWkBandText
import Derived.Test.YtbhegklilcpbmaaDoorLawBandText
import Derived.Test.YtbhegklilcpbmaaDoorOpen
import Derived.WalkKit
import Derived.ProofKit
import Derived.OpenShut
import Derived.JoinedCond
import Derived.LaidLaws
import Derived.Lib.LaidTab
import Derived.Stop.LaidErr
import Derived.SevenTiedAt
import Derived.KernelRfl
namespace Go.Proofs.YtbhegklilcpbmaaDoor.fnExactBandText
open Go Go.ChangeShapes Go.WideShapes Go.ChangeAt Go.RowKit Go.Wk
set_option maxRecDepth 100000
theorem own : ownKnob Tryd.prog.godebug = none := by kernel_rfl
theorem lays : laidOutB Tryd.prog = true := by kernel_rfl
theorem op9 : Opens Tryd.prog 9 cS (fun a => (a.size ≤ maxLen)) := opens_string Tryd.underlying9
theorem op2 : Opens Tryd.prog 2 (cK .i64) (fun a => ((Lit.int .i64 a).wf = true)) := opens_int Tryd.underlying2
theorem op49 : Opens Tryd.prog 49 cGBand (fun a => (okGBand a)) := by
  intro H enc w base fuel cs x h
  obtain ⟨xs, n, rfl, rfl, hl, hx, hf⟩ := DataW.trod_struct Tryd.underlying49 h
  have hl : cs.length = 5 := hl.trans (by kernel_rfl)
  obtain ⟨a0, k0, v0⟩ := Opens.field op9 (hf 0 _ rfl) (by rw [hx]; decide)
  replace v0 : Vals _ w (cS a0) (List.take (Tryd.prog.cellsOf 9) (List.drop 0 cs)) := v0
  rw [show Tryd.prog.cellsOf 9 = 1 from by kernel_rfl] at v0
  obtain ⟨a1, k1, v1⟩ := Opens.field op2 (hf 1 _ rfl) (by rw [hx]; decide)
  replace v1 : Vals _ w ((cK .i64) a1) (List.take (Tryd.prog.cellsOf 2) (List.drop 1 cs)) := v1
  rw [show Tryd.prog.cellsOf 2 = 1 from by kernel_rfl] at v1
  obtain ⟨a2, k2, v2⟩ := Opens.field op2 (hf 2 _ rfl) (by rw [hx]; decide)
  replace v2 : Vals _ w ((cK .i64) a2) (List.take (Tryd.prog.cellsOf 2) (List.drop 2 cs)) := v2
  rw [show Tryd.prog.cellsOf 2 = 1 from by kernel_rfl] at v2
  obtain ⟨a3, k3, v3⟩ := Opens.field op2 (hf 3 _ rfl) (by rw [hx]; decide)
  replace v3 : Vals _ w ((cK .i64) a3) (List.take (Tryd.prog.cellsOf 2) (List.drop 3 cs)) := v3
  rw [show Tryd.prog.cellsOf 2 = 1 from by kernel_rfl] at v3
  obtain ⟨a4, k4, v4⟩ := Opens.field op2 (hf 4 _ rfl) (by rw [hx]; decide)
  replace v4 : Vals _ w ((cK .i64) a4) (List.take (Tryd.prog.cellsOf 2) (List.drop 4 cs)) := v4
  rw [show Tryd.prog.cellsOf 2 = 1 from by kernel_rfl] at v4
  have hv := vals_piece (off := 0) v0 (vals_piece (off := 1) v1 (vals_piece (off := 2) v2 (vals_piece (off := 3) v3 (vals_piece (off := 4) v4 (vals_end hl)))))
  exact ⟨⟨a0, a1, a2, a3, a4⟩, ⟨k0, k1, k2, k3, k4⟩, by simpa using hv⟩

theorem isTab : (Rows.laid_internal_strconv_uint64pow10 : DataW Unit) = Lib.tabData .u64 Lib.pow10Tab := by kernel_rfl
theorem laid_tab {W : World} {I : Vw} (h : laidMetH Tryd.prog Rows.fnExactBandTextRow.laid W) (hI : ∀ b, b < W.heap.size → I b) : (pTab 1 .u64 Lib.pow10Tab).p I W undef := by
  have h1 : laidMet Tryd.prog Rows.fnExactBandTextRow.laid W := h
  have h2 : laidMet Tryd.prog ((_, Rows.laid_internal_strconv_uint64pow10) :: _) W := h1.tail.tail
  rw [isTab] at h2
  exact tab_of_is (by kernel_rfl) hI (Lib.tabIs_of_head (g := 1) (by kernel_rfl) (by kernel_rfl) Tryd.underlying146 Tryd.underlying127 (by kernel_rfl) (by kernel_rfl) h2)

theorem contract (H : Type) (enc : TypeId × Value → H) (W : World) (base : Nat) (args : Array Value) (ds gs : List (DataW H)) (before : List MemPlace)
    (hval : ∀ (j : Nat) t v, Tryd.f7.params[j]? = some t → args[j]? = some v → Value.okWide Tryd.prog W .any base t v)
    (hW : DataW.Whole enc Tryd.prog Tryd.f7.params.toList Rows.fnExactBandTextSpec.vars false W args.toList ds gs before) (hL : laidMetH Tryd.prog Rows.fnExactBandTextRow.laid W) :
    Calls Tryd.prog 7 args W fun e W' => ∃ v, e = .returned v ∧ Rows.fnExactBandTextSpec.post enc Tryd.prog Tryd.f7 false true false false W args v W' := by
  have hW' := hW
  obtain ⟨p, q, hA0, hV, rfl, hfz, hnd⟩ := hW
  have hA : DataW.TrodAll enc Tryd.prog W 0 (fun _ => true) true Tryd.f7.params.toList args.toList ds p := hA0
  rw [Tryd.params7] at hA hval
  obtain ⟨rfl, rfl⟩ := trodVars_none hV
  obtain ⟨v0, vs0, d0, ds0, p0, q0, hargs, rfl, rfl, h0, r0⟩ := trodAll_cons hA
  obtain ⟨rfl, rfl, rfl⟩ := trodAll_nil r0
  obtain rfl : args = #[v0] := by cases args; simp_all
  obtain ⟨a0, k0, w0⟩ := arg_struct Tryd.underlying49 op49 (hval 0 49 v0 rfl rfl) h0
  have hc := Go.Proofs.YtbhegklilcpbmaaDoor.fnExactBandTextW.c_laws_FnExactBandText (by first | exact law_FnExactBandText a0 | exact law_FnExactBandText a0 k0) (fun b => b < W.heap.size) W [v0] (fun _ h => h) ⟨⟨laid_tab hL (fun _ h => h), w0⟩, trivial⟩
  refine hc.mono fun e W' ⟨v, he, hb, hv⟩ => ?_
  have hv' : v = .bool true := hv
  subst hv'
  exact ⟨_, he, law_post lays Tryd.underlying4 rfl (by kernel_rfl) rfl rfl hW' hb⟩

/-- A world that meets the condition: the settled one, the tables laid. -/
noncomputable def laidWorld (os : Os) : World :=
  let w0 := World.holding Tryd.prog os ⟨#[], #[], []⟩
  { w0 with heap := (lay1 1 #[.int .u64 1, .int .u64 10, .int .u64 100, .int .u64 1000, .int .u64 10000, .int .u64 100000, .int .u64 1000000, .int .u64 10000000, .int .u64 100000000, .int .u64 1000000000, .int .u64 10000000000, .int .u64 100000000000, .int .u64 1000000000000, .int .u64 10000000000000, .int .u64 100000000000000, .int .u64 1000000000000000, .int .u64 10000000000000000, .int .u64 100000000000000000, .int .u64 1000000000000000000, .int .u64 10000000000000000000] (lay1 7 #[.int .u8 0, .int .u8 1, .int .u8 56, .int .u8 2, .int .u8 57, .int .u8 49, .int .u8 28, .int .u8 3, .int .u8 61, .int .u8 58, .int .u8 42, .int .u8 50, .int .u8 38, .int .u8 29, .int .u8 17, .int .u8 4, .int .u8 62, .int .u8 47, .int .u8 59, .int .u8 36, .int .u8 45, .int .u8 43, .int .u8 51, .int .u8 22, .int .u8 53, .int .u8 39, .int .u8 33, .int .u8 30, .int .u8 24, .int .u8 18, .int .u8 12, .int .u8 5, .int .u8 63, .int .u8 55, .int .u8 48, .int .u8 27, .int .u8 60, .int .u8 41, .int .u8 37, .int .u8 16, .int .u8 46, .int .u8 35, .int .u8 44, .int .u8 21, .int .u8 52, .int .u8 32, .int .u8 23, .int .u8 11, .int .u8 54, .int .u8 26, .int .u8 40, .int .u8 15, .int .u8 34, .int .u8 20, .int .u8 31, .int .u8 10, .int .u8 25, .int .u8 14, .int .u8 19, .int .u8 9, .int .u8 13, .int .u8 8, .int .u8 7, .int .u8 6] (lay1 6 #[.int .u8 0, .int .u8 1, .int .u8 28, .int .u8 2, .int .u8 29, .int .u8 14, .int .u8 24, .int .u8 3, .int .u8 30, .int .u8 22, .int .u8 20, .int .u8 15, .int .u8 25, .int .u8 17, .int .u8 4, .int .u8 8, .int .u8 31, .int .u8 27, .int .u8 13, .int .u8 23, .int .u8 21, .int .u8 19, .int .u8 16, .int .u8 7, .int .u8 26, .int .u8 12, .int .u8 18, .int .u8 6, .int .u8 11, .int .u8 5, .int .u8 10, .int .u8 9] w0.heap))) }
theorem laid_met (os : Os) (args : Array Value) : laidMetH Tryd.prog Rows.fnExactBandTextRow.laid ((laidWorld os).forCall (fun _ _ => 0) ⟨#[], args, []⟩).memory :=
  (show laidMet Tryd.prog Rows.fnExactBandTextRow.laid ((laidWorld os).forCall (fun _ _ => 0) ⟨#[], args, []⟩).memory from laidMet_of_run' 8 (by kernel_rfl) (by kernel_rfl))

theorem lifted (os : Os) (started : os.Started) (H : Type) (enc : TypeId × Value → H) :
    ReturnsInHanded {} Tryd.checked os 7 .any (fun w args => (Rows.fnExactBandTextSpec.pre enc Tryd.prog Tryd.f7 Rows.fnExactBandTextRow.domain false w args ∧ laidMetH Tryd.prog Rows.fnExactBandTextRow.laid w) ∧ sizedMet enc Tryd.prog Tryd.f7 (OpenSpec.ofChange Rows.fnExactBandTextSpec) false w args) (Rows.fnExactBandTextSpec.post enc Tryd.prog Tryd.f7 false true false false) := by
  refine returnsInHanded_of_change_and (C := Tryd.checked) (X := fun w _ => laidMetH Tryd.prog Rows.fnExactBandTextRow.laid w) (fun _ _ _ hh h => h.of_heap hh) own started (by kernel_rfl) Tryd.func7
    (ChangeSpec.witness_at (enc := enc) (C := Tryd.checked) (os := os) (X := fun w _ => laidMetH Tryd.prog Rows.fnExactBandTextRow.laid w) false (laidWorld os) #[.agg #[.string .empty, .int .i64 0, .int .i64 0, .int .i64 0, .int .i64 0]] 8 rfl (by kernel_rfl) (by kernel_rfl) (by kernel_rfl) (by kernel_rfl) (by kernel_rfl) (laid_met os _)) ?_
  intro W base args ds gs before hval hW _ _ hL _
  exact contract H enc W base args ds gs before hval hW hL

theorem over : Rows.fnExactBandTextRow.holds Tryd.pinned (OpenSpec.ofChange Rows.fnExactBandTextSpec) :=
  OpenClaim.holds_of_wide 7 Tryd.f7 rfl rfl rfl rfl rfl rfl rfl ⟨rfl, rfl, rfl, rfl, rfl⟩ rfl rfl rfl rfl rfl (by kernel_rfl) Tryd.func7 (by kernel_rfl)
    (of_decide_eq_true (by kernel_rfl)) (by unfold Func.isWrapper; first | (rw [if_pos (by decide +kernel)]; kernel_rfl) | (rw [if_neg (by decide +kernel)]; exact ⟨rfl, rfl⟩))
    (fun os started H enc _ => lifted os started H enc)

theorem wants : (Tryd.f7.params.all fun t => !Tryd.prog.wantsStandIn t) = true := by kernel_rfl
theorem proved : Rows.FnExactBandTextCardSaid :=
  Claim7.holds_tied_plain_at .later [] [.data, .data, .data] true Rows.fnExactBandTextCard.stood.harness Rows.fnExactBandTextCard.stood.looks
    over (fun _ h => by cases h) (by kernel_rfl) (fun _ h => by cases h) fnExactBandText_row_tie rfl ⟨rfl, rfl⟩ (by kernel_rfl) rfl
    (fun f fn hf hfn => by
      obtain rfl : f = 7 := Option.some.inj ((show Tryd.prog.funcNamed Rows.fnExactBandTextRow.func = some 7 by kernel_rfl).symm.trans hf) |>.symm
      obtain rfl : fn = Tryd.f7 := (Option.some.inj (Tryd.func7.symm.trans hfn)).symm
      refine ⟨by kernel_rfl, fun j t ht => ?_⟩
      obtain ⟨hj, rfl⟩ := Array.getElem?_eq_some_iff.1 ht
      exact (Bool.not_eq_true' _).mp (Array.all_eq_true.1 wants j hj))
    (by kernel_rfl)
#print axioms proved
end Go.Proofs.YtbhegklilcpbmaaDoor.fnExactBandText
