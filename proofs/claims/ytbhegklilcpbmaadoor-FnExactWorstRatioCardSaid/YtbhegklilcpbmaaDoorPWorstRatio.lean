/-
  PROVED: the law FnExactWorstRatio returns true whatever its arguments, and each argument reads afterwards as it read before. Condition: the tables that the row lists hold what the program's text lays; the card ties them to that text.
-/
import Derived.Test.YtbhegklilcpbmaaDoorRows
import Derived.Test.YtbhegklilcpbmaaDoorCards
import Derived.Test.YtbhegklilcpbmaaDoorTie
import Derived.Test.YtbhegklilcpbmaaDoorWkWorstRatio
import Derived.Test.YtbhegklilcpbmaaDoorLawWorstRatio
import Derived.Test.YtbhegklilcpbmaaDoorOpen
import Derived.WalkKit
import Derived.ProofKit
import Derived.OpenShut
import Derived.JoinedCond
import Derived.LaidLaws
import Derived.Lib.LaidTab
import Derived.Stop.LaidErr
import Derived.SevenTiedAt
import Derived.KernelRfl
namespace Go.Proofs.YtbhegklilcpbmaaDoor.fnExactWorstRatio
open Go Go.ChangeShapes Go.WideShapes Go.ChangeAt Go.RowKit Go.Wk
set_option maxRecDepth 100000
theorem own : ownKnob Tryd.prog.godebug = none := by kernel_rfl
theorem lays : laidOutB Tryd.prog = true := by kernel_rfl
theorem op2 : Opens Tryd.prog 2 (cK .i64) (fun a => ((Lit.int .i64 a).wf = true)) := opens_int Tryd.underlying2
theorem op22 : Opens Tryd.prog 22 (cSl 1 (cK .i64)) (fun a => (a.length ≤ maxLen ∧ ∀ x ∈ a, ((Lit.int .i64 x).wf = true))) := opens_slice Tryd.underlying22 (by kernel_rfl) (by decide) op2
theorem op28 : Opens Tryd.prog 28 (cSl 1 (cSl 1 (cK .i64))) (fun a => (a.length ≤ maxLen ∧ ∀ x ∈ a, (x.length ≤ maxLen ∧ ∀ xy ∈ x, ((Lit.int .i64 xy).wf = true)))) := opens_slice Tryd.underlying28 (by kernel_rfl) (by decide) op22

theorem isTab : (Rows.laid_internal_strconv_uint64pow10 : DataW Unit) = Lib.tabData .u64 Lib.pow10Tab := by kernel_rfl
theorem laid_tab {W : World} {I : Vw} (h : laidMetH Tryd.prog Rows.fnExactWorstRatioRow.laid W) (hI : ∀ b, b < W.heap.size → I b) : (pTab 1 .u64 Lib.pow10Tab).p I W undef := by
  have h1 : laidMet Tryd.prog Rows.fnExactWorstRatioRow.laid W := h
  have h2 : laidMet Tryd.prog ((_, Rows.laid_internal_strconv_uint64pow10) :: _) W := h1.tail.tail
  rw [isTab] at h2
  exact tab_of_is (by kernel_rfl) hI (Lib.tabIs_of_head (g := 1) (by kernel_rfl) (by kernel_rfl) Tryd.underlying146 Tryd.underlying127 (by kernel_rfl) (by kernel_rfl) h2)

theorem contract (H : Type) (enc : TypeId × Value → H) (W : World) (base : Nat) (args : Array Value) (ds gs : List (DataW H)) (before : List MemPlace)
    (hval : ∀ (j : Nat) t v, Tryd.f4.params[j]? = some t → args[j]? = some v → Value.okWide Tryd.prog W .any base t v)
    (hW : DataW.Whole enc Tryd.prog Tryd.f4.params.toList Rows.fnExactWorstRatioSpec.vars false W args.toList ds gs before) (hL : laidMetH Tryd.prog Rows.fnExactWorstRatioRow.laid W) :
    Calls Tryd.prog 4 args W fun e W' => ∃ v, e = .returned v ∧ Rows.fnExactWorstRatioSpec.post enc Tryd.prog Tryd.f4 false true false false W args v W' := by
  have hW' := hW
  obtain ⟨p, q, hA0, hV, rfl, hfz, hnd⟩ := hW
  have hA : DataW.TrodAll enc Tryd.prog W 0 (fun _ => true) true Tryd.f4.params.toList args.toList ds p := hA0
  rw [Tryd.params4] at hA hval
  obtain ⟨rfl, rfl⟩ := trodVars_none hV
  obtain ⟨v0, vs0, d0, ds0, p0, q0, hargs, rfl, rfl, h0, r0⟩ := trodAll_cons hA
  obtain ⟨v1, vs1, d1, ds1, p1, q1, rfl, rfl, rfl, h1, r1⟩ := trodAll_cons r0
  obtain ⟨v2, vs2, d2, ds2, p2, q2, rfl, rfl, rfl, h2, r2⟩ := trodAll_cons r1
  obtain ⟨rfl, rfl, rfl⟩ := trodAll_nil r2
  obtain rfl : args = #[v0, v1, v2] := by cases args; simp_all
  obtain ⟨a0, k0, w0⟩ := arg_slice Tryd.underlying28 op28 (hval 0 28 v0 rfl rfl) h0
  obtain ⟨a1, k1, w1⟩ := arg_slice Tryd.underlying22 op22 (hval 1 22 v1 rfl rfl) h1
  obtain ⟨a2, k2, w2⟩ := arg_slice Tryd.underlying22 op22 (hval 2 22 v2 rfl rfl) h2
  have hc := Go.Proofs.YtbhegklilcpbmaaDoor.fnExactWorstRatioW.c_laws_FnExactWorstRatio (by first | exact law_FnExactWorstRatio a0 a1 a2 | exact law_FnExactWorstRatio a0 a1 a2 k0 k1 k2) (fun b => b < W.heap.size) W [v0, v1, v2] (fun _ h => h) ⟨⟨laid_tab hL (fun _ h => h), w0⟩, w1, w2, trivial⟩
  refine hc.mono fun e W' ⟨v, he, hb, hv⟩ => ?_
  have hv' : v = .bool true := hv
  subst hv'
  exact ⟨_, he, law_post lays Tryd.underlying4 rfl (by kernel_rfl) rfl rfl hW' hb⟩

/-- A world that meets the condition: the settled one, the tables laid. -/
noncomputable def laidWorld (os : Os) : World :=
  let w0 := World.holding Tryd.prog os ⟨#[], #[], []⟩
  { w0 with heap := (lay1 1 #[.int .u64 1, .int .u64 10, .int .u64 100, .int .u64 1000, .int .u64 10000, .int .u64 100000, .int .u64 1000000, .int .u64 10000000, .int .u64 100000000, .int .u64 1000000000, .int .u64 10000000000, .int .u64 100000000000, .int .u64 1000000000000, .int .u64 10000000000000, .int .u64 100000000000000, .int .u64 1000000000000000, .int .u64 10000000000000000, .int .u64 100000000000000000, .int .u64 1000000000000000000, .int .u64 10000000000000000000] (lay1 7 #[.int .u8 0, .int .u8 1, .int .u8 56, .int .u8 2, .int .u8 57, .int .u8 49, .int .u8 28, .int .u8 3, .int .u8 61, .int .u8 58, .int .u8 42, .int .u8 50, .int .u8 38, .int .u8 29, .int .u8 17, .int .u8 4, .int .u8 62, .int .u8 47, .int .u8 59, .int .u8 36, .int .u8 45, .int .u8 43, .int .u8 51, .int .u8 22, .int .u8 53, .int .u8 39, .int .u8 33, .int .u8 30, .int .u8 24, .int .u8 18, .int .u8 12, .int .u8 5, .int .u8 63, .int .u8 55, .int .u8 48, .int .u8 27, .int .u8 60, .int .u8 41, .int .u8 37, .int .u8 16, .int .u8 46, .int .u8 35, .int .u8 44, .int .u8 21, .int .u8 52, .int .u8 32, .int .u8 23, .int .u8 11, .int .u8 54, .int .u8 26, .int .u8 40, .int .u8 15, .int .u8 34, .int .u8 20, .int .u8 31, .int .u8 10, .int .u8 25, .int .u8 14, .int .u8 19, .int .u8 9, .int .u8 13, .int .u8 8, .int .u8 7, .int .u8 6] (lay1 6 #[.int .u8 0, .int .u8 1, .int .u8 28, .int .u8 2, .int .u8 29, .int .u8 14, .int .u8 24, .int .u8 3, .int .u8 30, .int .u8 22, .int .u8 20, .int .u8 15, .int .u8 25, .int .u8 17, .int .u8 4, .int .u8 8, .int .u8 31, .int .u8 27, .int .u8 13, .int .u8 23, .int .u8 21, .int .u8 19, .int .u8 16, .int .u8 7, .int .u8 26, .int .u8 12, .int .u8 18, .int .u8 6, .int .u8 11, .int .u8 5, .int .u8 10, .int .u8 9] w0.heap))) }
theorem laid_met (os : Os) (args : Array Value) : laidMetH Tryd.prog Rows.fnExactWorstRatioRow.laid ((laidWorld os).forCall (fun _ _ => 0) ⟨#[], args, []⟩).memory :=
  (show laidMet Tryd.prog Rows.fnExactWorstRatioRow.laid ((laidWorld os).forCall (fun _ _ => 0) ⟨#[], args, []⟩).memory from laidMet_of_run' 8 (by kernel_rfl) (by kernel_rfl))

theorem lifted (os : Os) (started : os.Started) (H : Type) (enc : TypeId × Value → H) :
    ReturnsInHanded {} Tryd.checked os 4 .any (fun w args => (Rows.fnExactWorstRatioSpec.pre enc Tryd.prog Tryd.f4 Rows.fnExactWorstRatioRow.domain false w args ∧ laidMetH Tryd.prog Rows.fnExactWorstRatioRow.laid w) ∧ sizedMet enc Tryd.prog Tryd.f4 (OpenSpec.ofChange Rows.fnExactWorstRatioSpec) false w args) (Rows.fnExactWorstRatioSpec.post enc Tryd.prog Tryd.f4 false true false false) := by
  refine returnsInHanded_of_change_and (C := Tryd.checked) (X := fun w _ => laidMetH Tryd.prog Rows.fnExactWorstRatioRow.laid w) (fun _ _ _ hh h => h.of_heap hh) own started (by kernel_rfl) Tryd.func4
    (ChangeSpec.witness_at (enc := enc) (C := Tryd.checked) (os := os) (X := fun w _ => laidMetH Tryd.prog Rows.fnExactWorstRatioRow.laid w) false (laidWorld os) #[.slice none 0 0, .slice none 0 0, .slice none 0 0] 8 rfl (by kernel_rfl) (by kernel_rfl) (by kernel_rfl) (by kernel_rfl) (by kernel_rfl) (laid_met os _)) ?_
  intro W base args ds gs before hval hW _ _ hL _
  exact contract H enc W base args ds gs before hval hW hL

theorem over : Rows.fnExactWorstRatioRow.holds Tryd.pinned (OpenSpec.ofChange Rows.fnExactWorstRatioSpec) :=
  OpenClaim.holds_of_wide 4 Tryd.f4 rfl rfl rfl rfl rfl rfl rfl ⟨rfl, rfl, rfl, rfl, rfl⟩ rfl rfl rfl rfl rfl (by kernel_rfl) Tryd.func4 (by kernel_rfl)
    (of_decide_eq_true (by kernel_rfl)) (by unfold Func.isWrapper; first | (rw [if_pos (by decide +kernel)]; kernel_rfl) | (rw [if_neg (by decide +kernel)]; exact ⟨rfl, rfl⟩))
    (fun os started H enc _ => lifted os started H enc)

theorem wants : (Tryd.f4.params.all fun t => !Tryd.prog.wantsStandIn t) = true := by kernel_rfl
theorem proved : Rows.FnExactWorstRatioCardSaid :=
  Claim7.holds_tied_plain_at .later [] [.data, .data, .data] true Rows.fnExactWorstRatioCard.stood.harness Rows.fnExactWorstRatioCard.stood.looks
    over (fun _ h => by cases h) (by kernel_rfl) (fun _ h => by cases h) fnExactWorstRatio_row_tie rfl ⟨rfl, rfl⟩ (by kernel_rfl) rfl
    (fun f fn hf hfn => by
      obtain rfl : f = 4 := Option.some.inj ((show Tryd.prog.funcNamed Rows.fnExactWorstRatioRow.func = some 4 by kernel_rfl).symm.trans hf) |>.symm
      obtain rfl : fn = Tryd.f4 := (Option.some.inj (Tryd.func4.symm.trans hfn)).symm
      refine ⟨by kernel_rfl, fun j t ht => ?_⟩
      obtain ⟨hj, rfl⟩ := Array.getElem?_eq_some_iff.1 ht
      exact (Bool.not_eq_true' _).mp (Array.all_eq_true.1 wants j hj))
    (by kernel_rfl)
#print axioms proved
end Go.Proofs.YtbhegklilcpbmaaDoor.fnExactWorstRatio
