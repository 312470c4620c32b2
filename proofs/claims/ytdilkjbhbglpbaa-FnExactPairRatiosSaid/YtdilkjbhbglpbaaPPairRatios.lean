/-
  PROVED: the law FnExactPairRatios returns true whatever its arguments, and each argument reads afterwards as it read before. No condition.
-/
import Derived.Test.YtdilkjbhbglpbaaRows
import Derived.Test.YtdilkjbhbglpbaaWkPairRatios
import Derived.Test.YtdilkjbhbglpbaaLawPairRatios
import Derived.Test.YtdilkjbhbglpbaaOpen
import Derived.WalkKit
import Derived.ProofKit
import Derived.OpenShut
import Derived.JoinedCond
import Derived.KernelRfl
namespace Go.Proofs.Ytdilkjbhbglpbaa.fnExactPairRatios
open Go Go.ChangeShapes Go.WideShapes Go.ChangeAt Go.RowKit Go.Wk
set_option maxRecDepth 100000
theorem own : ownKnob Try.prog.godebug = none := by kernel_rfl
theorem lays : laidOutB Try.prog = true := by kernel_rfl
theorem op2 : Opens Try.prog 2 (cK .i64) (fun a => ((Lit.int .i64 a).wf = true)) := opens_int Try.underlying2
theorem op22 : Opens Try.prog 22 (cSl 1 (cK .i64)) (fun a => (a.length ≤ maxLen ∧ ∀ x ∈ a, ((Lit.int .i64 x).wf = true))) := opens_slice Try.underlying22 (by kernel_rfl) (by decide) op2
theorem op68 : Opens Try.prog 68 (cSl 1 (cSl 1 (cK .i64))) (fun a => (a.length ≤ maxLen ∧ ∀ x ∈ a, (x.length ≤ maxLen ∧ ∀ xy ∈ x, ((Lit.int .i64 xy).wf = true)))) := opens_slice Try.underlying68 (by kernel_rfl) (by decide) op22

theorem contract (H : Type) (enc : TypeId × Value → H) (W : World) (base : Nat) (args : Array Value) (ds gs : List (DataW H)) (before : List MemPlace)
    (hval : ∀ (j : Nat) t v, Try.f14.params[j]? = some t → args[j]? = some v → Value.okWide Try.prog W .any base t v)
    (hW : DataW.Whole enc Try.prog Try.f14.params.toList Rows.fnExactPairRatiosSpec.vars false W args.toList ds gs before) :
    Calls Try.prog 14 args W fun e W' => ∃ v, e = .returned v ∧ Rows.fnExactPairRatiosSpec.post enc Try.prog Try.f14 false true false false W args v W' := by
  have hW' := hW
  obtain ⟨p, q, hA0, hV, rfl, hfz, hnd⟩ := hW
  have hA : DataW.TrodAll enc Try.prog W 0 (fun _ => true) true Try.f14.params.toList args.toList ds p := hA0
  rw [Try.params14] at hA hval
  obtain ⟨rfl, rfl⟩ := trodVars_none hV
  obtain ⟨v0, vs0, d0, ds0, p0, q0, hargs, rfl, rfl, h0, r0⟩ := trodAll_cons hA
  obtain ⟨rfl, rfl, rfl⟩ := trodAll_nil r0
  obtain rfl : args = #[v0] := by cases args; simp_all
  obtain ⟨a0, k0, w0⟩ := arg_slice Try.underlying68 op68 (hval 0 68 v0 rfl rfl) h0
  have hc := Go.Proofs.Ytdilkjbhbglpbaa.fnExactPairRatiosW.c_laws_FnExactPairRatios (by first | exact law_FnExactPairRatios a0 | exact law_FnExactPairRatios a0 k0) (fun b => b < W.heap.size) W [v0] (fun _ h => h) ⟨w0, trivial⟩
  refine hc.mono fun e W' ⟨v, he, hb, hv⟩ => ?_
  have hv' : v = .bool true := hv
  subst hv'
  exact ⟨_, he, law_post lays Try.underlying4 rfl (by kernel_rfl) rfl rfl hW' hb⟩

theorem lifted (os : Os) (started : os.Started) (H : Type) (enc : TypeId × Value → H) :
    ReturnsInHanded {} Try.checked os 14 .any (Rows.fnExactPairRatiosSpec.pre6 enc Try.prog Try.f14 Rows.fnExactPairRatiosRow.domain false) (Rows.fnExactPairRatiosSpec.post enc Try.prog Try.f14 false true false false) := by
  refine returnsInHanded_of_change (C := Try.checked) own started (by kernel_rfl) Try.func14
    (ChangeSpec.witness6 (enc := enc) (C := Try.checked) false ⟨#[], #[.slice none 0 0], []⟩ 8 (by kernel_rfl) (by kernel_rfl) (by kernel_rfl) (by kernel_rfl)) ?_
  intro W base args ds gs before hval hW _ _
  exact contract H enc W base args ds gs before hval hW

theorem over : Rows.fnExactPairRatiosRow.holds Try.pinned (OpenSpec.ofChange Rows.fnExactPairRatiosSpec) :=
  OpenClaim.holds_of_wide 14 Try.f14 rfl rfl rfl rfl rfl rfl rfl ⟨rfl, rfl, rfl, rfl, rfl⟩ rfl rfl rfl rfl rfl (by kernel_rfl) Try.func14 (by kernel_rfl)
    (of_decide_eq_true (by kernel_rfl)) (by unfold Func.isWrapper; first | (rw [if_pos (by decide +kernel)]; kernel_rfl) | (rw [if_neg (by decide +kernel)]; exact ⟨rfl, rfl⟩))
    (fun os started H enc _ => lifted os started H enc)

theorem proved : Rows.FnExactPairRatiosSaid := over
#print axioms proved
end Go.Proofs.Ytdilkjbhbglpbaa.fnExactPairRatios
