/-
  PROVED: the law FnExactDegreeOrder returns true whatever its arguments, and each argument reads afterwards as it read before. No condition.
-/
import Derived.Test.YtfadnbelnfofbaaRows
import Derived.Test.YtfadnbelnfofbaaWkDegreeOrder
import Derived.Test.YtfadnbelnfofbaaLawDegreeOrder
import Derived.Test.YtfadnbelnfofbaaOpen
import Derived.WalkKit
import Derived.ProofKit
import Derived.OpenShut
import Derived.JoinedCond
import Derived.KernelRfl
namespace Go.Proofs.Ytfadnbelnfofbaa.fnExactDegreeOrder
open Go Go.ChangeShapes Go.WideShapes Go.ChangeAt Go.RowKit Go.Wk
set_option maxRecDepth 100000
theorem own : ownKnob Try.prog.godebug = none := by kernel_rfl
theorem lays : laidOutB Try.prog = true := by kernel_rfl
theorem op2 : Opens Try.prog 2 (cK .i64) (fun a => ((Lit.int .i64 a).wf = true)) := opens_int Try.underlying2
theorem op26 : Opens Try.prog 26 (cSl 1 (cK .i64)) (fun a => (a.length ≤ maxLen ∧ ∀ x ∈ a, ((Lit.int .i64 x).wf = true))) := opens_slice Try.underlying26 (by kernel_rfl) (by decide) op2
theorem op22 : Opens Try.prog 22 (cSl 1 (cSl 1 (cK .i64))) (fun a => (a.length ≤ maxLen ∧ ∀ x ∈ a, (x.length ≤ maxLen ∧ ∀ xy ∈ x, ((Lit.int .i64 xy).wf = true)))) := opens_slice Try.underlying22 (by kernel_rfl) (by decide) op26
theorem op24 : Opens Try.prog 24 cGProblem (fun a => (okGProblem a)) := by
  intro H enc w base fuel cs x h
  obtain ⟨xs, n, rfl, rfl, hl, hx, hf⟩ := DataW.trod_struct Try.underlying24 h
  have hl : cs.length = 2 := hl.trans (by kernel_rfl)
  obtain ⟨a0, k0, v0⟩ := Opens.field op22 (hf 0 _ rfl) (by rw [hx]; decide)
  replace v0 : Vals _ w ((cSl 1 (cSl 1 (cK .i64))) a0) (List.take (Try.prog.cellsOf 22) (List.drop 0 cs)) := v0
  rw [show Try.prog.cellsOf 22 = 1 from by kernel_rfl] at v0
  obtain ⟨a1, k1, v1⟩ := Opens.field op22 (hf 1 _ rfl) (by rw [hx]; decide)
  replace v1 : Vals _ w ((cSl 1 (cSl 1 (cK .i64))) a1) (List.take (Try.prog.cellsOf 22) (List.drop 1 cs)) := v1
  rw [show Try.prog.cellsOf 22 = 1 from by kernel_rfl] at v1
  have hv := vals_piece (off := 0) v0 (vals_piece (off := 1) v1 (vals_end hl))
  exact ⟨⟨a0, a1⟩, ⟨k0, k1⟩, by simpa using hv⟩

theorem contract (H : Type) (enc : TypeId × Value → H) (W : World) (base : Nat) (args : Array Value) (ds gs : List (DataW H)) (before : List MemPlace)
    (hval : ∀ (j : Nat) t v, Try.f3.params[j]? = some t → args[j]? = some v → Value.okWide Try.prog W .any base t v)
    (hW : DataW.Whole enc Try.prog Try.f3.params.toList Rows.fnExactDegreeOrderSpec.vars false W args.toList ds gs before) :
    Calls Try.prog 3 args W fun e W' => ∃ v, e = .returned v ∧ Rows.fnExactDegreeOrderSpec.post enc Try.prog Try.f3 false true false false W args v W' := by
  have hW' := hW
  obtain ⟨p, q, hA0, hV, rfl, hfz, hnd⟩ := hW
  have hA : DataW.TrodAll enc Try.prog W 0 (fun _ => true) true Try.f3.params.toList args.toList ds p := hA0
  rw [Try.params3] at hA hval
  obtain ⟨rfl, rfl⟩ := trodVars_none hV
  obtain ⟨v0, vs0, d0, ds0, p0, q0, hargs, rfl, rfl, h0, r0⟩ := trodAll_cons hA
  obtain ⟨rfl, rfl, rfl⟩ := trodAll_nil r0
  obtain rfl : args = #[v0] := by cases args; simp_all
  obtain ⟨a0, k0, w0⟩ := arg_struct Try.underlying24 op24 (hval 0 24 v0 rfl rfl) h0
  have hc := Go.Proofs.Ytfadnbelnfofbaa.fnExactDegreeOrderW.c_laws_FnExactDegreeOrder (by first | exact law_FnExactDegreeOrder a0 | exact law_FnExactDegreeOrder a0 k0) (fun b => b < W.heap.size) W [v0] (fun _ h => h) ⟨w0, trivial⟩
  refine hc.mono fun e W' ⟨v, he, hb, hv⟩ => ?_
  have hv' : v = .bool true := hv
  subst hv'
  exact ⟨_, he, law_post lays Try.underlying4 rfl (by kernel_rfl) rfl rfl hW' hb⟩

theorem lifted (os : Os) (started : os.Started) (H : Type) (enc : TypeId × Value → H) :
    ReturnsInHanded {} Try.checked os 3 .any (Rows.fnExactDegreeOrderSpec.pre6 enc Try.prog Try.f3 Rows.fnExactDegreeOrderRow.domain false) (Rows.fnExactDegreeOrderSpec.post enc Try.prog Try.f3 false true false false) := by
  refine returnsInHanded_of_change (C := Try.checked) own started (by kernel_rfl) Try.func3
    (ChangeSpec.witness6 (enc := enc) (C := Try.checked) false ⟨#[], #[.agg #[.slice none 0 0, .slice none 0 0]], []⟩ 8 (by kernel_rfl) (by kernel_rfl) (by kernel_rfl) (by kernel_rfl)) ?_
  intro W base args ds gs before hval hW _ _
  exact contract H enc W base args ds gs before hval hW

theorem over : Rows.fnExactDegreeOrderRow.holds Try.pinned (OpenSpec.ofChange Rows.fnExactDegreeOrderSpec) :=
  OpenClaim.holds_of_wide 3 Try.f3 rfl rfl rfl rfl rfl rfl rfl ⟨rfl, rfl, rfl, rfl, rfl⟩ rfl rfl rfl rfl rfl (by kernel_rfl) Try.func3 (by kernel_rfl)
    (of_decide_eq_true (by kernel_rfl)) (by unfold Func.isWrapper; first | (rw [if_pos (by decide +kernel)]; kernel_rfl) | (rw [if_neg (by decide +kernel)]; exact ⟨rfl, rfl⟩))
    (fun os started H enc _ => lifted os started H enc)

theorem proved : Rows.FnExactDegreeOrderSaid := over
#print axioms proved
end Go.Proofs.Ytfadnbelnfofbaa.fnExactDegreeOrder
