/-
  PROVED: the law FnExactBandNamed returns true whatever its arguments, and each argument reads afterwards as it read before. No condition.
-/
import Derived.Test.YtdilkjbhbglpbaaRows
import Derived.Test.YtdilkjbhbglpbaaWkBandNamed
import Derived.Test.YtdilkjbhbglpbaaLawBandNamed
import Derived.Test.YtdilkjbhbglpbaaOpen
import Derived.WalkKit
import Derived.ProofKit
import Derived.OpenShut
import Derived.JoinedCond
import Derived.KernelRfl
namespace Go.Proofs.Ytdilkjbhbglpbaa.fnExactBandNamed
open Go Go.ChangeShapes Go.WideShapes Go.ChangeAt Go.RowKit Go.Wk
set_option maxRecDepth 100000
theorem own : ownKnob Try.prog.godebug = none := by kernel_rfl
theorem lays : laidOutB Try.prog = true := by kernel_rfl
theorem op9 : Opens Try.prog 9 cS (fun a => (a.size ≤ maxLen)) := opens_string Try.underlying9
theorem op2 : Opens Try.prog 2 (cK .i64) (fun a => ((Lit.int .i64 a).wf = true)) := opens_int Try.underlying2
theorem op29 : Opens Try.prog 29 cGBand (fun a => (okGBand a)) := by
  intro H enc w base fuel cs x h
  obtain ⟨xs, n, rfl, rfl, hl, hx, hf⟩ := DataW.trod_struct Try.underlying29 h
  have hl : cs.length = 5 := hl.trans (by kernel_rfl)
  obtain ⟨a0, k0, v0⟩ := Opens.field op9 (hf 0 _ rfl) (by rw [hx]; decide)
  replace v0 : Vals _ w (cS a0) (List.take (Try.prog.cellsOf 9) (List.drop 0 cs)) := v0
  rw [show Try.prog.cellsOf 9 = 1 from by kernel_rfl] at v0
  obtain ⟨a1, k1, v1⟩ := Opens.field op2 (hf 1 _ rfl) (by rw [hx]; decide)
  replace v1 : Vals _ w ((cK .i64) a1) (List.take (Try.prog.cellsOf 2) (List.drop 1 cs)) := v1
  rw [show Try.prog.cellsOf 2 = 1 from by kernel_rfl] at v1
  obtain ⟨a2, k2, v2⟩ := Opens.field op2 (hf 2 _ rfl) (by rw [hx]; decide)
  replace v2 : Vals _ w ((cK .i64) a2) (List.take (Try.prog.cellsOf 2) (List.drop 2 cs)) := v2
  rw [show Try.prog.cellsOf 2 = 1 from by kernel_rfl] at v2
  obtain ⟨a3, k3, v3⟩ := Opens.field op2 (hf 3 _ rfl) (by rw [hx]; decide)
  replace v3 : Vals _ w ((cK .i64) a3) (List.take (Try.prog.cellsOf 2) (List.drop 3 cs)) := v3
  rw [show Try.prog.cellsOf 2 = 1 from by kernel_rfl] at v3
  obtain ⟨a4, k4, v4⟩ := Opens.field op2 (hf 4 _ rfl) (by rw [hx]; decide)
  replace v4 : Vals _ w ((cK .i64) a4) (List.take (Try.prog.cellsOf 2) (List.drop 4 cs)) := v4
  rw [show Try.prog.cellsOf 2 = 1 from by kernel_rfl] at v4
  have hv := vals_piece (off := 0) v0 (vals_piece (off := 1) v1 (vals_piece (off := 2) v2 (vals_piece (off := 3) v3 (vals_piece (off := 4) v4 (vals_end hl)))))
  exact ⟨⟨a0, a1, a2, a3, a4⟩, ⟨k0, k1, k2, k3, k4⟩, by simpa using hv⟩
theorem op41 : Opens Try.prog 41 (cSl 5 cGBand) (fun a => (a.length ≤ maxLen ∧ ∀ x ∈ a, (okGBand x))) := opens_slice Try.underlying41 (by kernel_rfl) (by decide) op29

theorem contract (H : Type) (enc : TypeId × Value → H) (W : World) (base : Nat) (args : Array Value) (ds gs : List (DataW H)) (before : List MemPlace)
    (hval : ∀ (j : Nat) t v, Try.f8.params[j]? = some t → args[j]? = some v → Value.okWide Try.prog W .any base t v)
    (hW : DataW.Whole enc Try.prog Try.f8.params.toList Rows.fnExactBandNamedSpec.vars false W args.toList ds gs before) :
    Calls Try.prog 8 args W fun e W' => ∃ v, e = .returned v ∧ Rows.fnExactBandNamedSpec.post enc Try.prog Try.f8 false true false false W args v W' := by
  have hW' := hW
  obtain ⟨p, q, hA0, hV, rfl, hfz, hnd⟩ := hW
  have hA : DataW.TrodAll enc Try.prog W 0 (fun _ => true) true Try.f8.params.toList args.toList ds p := hA0
  rw [Try.params8] at hA hval
  obtain ⟨rfl, rfl⟩ := trodVars_none hV
  obtain ⟨v0, vs0, d0, ds0, p0, q0, hargs, rfl, rfl, h0, r0⟩ := trodAll_cons hA
  obtain ⟨v1, vs1, d1, ds1, p1, q1, rfl, rfl, rfl, h1, r1⟩ := trodAll_cons r0
  obtain ⟨rfl, rfl, rfl⟩ := trodAll_nil r1
  obtain rfl : args = #[v0, v1] := by cases args; simp_all
  obtain ⟨a0, k0, w0⟩ := arg_slice Try.underlying41 op41 (hval 0 41 v0 rfl rfl) h0
  obtain ⟨a1, k1, w1⟩ := arg_string Try.underlying9 (hval 1 9 v1 rfl rfl) h1
  have hc := Go.Proofs.Ytdilkjbhbglpbaa.fnExactBandNamedW.c_laws_FnExactBandNamed (by first | exact law_FnExactBandNamed a0 a1 | exact law_FnExactBandNamed a0 a1 k0 k1) (fun b => b < W.heap.size) W [v0, v1] (fun _ h => h) ⟨w0, w1, trivial⟩
  refine hc.mono fun e W' ⟨v, he, hb, hv⟩ => ?_
  have hv' : v = .bool true := hv
  subst hv'
  exact ⟨_, he, law_post lays Try.underlying4 rfl (by kernel_rfl) rfl rfl hW' hb⟩

theorem lifted (os : Os) (started : os.Started) (H : Type) (enc : TypeId × Value → H) :
    ReturnsInHanded {} Try.checked os 8 .any (Rows.fnExactBandNamedSpec.pre6 enc Try.prog Try.f8 Rows.fnExactBandNamedRow.domain false) (Rows.fnExactBandNamedSpec.post enc Try.prog Try.f8 false true false false) := by
  refine returnsInHanded_of_change (C := Try.checked) own started (by kernel_rfl) Try.func8
    (ChangeSpec.witness6 (enc := enc) (C := Try.checked) false ⟨#[], #[.slice none 0 0, .string .empty], []⟩ 8 (by kernel_rfl) (by kernel_rfl) (by kernel_rfl) (by kernel_rfl)) ?_
  intro W base args ds gs before hval hW _ _
  exact contract H enc W base args ds gs before hval hW

theorem over : Rows.fnExactBandNamedRow.holds Try.pinned (OpenSpec.ofChange Rows.fnExactBandNamedSpec) :=
  OpenClaim.holds_of_wide 8 Try.f8 rfl rfl rfl rfl rfl rfl rfl ⟨rfl, rfl, rfl, rfl, rfl⟩ rfl rfl rfl rfl rfl (by kernel_rfl) Try.func8 (by kernel_rfl)
    (of_decide_eq_true (by kernel_rfl)) (by unfold Func.isWrapper; first | (rw [if_pos (by decide +kernel)]; kernel_rfl) | (rw [if_neg (by decide +kernel)]; exact ⟨rfl, rfl⟩))
    (fun os started H enc _ => lifted os started H enc)

theorem proved : Rows.FnExactBandNamedSaid := over
#print axioms proved
end Go.Proofs.Ytdilkjbhbglpbaa.fnExactBandNamed
