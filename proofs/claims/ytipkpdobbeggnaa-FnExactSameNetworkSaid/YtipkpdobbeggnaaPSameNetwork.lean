/-
  PROVED: the law FnExactSameNetwork returns true whatever its arguments, and each argument reads afterwards as it read before. No condition.
-/
import Derived.Test.YtipkpdobbeggnaaRows
import Derived.Test.YtipkpdobbeggnaaWkSameNetwork
import Derived.Test.YtipkpdobbeggnaaLawSameNetwork
import Derived.Test.YtipkpdobbeggnaaOpen
import Derived.WalkKit
import Derived.ProofKit
import Derived.OpenShut
import Derived.JoinedCond
import Derived.KernelRfl
namespace Go.Proofs.Ytipkpdobbeggnaa.fnExactSameNetwork
open Go Go.ChangeShapes Go.WideShapes Go.ChangeAt Go.RowKit Go.Wk
set_option maxRecDepth 100000
theorem own : ownKnob Try.prog.godebug = none := by kernel_rfl
theorem lays : laidOutB Try.prog = true := by kernel_rfl
theorem op9 : Opens Try.prog 9 cS (fun a => (a.size ≤ maxLen)) := opens_string Try.underlying9
theorem op2 : Opens Try.prog 2 (cK .i64) (fun a => ((Lit.int .i64 a).wf = true)) := opens_int Try.underlying2
theorem op118 : Opens Try.prog 118 cGPoint (fun a => (okGPoint a)) := by
  intro H enc w base fuel cs x h
  obtain ⟨xs, n, rfl, rfl, hl, hx, hf⟩ := DataW.trod_struct Try.underlying118 h
  have hl : cs.length = 2 := hl.trans (by kernel_rfl)
  obtain ⟨a0, k0, v0⟩ := Opens.field op2 (hf 0 _ rfl) (by rw [hx]; decide)
  replace v0 : Vals _ w ((cK .i64) a0) (List.take (Try.prog.cellsOf 2) (List.drop 0 cs)) := v0
  rw [show Try.prog.cellsOf 2 = 1 from by kernel_rfl] at v0
  obtain ⟨a1, k1, v1⟩ := Opens.field op2 (hf 1 _ rfl) (by rw [hx]; decide)
  replace v1 : Vals _ w ((cK .i64) a1) (List.take (Try.prog.cellsOf 2) (List.drop 1 cs)) := v1
  rw [show Try.prog.cellsOf 2 = 1 from by kernel_rfl] at v1
  have hv := vals_piece (off := 0) v0 (vals_piece (off := 1) v1 (vals_end hl))
  exact ⟨⟨a0, a1⟩, ⟨k0, k1⟩, by simpa using hv⟩
theorem op120 : Opens Try.prog 120 cGSite (fun a => (okGSite a)) := by
  intro H enc w base fuel cs x h
  obtain ⟨xs, n, rfl, rfl, hl, hx, hf⟩ := DataW.trod_struct Try.underlying120 h
  have hl : cs.length = 4 := hl.trans (by kernel_rfl)
  obtain ⟨a0, k0, v0⟩ := Opens.field op9 (hf 0 _ rfl) (by rw [hx]; decide)
  replace v0 : Vals _ w (cS a0) (List.take (Try.prog.cellsOf 9) (List.drop 0 cs)) := v0
  rw [show Try.prog.cellsOf 9 = 1 from by kernel_rfl] at v0
  obtain ⟨a1, k1, v1⟩ := Opens.field op9 (hf 1 _ rfl) (by rw [hx]; decide)
  replace v1 : Vals _ w (cS a1) (List.take (Try.prog.cellsOf 9) (List.drop 1 cs)) := v1
  rw [show Try.prog.cellsOf 9 = 1 from by kernel_rfl] at v1
  obtain ⟨a2, k2, v2⟩ := Opens.field op118 (hf 2 _ rfl) (by rw [hx]; decide)
  replace v2 : Vals _ w (cGPoint a2) (List.take (Try.prog.cellsOf 118) (List.drop 2 cs)) := v2
  rw [show Try.prog.cellsOf 118 = 2 from by kernel_rfl] at v2
  have hv := vals_piece (off := 0) v0 (vals_piece (off := 1) v1 (vals_piece (off := 2) v2 (vals_end hl)))
  exact ⟨⟨a0, a1, a2⟩, ⟨k0, k1, k2⟩, by simpa using hv⟩
theorem op49 : Opens Try.prog 49 (cSl 4 cGSite) (fun a => (a.length ≤ maxLen ∧ ∀ x ∈ a, (okGSite x))) := opens_slice Try.underlying49 (by kernel_rfl) (by decide) op120
theorem op122 : Opens Try.prog 122 cGSector (fun a => (okGSector a)) := by
  intro H enc w base fuel cs x h
  obtain ⟨xs, n, rfl, rfl, hl, hx, hf⟩ := DataW.trod_struct Try.underlying122 h
  have hl : cs.length = 9 := hl.trans (by kernel_rfl)
  obtain ⟨a0, k0, v0⟩ := Opens.field op9 (hf 0 _ rfl) (by rw [hx]; decide)
  replace v0 : Vals _ w (cS a0) (List.take (Try.prog.cellsOf 9) (List.drop 0 cs)) := v0
  rw [show Try.prog.cellsOf 9 = 1 from by kernel_rfl] at v0
  obtain ⟨a1, k1, v1⟩ := Opens.field op9 (hf 1 _ rfl) (by rw [hx]; decide)
  replace v1 : Vals _ w (cS a1) (List.take (Try.prog.cellsOf 9) (List.drop 1 cs)) := v1
  rw [show Try.prog.cellsOf 9 = 1 from by kernel_rfl] at v1
  obtain ⟨a2, k2, v2⟩ := Opens.field op9 (hf 2 _ rfl) (by rw [hx]; decide)
  replace v2 : Vals _ w (cS a2) (List.take (Try.prog.cellsOf 9) (List.drop 2 cs)) := v2
  rw [show Try.prog.cellsOf 9 = 1 from by kernel_rfl] at v2
  obtain ⟨a3, k3, v3⟩ := Opens.field op9 (hf 3 _ rfl) (by rw [hx]; decide)
  replace v3 : Vals _ w (cS a3) (List.take (Try.prog.cellsOf 9) (List.drop 3 cs)) := v3
  rw [show Try.prog.cellsOf 9 = 1 from by kernel_rfl] at v3
  obtain ⟨a4, k4, v4⟩ := Opens.field op9 (hf 4 _ rfl) (by rw [hx]; decide)
  replace v4 : Vals _ w (cS a4) (List.take (Try.prog.cellsOf 9) (List.drop 4 cs)) := v4
  rw [show Try.prog.cellsOf 9 = 1 from by kernel_rfl] at v4
  obtain ⟨a5, k5, v5⟩ := Opens.field op2 (hf 5 _ rfl) (by rw [hx]; decide)
  replace v5 : Vals _ w ((cK .i64) a5) (List.take (Try.prog.cellsOf 2) (List.drop 5 cs)) := v5
  rw [show Try.prog.cellsOf 2 = 1 from by kernel_rfl] at v5
  obtain ⟨a6, k6, v6⟩ := Opens.field op2 (hf 6 _ rfl) (by rw [hx]; decide)
  replace v6 : Vals _ w ((cK .i64) a6) (List.take (Try.prog.cellsOf 2) (List.drop 6 cs)) := v6
  rw [show Try.prog.cellsOf 2 = 1 from by kernel_rfl] at v6
  obtain ⟨a7, k7, v7⟩ := Opens.field op2 (hf 7 _ rfl) (by rw [hx]; decide)
  replace v7 : Vals _ w ((cK .i64) a7) (List.take (Try.prog.cellsOf 2) (List.drop 7 cs)) := v7
  rw [show Try.prog.cellsOf 2 = 1 from by kernel_rfl] at v7
  obtain ⟨a8, k8, v8⟩ := Opens.field op2 (hf 8 _ rfl) (by rw [hx]; decide)
  replace v8 : Vals _ w ((cK .i64) a8) (List.take (Try.prog.cellsOf 2) (List.drop 8 cs)) := v8
  rw [show Try.prog.cellsOf 2 = 1 from by kernel_rfl] at v8
  have hv := vals_piece (off := 0) v0 (vals_piece (off := 1) v1 (vals_piece (off := 2) v2 (vals_piece (off := 3) v3 (vals_piece (off := 4) v4 (vals_piece (off := 5) v5 (vals_piece (off := 6) v6 (vals_piece (off := 7) v7 (vals_piece (off := 8) v8 (vals_end hl)))))))))
  exact ⟨⟨a0, a1, a2, a3, a4, a5, a6, a7, a8⟩, ⟨k0, k1, k2, k3, k4, k5, k6, k7, k8⟩, by simpa using hv⟩
theorem op50 : Opens Try.prog 50 (cSl 9 cGSector) (fun a => (a.length ≤ maxLen ∧ ∀ x ∈ a, (okGSector x))) := opens_slice Try.underlying50 (by kernel_rfl) (by decide) op122
theorem op23 : Opens Try.prog 23 (cSl 1 (cK .i64)) (fun a => (a.length ≤ maxLen ∧ ∀ x ∈ a, ((Lit.int .i64 x).wf = true))) := opens_slice Try.underlying23 (by kernel_rfl) (by decide) op2
theorem op124 : Opens Try.prog 124 cGAntenna (fun a => (okGAntenna a)) := by
  intro H enc w base fuel cs x h
  obtain ⟨xs, n, rfl, rfl, hl, hx, hf⟩ := DataW.trod_struct Try.underlying124 h
  have hl : cs.length = 4 := hl.trans (by kernel_rfl)
  obtain ⟨a0, k0, v0⟩ := Opens.field op9 (hf 0 _ rfl) (by rw [hx]; decide)
  replace v0 : Vals _ w (cS a0) (List.take (Try.prog.cellsOf 9) (List.drop 0 cs)) := v0
  rw [show Try.prog.cellsOf 9 = 1 from by kernel_rfl] at v0
  obtain ⟨a1, k1, v1⟩ := Opens.field op2 (hf 1 _ rfl) (by rw [hx]; decide)
  replace v1 : Vals _ w ((cK .i64) a1) (List.take (Try.prog.cellsOf 2) (List.drop 1 cs)) := v1
  rw [show Try.prog.cellsOf 2 = 1 from by kernel_rfl] at v1
  obtain ⟨a2, k2, v2⟩ := Opens.field op23 (hf 2 _ rfl) (by rw [hx]; decide)
  replace v2 : Vals _ w ((cSl 1 (cK .i64)) a2) (List.take (Try.prog.cellsOf 23) (List.drop 2 cs)) := v2
  rw [show Try.prog.cellsOf 23 = 1 from by kernel_rfl] at v2
  obtain ⟨a3, k3, v3⟩ := Opens.field op23 (hf 3 _ rfl) (by rw [hx]; decide)
  replace v3 : Vals _ w ((cSl 1 (cK .i64)) a3) (List.take (Try.prog.cellsOf 23) (List.drop 3 cs)) := v3
  rw [show Try.prog.cellsOf 23 = 1 from by kernel_rfl] at v3
  have hv := vals_piece (off := 0) v0 (vals_piece (off := 1) v1 (vals_piece (off := 2) v2 (vals_piece (off := 3) v3 (vals_end hl))))
  exact ⟨⟨a0, a1, a2, a3⟩, ⟨k0, k1, k2, k3⟩, by simpa using hv⟩
theorem op51 : Opens Try.prog 51 (cSl 4 cGAntenna) (fun a => (a.length ≤ maxLen ∧ ∀ x ∈ a, (okGAntenna x))) := opens_slice Try.underlying51 (by kernel_rfl) (by decide) op124
theorem op155 : Opens Try.prog 155 cGMode (fun a => (okGMode a)) := by
  intro H enc w base fuel cs x h
  obtain ⟨xs, n, rfl, rfl, hl, hx, hf⟩ := DataW.trod_struct Try.underlying155 h
  have hl : cs.length = 2 := hl.trans (by kernel_rfl)
  obtain ⟨a0, k0, v0⟩ := Opens.field op2 (hf 0 _ rfl) (by rw [hx]; decide)
  replace v0 : Vals _ w ((cK .i64) a0) (List.take (Try.prog.cellsOf 2) (List.drop 0 cs)) := v0
  rw [show Try.prog.cellsOf 2 = 1 from by kernel_rfl] at v0
  obtain ⟨a1, k1, v1⟩ := Opens.field op2 (hf 1 _ rfl) (by rw [hx]; decide)
  replace v1 : Vals _ w ((cK .i64) a1) (List.take (Try.prog.cellsOf 2) (List.drop 1 cs)) := v1
  rw [show Try.prog.cellsOf 2 = 1 from by kernel_rfl] at v1
  have hv := vals_piece (off := 0) v0 (vals_piece (off := 1) v1 (vals_end hl))
  exact ⟨⟨a0, a1⟩, ⟨k0, k1⟩, by simpa using hv⟩
theorem op126 : Opens Try.prog 126 (cSl 2 cGMode) (fun a => (a.length ≤ maxLen ∧ ∀ x ∈ a, (okGMode x))) := opens_slice Try.underlying126 (by kernel_rfl) (by decide) op155
theorem op128 : Opens Try.prog 128 cGRadio (fun a => (okGRadio a)) := by
  intro H enc w base fuel cs x h
  obtain ⟨xs, n, rfl, rfl, hl, hx, hf⟩ := DataW.trod_struct Try.underlying128 h
  have hl : cs.length = 6 := hl.trans (by kernel_rfl)
  obtain ⟨a0, k0, v0⟩ := Opens.field op9 (hf 0 _ rfl) (by rw [hx]; decide)
  replace v0 : Vals _ w (cS a0) (List.take (Try.prog.cellsOf 9) (List.drop 0 cs)) := v0
  rw [show Try.prog.cellsOf 9 = 1 from by kernel_rfl] at v0
  obtain ⟨a1, k1, v1⟩ := Opens.field op2 (hf 1 _ rfl) (by rw [hx]; decide)
  replace v1 : Vals _ w ((cK .i64) a1) (List.take (Try.prog.cellsOf 2) (List.drop 1 cs)) := v1
  rw [show Try.prog.cellsOf 2 = 1 from by kernel_rfl] at v1
  obtain ⟨a2, k2, v2⟩ := Opens.field op2 (hf 2 _ rfl) (by rw [hx]; decide)
  replace v2 : Vals _ w ((cK .i64) a2) (List.take (Try.prog.cellsOf 2) (List.drop 2 cs)) := v2
  rw [show Try.prog.cellsOf 2 = 1 from by kernel_rfl] at v2
  obtain ⟨a3, k3, v3⟩ := Opens.field op2 (hf 3 _ rfl) (by rw [hx]; decide)
  replace v3 : Vals _ w ((cK .i64) a3) (List.take (Try.prog.cellsOf 2) (List.drop 3 cs)) := v3
  rw [show Try.prog.cellsOf 2 = 1 from by kernel_rfl] at v3
  obtain ⟨a4, k4, v4⟩ := Opens.field op2 (hf 4 _ rfl) (by rw [hx]; decide)
  replace v4 : Vals _ w ((cK .i64) a4) (List.take (Try.prog.cellsOf 2) (List.drop 4 cs)) := v4
  rw [show Try.prog.cellsOf 2 = 1 from by kernel_rfl] at v4
  obtain ⟨a5, k5, v5⟩ := Opens.field op126 (hf 5 _ rfl) (by rw [hx]; decide)
  replace v5 : Vals _ w ((cSl 2 cGMode) a5) (List.take (Try.prog.cellsOf 126) (List.drop 5 cs)) := v5
  rw [show Try.prog.cellsOf 126 = 1 from by kernel_rfl] at v5
  have hv := vals_piece (off := 0) v0 (vals_piece (off := 1) v1 (vals_piece (off := 2) v2 (vals_piece (off := 3) v3 (vals_piece (off := 4) v4 (vals_piece (off := 5) v5 (vals_end hl))))))
  exact ⟨⟨a0, a1, a2, a3, a4, a5⟩, ⟨k0, k1, k2, k3, k4, k5⟩, by simpa using hv⟩
theorem op52 : Opens Try.prog 52 (cSl 6 cGRadio) (fun a => (a.length ≤ maxLen ∧ ∀ x ∈ a, (okGRadio x))) := opens_slice Try.underlying52 (by kernel_rfl) (by decide) op128
theorem op54 : Opens Try.prog 54 cGNetwork (fun a => (okGNetwork a)) := by
  intro H enc w base fuel cs x h
  obtain ⟨xs, n, rfl, rfl, hl, hx, hf⟩ := DataW.trod_struct Try.underlying54 h
  have hl : cs.length = 4 := hl.trans (by kernel_rfl)
  obtain ⟨a0, k0, v0⟩ := Opens.field op49 (hf 0 _ rfl) (by rw [hx]; decide)
  replace v0 : Vals _ w ((cSl 4 cGSite) a0) (List.take (Try.prog.cellsOf 49) (List.drop 0 cs)) := v0
  rw [show Try.prog.cellsOf 49 = 1 from by kernel_rfl] at v0
  obtain ⟨a1, k1, v1⟩ := Opens.field op50 (hf 1 _ rfl) (by rw [hx]; decide)
  replace v1 : Vals _ w ((cSl 9 cGSector) a1) (List.take (Try.prog.cellsOf 50) (List.drop 1 cs)) := v1
  rw [show Try.prog.cellsOf 50 = 1 from by kernel_rfl] at v1
  obtain ⟨a2, k2, v2⟩ := Opens.field op51 (hf 2 _ rfl) (by rw [hx]; decide)
  replace v2 : Vals _ w ((cSl 4 cGAntenna) a2) (List.take (Try.prog.cellsOf 51) (List.drop 2 cs)) := v2
  rw [show Try.prog.cellsOf 51 = 1 from by kernel_rfl] at v2
  obtain ⟨a3, k3, v3⟩ := Opens.field op52 (hf 3 _ rfl) (by rw [hx]; decide)
  replace v3 : Vals _ w ((cSl 6 cGRadio) a3) (List.take (Try.prog.cellsOf 52) (List.drop 3 cs)) := v3
  rw [show Try.prog.cellsOf 52 = 1 from by kernel_rfl] at v3
  have hv := vals_piece (off := 0) v0 (vals_piece (off := 1) v1 (vals_piece (off := 2) v2 (vals_piece (off := 3) v3 (vals_end hl))))
  exact ⟨⟨a0, a1, a2, a3⟩, ⟨k0, k1, k2, k3⟩, by simpa using hv⟩

theorem contract (H : Type) (enc : TypeId × Value → H) (W : World) (base : Nat) (args : Array Value) (ds gs : List (DataW H)) (before : List MemPlace)
    (hval : ∀ (j : Nat) t v, Try.f6.params[j]? = some t → args[j]? = some v → Value.okWide Try.prog W .any base t v)
    (hW : DataW.Whole enc Try.prog Try.f6.params.toList Rows.fnExactSameNetworkSpec.vars false W args.toList ds gs before) :
    Calls Try.prog 6 args W fun e W' => ∃ v, e = .returned v ∧ Rows.fnExactSameNetworkSpec.post enc Try.prog Try.f6 false true false false W args v W' := by
  have hW' := hW
  obtain ⟨p, q, hA0, hV, rfl, hfz, hnd⟩ := hW
  have hA : DataW.TrodAll enc Try.prog W 0 (fun _ => true) true Try.f6.params.toList args.toList ds p := hA0
  rw [Try.params6] at hA hval
  obtain ⟨rfl, rfl⟩ := trodVars_none hV
  obtain ⟨v0, vs0, d0, ds0, p0, q0, hargs, rfl, rfl, h0, r0⟩ := trodAll_cons hA
  obtain ⟨v1, vs1, d1, ds1, p1, q1, rfl, rfl, rfl, h1, r1⟩ := trodAll_cons r0
  obtain ⟨rfl, rfl, rfl⟩ := trodAll_nil r1
  obtain rfl : args = #[v0, v1] := by cases args; simp_all
  obtain ⟨a0, k0, w0⟩ := arg_struct Try.underlying54 op54 (hval 0 54 v0 rfl rfl) h0
  obtain ⟨a1, k1, w1⟩ := arg_struct Try.underlying54 op54 (hval 1 54 v1 rfl rfl) h1
  have hc := Go.Proofs.Ytipkpdobbeggnaa.fnExactSameNetworkW.c_laws_FnExactSameNetwork (by first | exact law_FnExactSameNetwork a0 a1 | exact law_FnExactSameNetwork a0 a1 k0 k1) (fun b => b < W.heap.size) W [v0, v1] (fun _ h => h) ⟨w0, w1, trivial⟩
  refine hc.mono fun e W' ⟨v, he, hb, hv⟩ => ?_
  have hv' : v = .bool true := hv
  subst hv'
  exact ⟨_, he, law_post lays Try.underlying4 rfl (by kernel_rfl) rfl rfl hW' hb⟩

theorem lifted (os : Os) (started : os.Started) (H : Type) (enc : TypeId × Value → H) :
    ReturnsInHanded {} Try.checked os 6 .any (Rows.fnExactSameNetworkSpec.pre6 enc Try.prog Try.f6 Rows.fnExactSameNetworkRow.domain false) (Rows.fnExactSameNetworkSpec.post enc Try.prog Try.f6 false true false false) := by
  refine returnsInHanded_of_change (C := Try.checked) own started (by kernel_rfl) Try.func6
    (ChangeSpec.witness6 (enc := enc) (C := Try.checked) false ⟨#[], #[.agg #[.slice none 0 0, .slice none 0 0, .slice none 0 0, .slice none 0 0], .agg #[.slice none 0 0, .slice none 0 0, .slice none 0 0, .slice none 0 0]], []⟩ 8 (by kernel_rfl) (by kernel_rfl) (by kernel_rfl) (by kernel_rfl)) ?_
  intro W base args ds gs before hval hW _ _
  exact contract H enc W base args ds gs before hval hW

theorem over : Rows.fnExactSameNetworkRow.holds Try.pinned (OpenSpec.ofChange Rows.fnExactSameNetworkSpec) :=
  OpenClaim.holds_of_wide 6 Try.f6 rfl rfl rfl rfl rfl rfl rfl ⟨rfl, rfl, rfl, rfl, rfl⟩ rfl rfl rfl rfl rfl (by kernel_rfl) Try.func6 (by kernel_rfl)
    (of_decide_eq_true (by kernel_rfl)) (by unfold Func.isWrapper; first | (rw [if_pos (by decide +kernel)]; kernel_rfl) | (rw [if_neg (by decide +kernel)]; exact ⟨rfl, rfl⟩))
    (fun os started H enc _ => lifted os started H enc)

theorem proved : Rows.FnExactSameNetworkSaid := over
#print axioms proved
end Go.Proofs.Ytipkpdobbeggnaa.fnExactSameNetwork
