/-
  PROVED: the law FnExactReadBand returns true whatever its arguments, and each argument reads afterwards as it read before. Condition: the tables that the row lists hold what the program's text lays; the card ties them to that text.
-/
import Derived.Test.YtbhegklilcpbmaaDoorRows
import Derived.Test.YtbhegklilcpbmaaDoorCards
import Derived.Test.YtbhegklilcpbmaaDoorTie
import Derived.Test.YtbhegklilcpbmaaDoorWkReadBand
import Derived.Test.YtbhegklilcpbmaaDoorLawReadBand
import Derived.Test.YtbhegklilcpbmaaDoorOpen
import Derived.WalkKit
import Derived.ProofKit
import Derived.OpenShut
import Derived.JoinedCond
import Derived.LaidLaws
import Derived.Lib.LaidTab
import Derived.Stop.LaidErr
import Derived.Shelf.Vars
import Derived.Handed
import Derived.SevenTiedAt
import Derived.KernelRfl
namespace Go.Proofs.YtbhegklilcpbmaaDoor.fnExactReadBand
open Go Go.ChangeShapes Go.WideShapes Go.ChangeAt Go.RowKit Go.Wk
set_option maxRecDepth 100000
theorem own : ownKnob Tryd.prog.godebug = none := by kernel_rfl
theorem lays : laidOutB Tryd.prog = true := by kernel_rfl
theorem op9 : Opens Tryd.prog 9 cS (fun a => (a.size ≤ maxLen)) := opens_string Tryd.underlying9

theorem isTab : (Rows.laid_internal_strconv_uint64pow10 : DataW Unit) = Lib.tabData .u64 Lib.pow10Tab := by kernel_rfl
theorem laid_tab {W : World} {I : Vw} (h : laidMetH Tryd.prog Rows.fnExactReadBandRow.laid W) (hI : ∀ b, b < W.heap.size → I b) : (pTab 1 .u64 Lib.pow10Tab).p I W undef := by
  have h1 : laidMet Tryd.prog Rows.fnExactReadBandRow.laid W := h
  have h2 : laidMet Tryd.prog ((_, Rows.laid_internal_strconv_uint64pow10) :: _) W := h1.tail.tail
  rw [isTab] at h2
  exact tab_of_is (by kernel_rfl) hI (Lib.tabIs_of_head (g := 1) (by kernel_rfl) (by kernel_rfl) Tryd.underlying146 Tryd.underlying127 (by kernel_rfl) (by kernel_rfl) h2)
theorem star : "*" ++ "errors.errorString" = "*errors.errorString" := by decide
theorem row163 (u : TypeId) (h : Tryd.prog.typeName? 3 u = some "*errors.errorString") : u = 163 :=
  typeName_ptr_named (nm := "errors.errorString") (by rw [star]; kernel_rfl) (by kernel_rfl) (by decide) u (by rw [star]; exact h)
theorem cell_lt {W : World} {g : Nat} {v : Value} (h : W.cell? ⟨g, 0, none⟩ = some v) : g < W.heap.size := by
  rcases Nat.lt_or_ge g W.heap.size with hl | hl
  · exact hl
  · simp [World.cell?, Array.getElem?_eq_none hl] at h
theorem laid_fact {W : World} {I : Vw} (h : laidMetH Tryd.prog Rows.fnExactReadBandRow.laid W) (hsh : W.ShapedOpen Tryd.prog) (hI : ∀ b, b < W.heap.size → I b) : (pF (fRB 1 0 2 3)).p I W undef := by
  have h1 : laidMet Tryd.prog Rows.fnExactReadBandRow.laid W := h
  obtain ⟨m, hm⟩ : ∃ m, W.cell? ⟨0, 0, none⟩ = some (.int .i64 m) := Go.Proofs.cell_of_shapedOpen_int (zero := #[.int .i64 0]) (t := 3) hsh (of_decide_eq_true (by kernel_rfl)) (by kernel_rfl) rfl (by kernel_rfl) (by kernel_rfl) Tryd.underlying3
  obtain ⟨avr, _, vr, _, _, _⟩ := laid_sentinel h1.tail.tail.tail.tail (g := 3) (ti := 98) (tp := 163) (te := 165) (ts := 9) (by kernel_rfl) (by kernel_rfl) Tryd.underlying98 row163 Tryd.underlying163 Tryd.underlying165 rfl rfl Tryd.underlying9 (by kernel_rfl) (by kernel_rfl)
  have cvr := World.var?_cell (show Tryd.prog.globalNamed "strconv.ErrRange" = some 3 by kernel_rfl) vr 0
  obtain ⟨avs, _, vs, _, _, _⟩ := laid_sentinel h1.tail.tail.tail.tail.tail (g := 2) (ti := 98) (tp := 163) (te := 165) (ts := 9) (by kernel_rfl) (by kernel_rfl) Tryd.underlying98 row163 Tryd.underlying163 Tryd.underlying165 rfl rfl Tryd.underlying9 (by kernel_rfl) (by kernel_rfl)
  have cvs := World.var?_cell (show Tryd.prog.globalNamed "strconv.ErrSyntax" = some 2 by kernel_rfl) vs 0
  have dr : W.cell? ⟨3, 0, none⟩ = some (.iface 163 (.pointer (some avr))) := by simpa using cvr
  have ds : W.cell? ⟨2, 0, none⟩ = some (.iface 163 (.pointer (some avs))) := by simpa using cvs
  have q1 : holdsV 0 isI64 I W := And.intro (hI _ (cell_lt hm)) (Exists.intro _ (And.intro hm (Exists.intro m rfl)))
  have q2 : holdsV 2 isErr I W := And.intro (hI _ (cell_lt ds)) (Exists.intro _ (And.intro ds (Or.inr (Exists.intro _ (Exists.intro _ rfl)))))
  have q3 : holdsV 3 isErr I W := And.intro (hI _ (cell_lt dr)) (Exists.intro _ (And.intro dr (Or.inr (Exists.intro _ (Exists.intro _ rfl)))))
  exact And.intro (laid_tab h hI) (And.intro q1 (And.intro q2 q3))
/-- The cells of plain data. -/
def cellsD : Nat → DataW Unit → List Value
  | 0, _ => []
  | _ + 1, .lit (.int k z) => [.int k z]
  | n + 1, .agg l => l.flatMap (cellsD n)
  | _ + 1, _ => []
noncomputable def low : Nat := (World.holding Tryd.prog default ⟨#[], #[], []⟩).heap.size

theorem contract (H : Type) (enc : TypeId × Value → H) (W : World) (base : Nat) (args : Array Value) (ds gs : List (DataW H)) (before : List MemPlace)
    (hval : ∀ (j : Nat) t v, Tryd.f8.params[j]? = some t → args[j]? = some v → Value.okWide Tryd.prog W .any base t v)
    (hW : DataW.Whole enc Tryd.prog Tryd.f8.params.toList Rows.fnExactReadBandSpec.vars false W args.toList ds gs before) (hL : laidMetH Tryd.prog Rows.fnExactReadBandRow.laid W) (hsh : W.ShapedOpen Tryd.prog) :
    Calls Tryd.prog 8 args W fun e W' => ∃ v, e = .returned v ∧ Rows.fnExactReadBandSpec.post enc Tryd.prog Tryd.f8 false true false false W args v W' := by
  have hW' := hW
  obtain ⟨p, q, hA0, hV, rfl, hfz, hnd⟩ := hW
  have hA : DataW.TrodAll enc Tryd.prog W 0 (fun _ => true) true Tryd.f8.params.toList args.toList ds p := hA0
  rw [Tryd.params8] at hA hval
  obtain ⟨rfl, rfl⟩ := trodVars_none hV
  obtain ⟨v0, vs0, d0, ds0, p0, q0, hargs, rfl, rfl, h0, r0⟩ := trodAll_cons hA
  obtain ⟨rfl, rfl, rfl⟩ := trodAll_nil r0
  obtain rfl : args = #[v0] := by cases args; simp_all
  obtain ⟨a0, k0, w0⟩ := arg_string Tryd.underlying9 (hval 0 9 v0 rfl rfl) h0
  have hc := Go.Proofs.YtbhegklilcpbmaaDoor.fnExactReadBandW.c_laws_FnExactReadBand (by first | exact law_FnExactReadBand a0 | exact law_FnExactReadBand a0 k0) (fun b => b < W.heap.size) W [v0] (fun _ h => h) ⟨⟨laid_fact hL hsh (fun _ h => h), w0⟩, trivial⟩
  refine hc.mono fun e W' ⟨v, he, hb, hv⟩ => ?_
  have hv' : v = .bool true := hv
  subst hv'
  exact ⟨_, he, law_post lays Tryd.underlying4 rfl (by kernel_rfl) rfl rfl hW' hb⟩

/-- A world that meets the condition: the settled one, the tables laid. -/
noncomputable def laidWorld (os : Os) : World :=
  let w0 := World.holding Tryd.prog os ⟨#[.cells #[.string { data := #[118, 97, 108, 117, 101, 32, 111, 117, 116, 32, 111, 102, 32, 114, 97, 110, 103, 101] }] 165, .cells #[.string { data := #[105, 110, 118, 97, 108, 105, 100, 32, 115, 121, 110, 116, 97, 120] }] 165], #[], []⟩
  { w0 with heap := (lay1 4 (cellsD 4 (Rows.laid_unicode_utf8_first : DataW Unit)).toArray (lay1 2 #[.iface 163 (.pointer (some ⟨low + 1, 0, none⟩))] (lay1 3 #[.iface 163 (.pointer (some ⟨low + 0, 0, none⟩))] (lay1 5 (cellsD 4 (Rows.laid_unicode_utf8_acceptRanges : DataW Unit)).toArray (lay1 1 (cellsD 4 (Rows.laid_internal_strconv_uint64pow10 : DataW Unit)).toArray (lay1 7 (cellsD 4 (Rows.laid_math_bits_deBruijn64tab : DataW Unit)).toArray (lay1 6 (cellsD 4 (Rows.laid_math_bits_deBruijn32tab : DataW Unit)).toArray w0.heap))))))) }
theorem laid_met (os : Os) (args : Array Value) : laidMetH Tryd.prog Rows.fnExactReadBandRow.laid ((laidWorld os).forCall (fun _ _ => 0) ⟨#[], args, []⟩).memory :=
  (show laidMet Tryd.prog Rows.fnExactReadBandRow.laid ((laidWorld os).forCall (fun _ _ => 0) ⟨#[], args, []⟩).memory from laidMet_of_run' 8 (by kernel_rfl) (by kernel_rfl))

theorem lifted (os : Os) (started : os.Started) (H : Type) (enc : TypeId × Value → H) :
    ReturnsInHanded {} Tryd.checked os 8 .any (fun w args => (Rows.fnExactReadBandSpec.pre enc Tryd.prog Tryd.f8 Rows.fnExactReadBandRow.domain false w args ∧ laidMetH Tryd.prog Rows.fnExactReadBandRow.laid w) ∧ sizedMet enc Tryd.prog Tryd.f8 (OpenSpec.ofChange Rows.fnExactReadBandSpec) false w args) (Rows.fnExactReadBandSpec.post enc Tryd.prog Tryd.f8 false true false false) := by
  refine returnsInHanded_of_calls own started (by kernel_rfl)
    (ChangeSpec.witness_at (enc := enc) (C := Tryd.checked) (os := os) (X := fun w _ => laidMetH Tryd.prog Rows.fnExactReadBandRow.laid w) false (laidWorld os) #[.string .empty] 8 rfl (by kernel_rfl) (by kernel_rfl) (by kernel_rfl) (by kernel_rfl) (by kernel_rfl) (laid_met os _)) ?_
  intro w tape i _ hsh _ hok hpre _
  obtain ⟨_, _, _, fn', hfn', _, _, _, _, hval⟩ := hok
  have e : fn' = Tryd.f8 := Option.some.inj (hfn'.symm.trans Tryd.func8)
  subst e
  obtain ⟨⟨⟨ds, gs, before, hw, _⟩, hx⟩, _⟩ := hpre
  have hw' := DataW.Whole.of_heap (w' := w.forCall tape i) (by rfl) hw
  refine (contract H enc (w.forCall tape i) w.heap.size i.args ds gs before hval hw' (hx.of_heap (by rfl)) hsh).mono fun e W' ⟨v, he, hp⟩ => ?_
  subst he
  exact ChangeSpec.post_blind hp

theorem over : Rows.fnExactReadBandRow.holds Tryd.pinned (OpenSpec.ofChange Rows.fnExactReadBandSpec) :=
  OpenClaim.holds_of_wide 8 Tryd.f8 rfl rfl rfl rfl rfl rfl rfl ⟨rfl, rfl, rfl, rfl, rfl⟩ rfl rfl rfl rfl rfl (by kernel_rfl) Tryd.func8 (by kernel_rfl)
    (of_decide_eq_true (by kernel_rfl)) (by unfold Func.isWrapper; first | (rw [if_pos (by decide +kernel)]; kernel_rfl) | (rw [if_neg (by decide +kernel)]; exact ⟨rfl, rfl⟩))
    (fun os started H enc _ => lifted os started H enc)

theorem wants : (Tryd.f8.params.all fun t => !Tryd.prog.wantsStandIn t) = true := by kernel_rfl
theorem proved : Rows.FnExactReadBandCardSaid :=
  Claim7.holds_tied_plain_at .later [] [.data, .data, .data, .data, .sentinel, .sentinel, .pinned] true Rows.fnExactReadBandCard.stood.harness Rows.fnExactReadBandCard.stood.looks
    over (fun _ h => by cases h) (by kernel_rfl) (fun _ h => by cases h) fnExactReadBand_row_tie rfl ⟨rfl, rfl⟩ (by kernel_rfl) rfl
    (fun f fn hf hfn => by
      obtain rfl : f = 8 := Option.some.inj ((show Tryd.prog.funcNamed Rows.fnExactReadBandRow.func = some 8 by kernel_rfl).symm.trans hf) |>.symm
      obtain rfl : fn = Tryd.f8 := (Option.some.inj (Tryd.func8.symm.trans hfn)).symm
      refine ⟨by kernel_rfl, fun j t ht => ?_⟩
      obtain ⟨hj, rfl⟩ := Array.getElem?_eq_some_iff.1 ht
      exact (Bool.not_eq_true' _).mp (Array.all_eq_true.1 wants j hj))
    (by kernel_rfl)
#print axioms proved
end Go.Proofs.YtbhegklilcpbmaaDoor.fnExactReadBand
