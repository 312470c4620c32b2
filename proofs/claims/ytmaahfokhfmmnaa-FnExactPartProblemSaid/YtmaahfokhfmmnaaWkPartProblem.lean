/-
  The walks that the law FnExactPartProblem reaches: each function computes its model. Printed by our own program.
-/
import Derived.Test.YtmaahfokhfmmnaaProg
import Derived.Test.YtmaahfokhfmmnaaMod
import Derived.Test.YtmaahfokhfmmnaaMore
import Derived.KernelRfl
import Derived.Test.YtmaahfokhfmmnaaWkPartProblema
namespace Go.Proofs.Ytmaahfokhfmmnaa.fnExactPartProblemW
open Go Go.RowKit Go.Wk
set_option linter.unusedVariables false
set_option maxRecDepth 100000


theorem c_impl_ValidProblem {p_0 : GProblem} {r : Bool} (h : m_impl_ValidProblem p_0 = some r) : CallJ Try.prog 25 [(pAgg (cGProblem p_0))] (pEq (.bool r)) := by
  unfold m_impl_ValidProblem at h
  refine CallJ.enterH Try.func25 rfl Try.ntmps25 rfl fun W I0 H => ?_
  refine Tr.weak (Γ' := [(0, (pAgg (cGProblem p_0)))]) ⟨rfl, trivial⟩ ?_
  refine Tr.seq ?_
  refine Tr.region ?_
  refine RegL.pure (p := (pPtr (cGProblem p_0))) rfl rfl rfl (J_boxA rfl (Opd.tmp rfl)) ?_
  refine RegL.pure (p := (pEq (.bool false))) rfl rfl rfl (J_assign rfl Opd.con) ?_
  refine RegL.nil ?_
  refine Ct.then_tr ?_
  refine Tr.weak (Γ' := [(1, (pPtr (cGProblem p_0)))]) ⟨rfl, trivial⟩ ?_
  refine Tr.seq ?_
  refine Tr.seq ?_
  replace h := bind_some h; obtain ⟨x1, hx1, h⟩ := h
  refine Tr.cut (γ := Unit) (Γm := fun g => [(1, (pPtr (cGProblem p_0))), (18, (pEq (.bool x1)))]) (Ωm := fun g => []) ?_ (fun g4 => ?_)
  · clear h
    have h := hx1
    clear hx1
    refine Tr.region ?_
    refine RegL.pure (p := (pPtr ((cSl 1 (cSl 1 (cK .i64))) p_0.Domains))) rfl rfl rfl (J_fieldAddr rfl Try.underlying32 rfl sz27 (by decide) (Opd.tmp rfl) rfl) ?_
    refine RegL.pure (p := (pSl 1 (cSl 1 (cK .i64)) p_0.Domains)) rfl rfl rfl (J_load rfl Try.isAgg27 (Opd.tmp rfl)) ?_
    replace h := bind_some h; obtain ⟨x2, hx2, h⟩ := h
    refine RegL.pure (p := (pEq (.bool x2))) rfl rfl rfl (J_call rfl Try.call63 (c_impl_domainsOk hx2) (Opds.cons (Opd.tmp rfl) Opds.nil)) ?_
    refine RegL.pure (p := (pEq (.bool (!x2)))) rfl rfl rfl (J_not rfl (Opd.tmp rfl)) ?_
    refine RegL.pure (p := (pEq (.bool (!x2)))) rfl rfl rfl (J_move rfl (Opd.tmp rfl)) ?_
    rcases Bool.eq_false_or_eq_true (!x2) with hc3 | hc3
    · replace h := bif_t hc3 h
      refine RegL.skipG rfl rfl rfl hc3 rfl rfl ?_
      refine RegL.skipG rfl rfl rfl hc3 rfl rfl ?_
      refine RegL.skipG rfl rfl rfl hc3 rfl rfl ?_
      refine RegL.skipG rfl rfl rfl hc3 rfl rfl ?_
      refine RegL.skipG rfl rfl rfl hc3 rfl rfl ?_
      refine RegL.skipG rfl rfl rfl hc3 rfl rfl ?_
      refine RegL.skipG rfl rfl rfl hc3 rfl rfl ?_
      refine RegL.pure (p := (pEq (.bool true))) rfl rfl rfl (J_pick rfl (Opd.tmp rfl) (fun _ => Opd.con) (fun hf => absurd (hc3.symm.trans hf) (by decide))) ?_
      refine RegL.nil ?_
      replace h := Option.some.inj h; subst h
      exact Ct.mid () rfl ⟨rfl, rfl, trivial⟩
    · replace h := bif_f hc3 h
      refine RegL.pureG (p := (pPtr ((cSl 1 (cSl 1 (cK .i64))) p_0.Apart))) rfl rfl rfl hc3 rfl rfl (J_fieldAddr rfl Try.underlying32 rfl sz27 (by decide) (Opd.tmp rfl) rfl) ?_
      refine RegL.pureG (p := (pSl 1 (cSl 1 (cK .i64)) p_0.Apart)) rfl rfl rfl hc3 rfl rfl (J_load rfl Try.isAgg27 (Opd.tmp rfl)) ?_
      refine RegL.pureG (p := (pEq (.int .i64 (p_0.Apart.length : Int)))) rfl rfl rfl hc3 rfl rfl (J_len rfl Try.underlying27 (Opd.tmp rfl) rfl) ?_
      refine RegL.pureG (p := (pPtr ((cSl 1 (cSl 1 (cK .i64))) p_0.Domains))) rfl rfl rfl hc3 rfl rfl (J_fieldAddr rfl Try.underlying32 rfl sz27 (by decide) (Opd.tmp rfl) rfl) ?_
      refine RegL.pureG (p := (pSl 1 (cSl 1 (cK .i64)) p_0.Domains)) rfl rfl rfl hc3 rfl rfl (J_load rfl Try.isAgg27 (Opd.tmp rfl)) ?_
      refine RegL.pureG (p := (pEq (.int .i64 (p_0.Domains.length : Int)))) rfl rfl rfl hc3 rfl rfl (J_len rfl Try.underlying27 (Opd.tmp rfl) rfl) ?_
      refine RegL.pureG (p := (pEq (.bool ((p_0.Apart.length : Int) != (p_0.Domains.length : Int))))) rfl rfl rfl hc3 rfl rfl (J_bin rfl (Opd.tmp rfl) (Opd.tmp rfl) B_neq) ?_
      refine RegL.pure (p := (pEq (.bool ((p_0.Apart.length : Int) != (p_0.Domains.length : Int))))) rfl rfl rfl (J_pick rfl (Opd.tmp rfl) (fun hf => absurd (hc3.symm.trans hf) (by decide)) (fun _ => (Opd.tmp rfl))) ?_
      refine RegL.nil ?_
      replace h := Option.some.inj h; subst h
      exact Ct.mid () rfl ⟨rfl, rfl, trivial⟩
  · clear hx1
    refine Ct.then_tr ?_
    refine Tr.weak (Γ' := [(1, (pPtr (cGProblem p_0))), (18, (pEq (.bool x1)))]) ⟨rfl, rfl, trivial⟩ ?_
    refine Tr.cond (Opd.tmp rfl) (fun hc => ?_) (fun hc => ?_)
    · replace h := bif_t hc h
      refine Tr.seq ?_
      refine Tr.region ?_
      refine RegL.pure (p := (pEq (.bool false))) rfl rfl rfl (J_assign rfl Opd.con) ?_
      refine RegL.nil ?_
      refine Ct.then_tr ?_
      refine Tr.weak (Γ' := [(2, (pEq (.bool false)))]) ⟨rfl, trivial⟩ ?_
      refine Tr.ret ?_
      refine Ct.then_ret ?_
      replace h := Option.some.inj h; subst h
      exact Ct.retH1 (Ωx := []) () rfl (RvOk.tmp rfl) rfl
    · replace h := bif_f hc h
      refine Tr.skip ?_
      refine Ct.then_tr ?_
      refine Tr.weak (Γ' := [(1, (pPtr (cGProblem p_0)))]) ⟨rfl, trivial⟩ ?_
      refine Tr.seq ?_
      refine Tr.seq ?_
      refine Tr.region ?_
      refine RegL.pure (p := (pPtr ((cSl 1 (cSl 1 (cK .i64))) p_0.Apart))) rfl rfl rfl (J_fieldAddr rfl Try.underlying32 rfl sz27 (by decide) (Opd.tmp rfl) rfl) ?_
      refine RegL.pure (p := (pSl 1 (cSl 1 (cK .i64)) p_0.Apart)) rfl rfl rfl (J_load rfl Try.isAgg27 (Opd.tmp rfl)) ?_
      refine RegL.pure (p := (pEq (.int .i64 (p_0.Apart.length : Int)))) rfl rfl rfl (J_len rfl Try.underlying27 (Opd.tmp rfl) rfl) ?_
      refine RegL.pure (p := (pEq (.int .i64 (0 : Int)))) rfl rfl rfl (J_move rfl Opd.con) ?_
      refine RegL.nil ?_
      refine Ct.then_tr ?_
      refine Tr.weak (Γ' := [(1, (pPtr (cGProblem p_0))), (20, (pSl 1 (cSl 1 (cK .i64)) p_0.Apart)), (21, (pEq (.int .i64 (p_0.Apart.length : Int)))), (22, (pEq (.int .i64 (0 : Int))))]) ⟨rfl, rfl, rfl, rfl, trivial⟩ ?_
      refine Tr.block ?_
      refine Tr.weak (Γ' := [(1, (pPtr (cGProblem p_0))), (20, (pSl 1 (cSl 1 (cK .i64)) p_0.Apart)), (21, (pEq (.int .i64 (p_0.Apart.length : Int)))), (22, (pEq (.int .i64 (0 : Int))))]) ⟨rfl, rfl, rfl, rfl, trivial⟩ ?_
      refine Tr.loop (γ := Unit) (σ := Int) (Γσ := fun s g => [(1, (pPtr (cGProblem p_0))), (20, (pSl 1 (cSl 1 (cK .i64)) p_0.Apart)), (21, (pEq (.int .i64 (p_0.Apart.length : Int)))), (22, (pEq (.int .i64 s)))]) (Ωσ := fun s g => []) (g := ()) h ?_
      clear h
      rintro v6 g7 t h
      replace h : m_impl_ValidProblem_B5 p_0 v6 = some t := h
      unfold m_impl_ValidProblem_B5 at h
      refine Tr.weakO (Γ' := [(1, (pPtr (cGProblem p_0))), (20, (pSl 1 (cSl 1 (cK .i64)) p_0.Apart)), (21, (pEq (.int .i64 (p_0.Apart.length : Int)))), (22, (pEq (.int .i64 v6)))]) (Ω' := []) rfl ⟨rfl, rfl, rfl, rfl, trivial⟩ ?_
      refine Tr.seq ?_
      refine Tr.region ?_
      refine RegL.pure (p := (pEq (.bool (decide (v6 < (p_0.Apart.length : Int)))))) rfl rfl rfl (J_bin rfl (Opd.tmp rfl) (Opd.tmp rfl) B_lss) ?_
      refine RegL.nil ?_
      refine Ct.then_tr ?_
      refine Tr.weak (Γ' := [(1, (pPtr (cGProblem p_0))), (20, (pSl 1 (cSl 1 (cK .i64)) p_0.Apart)), (21, (pEq (.int .i64 (p_0.Apart.length : Int)))), (22, (pEq (.int .i64 v6))), (23, (pEq (.bool (decide (v6 < (p_0.Apart.length : Int))))))]) ⟨rfl, rfl, rfl, rfl, rfl, trivial⟩ ?_
      refine Tr.seq ?_
      refine Tr.cond (Opd.tmp rfl) (fun hc => ?_) (fun hc => ?_)
      · replace h := bif_t hc h
        refine Tr.skip ?_
        refine Ct.then_tr ?_
        refine Tr.weak (Γ' := [(1, (pPtr (cGProblem p_0))), (20, (pSl 1 (cSl 1 (cK .i64)) p_0.Apart)), (21, (pEq (.int .i64 (p_0.Apart.length : Int)))), (22, (pEq (.int .i64 v6)))]) ⟨rfl, rfl, rfl, rfl, trivial⟩ ?_
        refine Tr.seq ?_
        refine Tr.block ?_
        refine Tr.seq ?_
        refine Tr.region ?_
        refine RegL.pure (p := (pEq (.int .i64 v6))) rfl rfl rfl (J_move rfl (Opd.tmp rfl)) ?_
        replace h := bind_some h; obtain ⟨x8, hx8, h⟩ := h
        refine RegL.pure (p := (pPtr ((cSl 1 (cK .i64)) x8))) rfl rfl rfl (J_idx rfl Try.underlying27 sz22 (Opd.tmp rfl) (Opd.tmp rfl) hx8) ?_
        refine RegL.pure (p := (pSl 1 (cK .i64) x8)) rfl rfl rfl (J_load rfl Try.isAgg22 (Opd.tmp rfl)) ?_
        refine RegL.pure (p := (pEq (.int .i64 v6))) rfl rfl rfl (J_assign rfl (Opd.tmp rfl)) ?_
        refine RegL.pure (p := (pSl 1 (cK .i64) x8)) rfl rfl rfl (J_assign rfl (Opd.tmp rfl)) ?_
        refine RegL.nil ?_
        refine Ct.then_tr ?_
        refine Tr.weak (Γ' := [(1, (pPtr (cGProblem p_0))), (3, (pEq (.int .i64 v6))), (4, (pSl 1 (cK .i64) x8)), (20, (pSl 1 (cSl 1 (cK .i64)) p_0.Apart)), (21, (pEq (.int .i64 (p_0.Apart.length : Int)))), (22, (pEq (.int .i64 v6)))]) ⟨rfl, rfl, rfl, rfl, rfl, rfl, trivial⟩ ?_
        refine Tr.seq ?_
        refine Tr.seq ?_
        replace h := bind_some h; obtain ⟨x9, hx9, h⟩ := h
        refine Tr.cut (γ := Unit) (Γm := fun g => [(1, (pPtr (cGProblem p_0))), (3, (pEq (.int .i64 v6))), (4, (pSl 1 (cK .i64) x8)), (20, (pSl 1 (cSl 1 (cK .i64)) p_0.Apart)), (21, (pEq (.int .i64 (p_0.Apart.length : Int)))), (22, (pEq (.int .i64 v6))), (44, (pEq (.bool x9)))]) (Ωm := fun g => []) ?_ (fun g14 => ?_)
        · clear h
          have h := hx9
          clear hx9
          refine Tr.region ?_
          refine RegL.pure (p := (pSl 1 (cK .i64) x8)) rfl rfl rfl (J_move rfl (Opd.tmp rfl)) ?_
          refine RegL.pure (p := (pEq (.int .i64 (x8.length : Int)))) rfl rfl rfl (J_len rfl Try.underlying22 (Opd.tmp rfl) rfl) ?_
          refine RegL.pure (p := (pPtr ((cSl 1 (cSl 1 (cK .i64))) p_0.Domains))) rfl rfl rfl (J_fieldAddr rfl Try.underlying32 rfl sz27 (by decide) (Opd.tmp rfl) rfl) ?_
          refine RegL.pure (p := (pSl 1 (cSl 1 (cK .i64)) p_0.Domains)) rfl rfl rfl (J_load rfl Try.isAgg27 (Opd.tmp rfl)) ?_
          refine RegL.pure (p := (pEq (.int .i64 (p_0.Domains.length : Int)))) rfl rfl rfl (J_len rfl Try.underlying27 (Opd.tmp rfl) rfl) ?_
          refine RegL.pure (p := (pEq (.bool ((x8.length : Int) != (p_0.Domains.length : Int))))) rfl rfl rfl (J_bin rfl (Opd.tmp rfl) (Opd.tmp rfl) B_neq) ?_
          refine RegL.pure (p := (pEq (.bool ((x8.length : Int) != (p_0.Domains.length : Int))))) rfl rfl rfl (J_move rfl (Opd.tmp rfl)) ?_
          rcases Bool.eq_false_or_eq_true ((x8.length : Int) != (p_0.Domains.length : Int)) with hc10 | hc10
          · replace h := bif_t hc10 h
            refine RegL.skipG rfl rfl rfl hc10 rfl rfl ?_
            refine RegL.skipG rfl rfl rfl hc10 rfl rfl ?_
            refine RegL.skipG rfl rfl rfl hc10 rfl rfl ?_
            refine RegL.pure (p := (pEq (.bool true))) rfl rfl rfl (J_pick rfl (Opd.tmp rfl) (fun _ => Opd.con) (fun hf => absurd (hc10.symm.trans hf) (by decide))) ?_
            refine RegL.pure (p := (pEq (.bool true))) rfl rfl rfl (J_move rfl (Opd.tmp rfl)) ?_
            refine RegL.skipG rfl rfl rfl rfl rfl rfl ?_
            refine RegL.skipG rfl rfl rfl rfl rfl rfl ?_
            refine RegL.skipG rfl rfl rfl rfl rfl rfl ?_
            refine RegL.skipG rfl rfl rfl rfl rfl rfl ?_
            refine RegL.skipG rfl rfl rfl rfl rfl rfl ?_
            refine RegL.pure (p := (pEq (.bool true))) rfl rfl rfl (J_pick rfl (Opd.tmp rfl) (fun _ => Opd.con) (fun hf => absurd hf (by decide))) ?_
            refine RegL.nil ?_
            replace h := Option.some.inj h; subst h
            exact Ct.mid () rfl ⟨rfl, rfl, rfl, rfl, rfl, rfl, rfl, trivial⟩
          · replace h := bif_f hc10 h
            refine RegL.pureG (p := (pSl 1 (cK .i64) x8)) rfl rfl rfl hc10 rfl rfl (J_move rfl (Opd.tmp rfl)) ?_
            replace h := bind_some h; obtain ⟨x11, hx11, h⟩ := h
            refine RegL.pureG (p := (pEq (.bool x11))) rfl rfl rfl hc10 rfl rfl (J_call rfl Try.call56 (c_impl_allWithin hx11) (Opds.cons (Opd.tmp rfl) (Opds.cons Opd.con (Opds.cons Opd.con Opds.nil)))) ?_
            refine RegL.pureG (p := (pEq (.bool (!x11)))) rfl rfl rfl hc10 rfl rfl (J_not rfl (Opd.tmp rfl)) ?_
            refine RegL.pure (p := (pEq (.bool (!x11)))) rfl rfl rfl (J_pick rfl (Opd.tmp rfl) (fun hf => absurd (hc10.symm.trans hf) (by decide)) (fun _ => (Opd.tmp rfl))) ?_
            refine RegL.pure (p := (pEq (.bool (!x11)))) rfl rfl rfl (J_move rfl (Opd.tmp rfl)) ?_
            rcases Bool.eq_false_or_eq_true (!x11) with hc12 | hc12
            · replace h := bif_t hc12 h
              refine RegL.skipG rfl rfl rfl hc12 rfl rfl ?_
              refine RegL.skipG rfl rfl rfl hc12 rfl rfl ?_
              refine RegL.skipG rfl rfl rfl hc12 rfl rfl ?_
              refine RegL.skipG rfl rfl rfl hc12 rfl rfl ?_
              refine RegL.skipG rfl rfl rfl hc12 rfl rfl ?_
              refine RegL.pure (p := (pEq (.bool true))) rfl rfl rfl (J_pick rfl (Opd.tmp rfl) (fun _ => Opd.con) (fun hf => absurd (hc12.symm.trans hf) (by decide))) ?_
              refine RegL.nil ?_
              replace h := Option.some.inj h; subst h
              exact Ct.mid () rfl ⟨rfl, rfl, rfl, rfl, rfl, rfl, rfl, trivial⟩
            · replace h := bif_f hc12 h
              refine RegL.pureG (p := (pSl 1 (cK .i64) x8)) rfl rfl rfl hc12 rfl rfl (J_move rfl (Opd.tmp rfl)) ?_
              refine RegL.pureG (p := (pEq (.int .i64 v6))) rfl rfl rfl hc12 rfl rfl (J_move rfl (Opd.tmp rfl)) ?_
              replace h := bind_some h; obtain ⟨x13, hx13, h⟩ := h
              refine RegL.pureG (p := (pPtr ((cK .i64) x13))) rfl rfl rfl hc12 rfl rfl (J_idx rfl Try.underlying22 sz2 (Opd.tmp rfl) (Opd.tmp rfl) hx13) ?_
              refine RegL.pureG (p := (pEq (.int .i64 x13))) rfl rfl rfl hc12 rfl rfl (J_load rfl Try.isAgg2 (Opd.tmp rfl)) ?_
              refine RegL.pureG (p := (pEq (.bool (x13 != (0 : Int))))) rfl rfl rfl hc12 rfl rfl (J_bin rfl (Opd.tmp rfl) Opd.con B_neq) ?_
              refine RegL.pure (p := (pEq (.bool (x13 != (0 : Int))))) rfl rfl rfl (J_pick rfl (Opd.tmp rfl) (fun hf => absurd (hc12.symm.trans hf) (by decide)) (fun _ => (Opd.tmp rfl))) ?_
              refine RegL.nil ?_
              replace h := Option.some.inj h; subst h
              exact Ct.mid () rfl ⟨rfl, rfl, rfl, rfl, rfl, rfl, rfl, trivial⟩
        · clear hx9
          refine Ct.then_tr ?_
          refine Tr.weak (Γ' := [(1, (pPtr (cGProblem p_0))), (3, (pEq (.int .i64 v6))), (4, (pSl 1 (cK .i64) x8)), (20, (pSl 1 (cSl 1 (cK .i64)) p_0.Apart)), (21, (pEq (.int .i64 (p_0.Apart.length : Int)))), (22, (pEq (.int .i64 v6))), (44, (pEq (.bool x9)))]) ⟨rfl, rfl, rfl, rfl, rfl, rfl, rfl, trivial⟩ ?_
          refine Tr.cond (Opd.tmp rfl) (fun hc => ?_) (fun hc => ?_)
          · replace h := bif_t hc h
            refine Tr.seq ?_
            refine Tr.region ?_
            refine RegL.pure (p := (pEq (.bool false))) rfl rfl rfl (J_assign rfl Opd.con) ?_
            refine RegL.nil ?_
            refine Ct.then_tr ?_
            refine Tr.weak (Γ' := [(2, (pEq (.bool false)))]) ⟨rfl, trivial⟩ ?_
            refine Tr.ret ?_
            refine Ct.then_ret ?_
            refine Ct.blk_ret ?_
            refine Ct.then_ret ?_
            replace h := map_some h; obtain ⟨r1, h, rfl⟩ := h
            refine Ct.out_ret fun e => ?_
            subst e
            refine Ct.blk_ret ?_
            refine Ct.then_ret ?_
            replace h := Option.some.inj h; subst h
            exact Ct.retH1 (Ωx := []) () rfl (RvOk.tmp rfl) rfl
          · replace h := bif_f hc h
            refine Tr.skip ?_
            refine Ct.then_tr ?_
            refine Tr.weak (Γ' := [(1, (pPtr (cGProblem p_0))), (3, (pEq (.int .i64 v6))), (4, (pSl 1 (cK .i64) x8)), (20, (pSl 1 (cSl 1 (cK .i64)) p_0.Apart)), (21, (pEq (.int .i64 (p_0.Apart.length : Int)))), (22, (pEq (.int .i64 v6)))]) ⟨rfl, rfl, rfl, rfl, rfl, rfl, trivial⟩ ?_
            refine Tr.seq ?_
            refine Tr.region ?_
            refine RegL.pure (p := (pEq (.int .i64 v6))) rfl rfl rfl (J_move rfl (Opd.tmp rfl)) ?_
            refine RegL.pure (p := (pEq (.int .i64 (0 : Int)))) rfl rfl rfl (J_move rfl Opd.con) ?_
            refine RegL.nil ?_
            refine Ct.then_tr ?_
            refine Tr.weak (Γ' := [(1, (pPtr (cGProblem p_0))), (3, (pEq (.int .i64 v6))), (4, (pSl 1 (cK .i64) x8)), (20, (pSl 1 (cSl 1 (cK .i64)) p_0.Apart)), (21, (pEq (.int .i64 (p_0.Apart.length : Int)))), (22, (pEq (.int .i64 v6))), (45, (pEq (.int .i64 v6))), (46, (pEq (.int .i64 (0 : Int))))]) ⟨rfl, rfl, rfl, rfl, rfl, rfl, rfl, rfl, trivial⟩ ?_
            refine Tr.block ?_
            refine Tr.weak (Γ' := [(1, (pPtr (cGProblem p_0))), (3, (pEq (.int .i64 v6))), (4, (pSl 1 (cK .i64) x8)), (20, (pSl 1 (cSl 1 (cK .i64)) p_0.Apart)), (21, (pEq (.int .i64 (p_0.Apart.length : Int)))), (22, (pEq (.int .i64 v6))), (45, (pEq (.int .i64 v6))), (46, (pEq (.int .i64 (0 : Int))))]) ⟨rfl, rfl, rfl, rfl, rfl, rfl, rfl, rfl, trivial⟩ ?_
            refine Tr.loop (γ := Unit) (σ := Int) (Γσ := fun s g => [(1, (pPtr (cGProblem p_0))), (3, (pEq (.int .i64 v6))), (4, (pSl 1 (cK .i64) x8)), (20, (pSl 1 (cSl 1 (cK .i64)) p_0.Apart)), (21, (pEq (.int .i64 (p_0.Apart.length : Int)))), (22, (pEq (.int .i64 v6))), (45, (pEq (.int .i64 v6))), (46, (pEq (.int .i64 s)))]) (Ωσ := fun s g => []) (g := ()) h ?_
            clear h
            rintro v16 g17 t h
            replace h : m_impl_ValidProblem_B15 p_0 v6 x8 v16 = some t := h
            unfold m_impl_ValidProblem_B15 at h
            refine Tr.weakO (Γ' := [(1, (pPtr (cGProblem p_0))), (3, (pEq (.int .i64 v6))), (4, (pSl 1 (cK .i64) x8)), (20, (pSl 1 (cSl 1 (cK .i64)) p_0.Apart)), (21, (pEq (.int .i64 (p_0.Apart.length : Int)))), (22, (pEq (.int .i64 v6))), (45, (pEq (.int .i64 v6))), (46, (pEq (.int .i64 v16)))]) (Ω' := []) rfl ⟨rfl, rfl, rfl, rfl, rfl, rfl, rfl, rfl, trivial⟩ ?_
            refine Tr.seq ?_
            refine Tr.region ?_
            refine RegL.pure (p := (pEq (.bool (decide (v16 < v6))))) rfl rfl rfl (J_bin rfl (Opd.tmp rfl) (Opd.tmp rfl) B_lss) ?_
            refine RegL.nil ?_
            refine Ct.then_tr ?_
            refine Tr.weak (Γ' := [(1, (pPtr (cGProblem p_0))), (3, (pEq (.int .i64 v6))), (4, (pSl 1 (cK .i64) x8)), (20, (pSl 1 (cSl 1 (cK .i64)) p_0.Apart)), (21, (pEq (.int .i64 (p_0.Apart.length : Int)))), (22, (pEq (.int .i64 v6))), (45, (pEq (.int .i64 v6))), (46, (pEq (.int .i64 v16))), (47, (pEq (.bool (decide (v16 < v6)))))]) ⟨rfl, rfl, rfl, rfl, rfl, rfl, rfl, rfl, rfl, trivial⟩ ?_
            refine Tr.seq ?_
            refine Tr.cond (Opd.tmp rfl) (fun hc => ?_) (fun hc => ?_)
            · replace h := bif_t hc h
              refine Tr.skip ?_
              refine Ct.then_tr ?_
              refine Tr.weak (Γ' := [(1, (pPtr (cGProblem p_0))), (3, (pEq (.int .i64 v6))), (4, (pSl 1 (cK .i64) x8)), (20, (pSl 1 (cSl 1 (cK .i64)) p_0.Apart)), (21, (pEq (.int .i64 (p_0.Apart.length : Int)))), (22, (pEq (.int .i64 v6))), (45, (pEq (.int .i64 v6))), (46, (pEq (.int .i64 v16)))]) ⟨rfl, rfl, rfl, rfl, rfl, rfl, rfl, rfl, trivial⟩ ?_
              refine Tr.seq ?_
              refine Tr.block ?_
              refine Tr.seq ?_
              refine Tr.region ?_
              refine RegL.pure (p := (pEq (.int .i64 v16))) rfl rfl rfl (J_move rfl (Opd.tmp rfl)) ?_
              refine RegL.pure (p := (pEq (.int .i64 v16))) rfl rfl rfl (J_assign rfl (Opd.tmp rfl)) ?_
              refine RegL.nil ?_
              refine Ct.then_tr ?_
              refine Tr.weak (Γ' := [(1, (pPtr (cGProblem p_0))), (3, (pEq (.int .i64 v6))), (4, (pSl 1 (cK .i64) x8)), (5, (pEq (.int .i64 v16))), (20, (pSl 1 (cSl 1 (cK .i64)) p_0.Apart)), (21, (pEq (.int .i64 (p_0.Apart.length : Int)))), (22, (pEq (.int .i64 v6))), (45, (pEq (.int .i64 v6))), (46, (pEq (.int .i64 v16)))]) ⟨rfl, rfl, rfl, rfl, rfl, rfl, rfl, rfl, rfl, trivial⟩ ?_
              refine Tr.seq ?_
              replace h := bind_some h; obtain ⟨x18, hx18, h⟩ := h
              replace h := bind_some h; obtain ⟨x19, hx19, h⟩ := h
              replace h := bind_some h; obtain ⟨x20, hx20, h⟩ := h
              refine Tr.drawD (n := 64) (m := 13) (es := [some (Ent.mk [(4, (pSl 1 (cK .i64) x8))] (pSl 1 (cK .i64) x8) true), some (Ent.mk [(5, (pEq (.int .i64 v16)))] (pEq (.int .i64 v16)) true), some (Ent.mk [(49, (pSl 1 (cK .i64) x8)), (50, (pEq (.int .i64 v16)))] (pPtr ((cK .i64) x18)) true), some (Ent.mk [(51, (pPtr ((cK .i64) x18)))] (pEq (.int .i64 x18)) true), some (Ent.mk [(1, (pPtr (cGProblem p_0)))] (pPtr ((cSl 1 (cSl 1 (cK .i64))) p_0.Apart)) true), some (Ent.mk [(53, (pPtr ((cSl 1 (cSl 1 (cK .i64))) p_0.Apart)))] (pSl 1 (cSl 1 (cK .i64)) p_0.Apart) true), some (Ent.mk [(5, (pEq (.int .i64 v16)))] (pEq (.int .i64 v16)) true), some (Ent.mk [(54, (pSl 1 (cSl 1 (cK .i64)) p_0.Apart)), (55, (pEq (.int .i64 v16)))] (pPtr ((cSl 1 (cK .i64)) x19)) true), some (Ent.mk [(56, (pPtr ((cSl 1 (cK .i64)) x19)))] (pSl 1 (cK .i64) x19) true), some (Ent.mk [(3, (pEq (.int .i64 v6)))] (pEq (.int .i64 v6)) true), some (Ent.mk [(57, (pSl 1 (cK .i64) x19)), (58, (pEq (.int .i64 v6)))] (pPtr ((cK .i64) x20)) true), some (Ent.mk [(59, (pPtr ((cK .i64) x20)))] (pEq (.int .i64 x20)) true), some (Ent.mk [(52, (pEq (.int .i64 x18))), (60, (pEq (.int .i64 x20)))] (pEq (.bool (x18 != x20))) true)]) (rd := [[4], [5], [49, 50], [51], [1], [53], [5], [54, 55], [56], [3], [57, 58], [59], [52, 60]]) rfl hmix (by kernel_rfl) fun hD => ?_
              refine RD.fin (es := [Ent.mk [(4, (pSl 1 (cK .i64) x8))] (pSl 1 (cK .i64) x8) true, Ent.mk [(5, (pEq (.int .i64 v16)))] (pEq (.int .i64 v16)) true, Ent.mk [(49, (pSl 1 (cK .i64) x8)), (50, (pEq (.int .i64 v16)))] (pPtr ((cK .i64) x18)) true, Ent.mk [(51, (pPtr ((cK .i64) x18)))] (pEq (.int .i64 x18)) true, Ent.mk [(1, (pPtr (cGProblem p_0)))] (pPtr ((cSl 1 (cSl 1 (cK .i64))) p_0.Apart)) true, Ent.mk [(53, (pPtr ((cSl 1 (cSl 1 (cK .i64))) p_0.Apart)))] (pSl 1 (cSl 1 (cK .i64)) p_0.Apart) true, Ent.mk [(5, (pEq (.int .i64 v16)))] (pEq (.int .i64 v16)) true, Ent.mk [(54, (pSl 1 (cSl 1 (cK .i64)) p_0.Apart)), (55, (pEq (.int .i64 v16)))] (pPtr ((cSl 1 (cK .i64)) x19)) true, Ent.mk [(56, (pPtr ((cSl 1 (cK .i64)) x19)))] (pSl 1 (cK .i64) x19) true, Ent.mk [(3, (pEq (.int .i64 v6)))] (pEq (.int .i64 v6)) true, Ent.mk [(57, (pSl 1 (cK .i64) x19)), (58, (pEq (.int .i64 v6)))] (pPtr ((cK .i64) x20)) true, Ent.mk [(59, (pPtr ((cK .i64) x20)))] (pEq (.int .i64 x20)) true, Ent.mk [(52, (pEq (.int .i64 x18))), (60, (pEq (.int .i64 x20)))] (pEq (.bool (x18 != x20))) true]) (done := []) hD ⟨.inr ⟨(OpJ.w (J_move rfl (Opd.tmp rfl))), ⟨rfl, trivial⟩, rfl, rfl⟩, ⟨.inr ⟨(OpJ.w (J_move rfl (Opd.tmp rfl))), ⟨rfl, trivial⟩, rfl, rfl⟩, ⟨.inr ⟨(OpJ.w (J_idx rfl Try.underlying22 sz2 (Opd.tmp rfl) (Opd.tmp rfl) hx18)), ⟨rfl, rfl, trivial⟩, rfl, rfl⟩, ⟨.inr ⟨(OpJ.w (J_load rfl Try.isAgg2 (Opd.tmp rfl))), ⟨rfl, trivial⟩, rfl, rfl⟩, ⟨.inr ⟨(OpJ.w (J_fieldAddr rfl Try.underlying32 rfl sz27 (by decide) (Opd.tmp rfl) rfl)), ⟨rfl, trivial⟩, rfl, rfl⟩, ⟨.inr ⟨(OpJ.w (J_load rfl Try.isAgg27 (Opd.tmp rfl))), ⟨rfl, trivial⟩, rfl, rfl⟩, ⟨.inr ⟨(OpJ.w (J_move rfl (Opd.tmp rfl))), ⟨rfl, trivial⟩, rfl, rfl⟩, ⟨.inr ⟨(OpJ.w (J_idx rfl Try.underlying27 sz22 (Opd.tmp rfl) (Opd.tmp rfl) hx19)), ⟨rfl, rfl, trivial⟩, rfl, rfl⟩, ⟨.inr ⟨(OpJ.w (J_load rfl Try.isAgg22 (Opd.tmp rfl))), ⟨rfl, trivial⟩, rfl, rfl⟩, ⟨.inr ⟨(OpJ.w (J_move rfl (Opd.tmp rfl))), ⟨rfl, trivial⟩, rfl, rfl⟩, ⟨.inr ⟨(OpJ.w (J_idx rfl Try.underlying22 sz2 (Opd.tmp rfl) (Opd.tmp rfl) hx20)), ⟨rfl, rfl, trivial⟩, rfl, rfl⟩, ⟨.inr ⟨(OpJ.w (J_load rfl Try.isAgg2 (Opd.tmp rfl))), ⟨rfl, trivial⟩, rfl, rfl⟩, ⟨.inr ⟨(OpJ.w (J_bin rfl (Opd.tmp rfl) (Opd.tmp rfl) B_neq)), ⟨rfl, rfl, trivial⟩, rfl, rfl⟩, trivial⟩⟩⟩⟩⟩⟩⟩⟩⟩⟩⟩⟩⟩ ?_
              refine RegL.nil ?_
              refine Ct.then_tr ?_
              refine Tr.weak (Γ' := [(1, (pPtr (cGProblem p_0))), (3, (pEq (.int .i64 v6))), (4, (pSl 1 (cK .i64) x8)), (20, (pSl 1 (cSl 1 (cK .i64)) p_0.Apart)), (21, (pEq (.int .i64 (p_0.Apart.length : Int)))), (22, (pEq (.int .i64 v6))), (45, (pEq (.int .i64 v6))), (46, (pEq (.int .i64 v16))), (61, (pEq (.bool (x18 != x20))))]) ⟨rfl, rfl, rfl, rfl, rfl, rfl, rfl, rfl, rfl, trivial⟩ ?_
              refine Tr.cond (Opd.tmp rfl) (fun hc => ?_) (fun hc => ?_)
              · replace h := bif_t hc h
                refine Tr.seq ?_
                refine Tr.region ?_
                refine RegL.pure (p := (pEq (.bool false))) rfl rfl rfl (J_assign rfl Opd.con) ?_
                refine RegL.nil ?_
                refine Ct.then_tr ?_
                refine Tr.weak (Γ' := [(2, (pEq (.bool false)))]) ⟨rfl, trivial⟩ ?_
                refine Tr.ret ?_
                refine Ct.blk_ret ?_
                refine Ct.then_ret ?_
                replace h := map_some h; obtain ⟨r1, h, rfl⟩ := h
                refine Ct.out_ret fun e => ?_
                subst e
                refine Ct.blk_ret ?_
                refine Ct.blk_ret ?_
                refine Ct.then_ret ?_
                replace h := map_some h; obtain ⟨r1, h, rfl⟩ := h
                refine Ct.out_ret fun e => ?_
                subst e
                refine Ct.blk_ret ?_
                refine Ct.then_ret ?_
                replace h := Option.some.inj h; subst h
                exact Ct.retH1 (Ωx := []) () rfl (RvOk.tmp rfl) rfl
              · replace h := bif_f hc h
                refine Tr.skip ?_
                refine Ct.blk_normal ?_
                refine Ct.then_tr ?_
                refine Tr.weak (Γ' := [(1, (pPtr (cGProblem p_0))), (3, (pEq (.int .i64 v6))), (4, (pSl 1 (cK .i64) x8)), (20, (pSl 1 (cSl 1 (cK .i64)) p_0.Apart)), (21, (pEq (.int .i64 (p_0.Apart.length : Int)))), (22, (pEq (.int .i64 v6))), (45, (pEq (.int .i64 v6))), (46, (pEq (.int .i64 v16)))]) ⟨rfl, rfl, rfl, rfl, rfl, rfl, rfl, rfl, trivial⟩ ?_
                refine Tr.region ?_
                refine RegL.pure (p := (pEq (.int .i64 (w64 (v16 + (1 : Int)))))) rfl rfl rfl (J_bin rfl (Opd.tmp rfl) Opd.con B_add) ?_
                refine RegL.pure (p := (pEq (.int .i64 (w64 (v16 + (1 : Int)))))) rfl rfl rfl (J_move rfl (Opd.tmp rfl)) ?_
                refine RegL.nil ?_
                replace h := Option.some.inj h; subst h
                exact Ct.again () rfl ⟨rfl, rfl, rfl, rfl, rfl, rfl, rfl, rfl, trivial⟩
            · replace h := bif_f hc h
              refine Tr.exit ?_
              refine Ct.then_exit ?_
              replace h := map_some h; obtain ⟨r1, h, rfl⟩ := h
              refine Ct.out_exit fun e => ?_
              subst e
              refine Ct.blk_exit ?_
              refine Ct.blk_normal ?_
              refine Ct.then_tr ?_
              refine Tr.weak (Γ' := [(1, (pPtr (cGProblem p_0))), (20, (pSl 1 (cSl 1 (cK .i64)) p_0.Apart)), (21, (pEq (.int .i64 (p_0.Apart.length : Int)))), (22, (pEq (.int .i64 v6)))]) ⟨rfl, rfl, rfl, rfl, trivial⟩ ?_
              refine Tr.region ?_
              refine RegL.pure (p := (pEq (.int .i64 (w64 (v6 + (1 : Int)))))) rfl rfl rfl (J_bin rfl (Opd.tmp rfl) Opd.con B_add) ?_
              refine RegL.pure (p := (pEq (.int .i64 (w64 (v6 + (1 : Int)))))) rfl rfl rfl (J_move rfl (Opd.tmp rfl)) ?_
              refine RegL.nil ?_
              replace h := Option.some.inj h; subst h
              exact Ct.again () rfl ⟨rfl, rfl, rfl, rfl, trivial⟩
      · replace h := bif_f hc h
        refine Tr.exit ?_
        refine Ct.then_exit ?_
        replace h := map_some h; obtain ⟨r1, h, rfl⟩ := h
        refine Ct.out_exit fun e => ?_
        subst e
        refine Ct.blk_exit ?_
        refine Ct.then_tr ?_
        refine Tr.weak (Γ' := []) trivial ?_
        refine Tr.seq ?_
        refine Tr.region ?_
        refine RegL.pure (p := (pEq (.bool true))) rfl rfl rfl (J_assign rfl Opd.con) ?_
        refine RegL.nil ?_
        refine Ct.then_tr ?_
        refine Tr.weak (Γ' := [(2, (pEq (.bool true)))]) ⟨rfl, trivial⟩ ?_
        refine Tr.ret ?_
        replace h := Option.some.inj h; subst h
        exact Ct.retH1 (Ωx := []) () rfl (RvOk.tmp rfl) rfl

theorem o_slices_Clone_int64_int64 {s_0 : (List Int)}  {r : (List Int)} (h : m_slices_Clone_int64_int64 s_0 = some r) : CallH Try.prog 77 [(pSl 1 (cK .i64) s_0)] [] (fun g : G3 => (pEq (.slice g.1 g.2.1 g.2.2))) (fun g : G3 => [oSl 2 1 (cK .i64) g.1 g.2.1 g.2.2 r]) := by
  unfold m_slices_Clone_int64_int64 at h
  refine CallH.enter Try.func77 rfl Try.ntmps77 rfl fun W I0 H => ?_
  refine Tr.weak (Γ' := [(0, (pSl 1 (cK .i64) s_0))]) ⟨rfl, trivial⟩ ?_
  refine Tr.seq ?_
  refine Tr.region ?_
  refine RegL.pure (p := (pEq (.slice none 0 0))) rfl rfl rfl (J_assign rfl Opd.con) ?_
  refine RegL.nil ?_
  refine Ct.then_tr ?_
  refine Tr.weak (Γ' := [(0, (pSl 1 (cK .i64) s_0))]) ⟨rfl, trivial⟩ ?_
  refine Tr.seq ?_
  refine Tr.seq ?_
  refine Tr.region ?_
  refine RegL.pure (p := (pSl 1 (cK .i64) s_0)) rfl rfl rfl (J_move rfl (Opd.tmp rfl)) ?_
  refine RegL.pure (p := (pNil s_0)) rfl rfl rfl (J_nilEq rfl Try.underlying22 (Opd.tmp rfl)) ?_
  refine RegL.nil ?_
  refine Ct.then_tr ?_
  refine Tr.weak (Γ' := [(0, (pSl 1 (cK .i64) s_0)), (4, (pNil s_0))]) ⟨rfl, rfl, trivial⟩ ?_
  refine Tr.condNil rfl (fun hl => ?_) ?_
  · replace h : some ([] : (List Int)) = some r := by subst hl; simpa [appL] using h
    refine Tr.seq ?_
    refine Tr.region ?_
    refine RegL.pure (p := (pEq (.slice none 0 0))) rfl rfl rfl (J_assign rfl Opd.con) ?_
    refine RegL.nil ?_
    refine Ct.then_tr ?_
    refine Tr.weak (Γ' := [(2, (pEq (.slice none 0 0)))]) ⟨rfl, trivial⟩ ?_
    refine Tr.ret ?_
    refine Ct.then_ret ?_
    refine Ct.re (Ω2 := [oSl 2 1 (cK .i64) none 0 0 ([] : (List Int))]) (fun h => SatO.nilRow h) ?_
    replace h := Option.some.inj h; subst h
    exact Ct.retH1 (Ωx := []) (none, 0, 0) rfl (RvOk.tmp rfl) rfl
  · refine Tr.skip ?_
    refine Ct.then_tr ?_
    refine Tr.weak (Γ' := [(0, (pSl 1 (cK .i64) s_0))]) ⟨rfl, trivial⟩ ?_
    refine Tr.seq ?_
    refine Tr.region ?_
    refine RegL.step (γ := Option Addr) (p := fun a => pEq (.slice a 0 0)) (Ω' := fun a => [oSl 2 1 (cK .i64) a 0 0 ([] : (List Int))]) rfl rfl rfl (M_buildSlice (qss := []) rfl Try.underlying22 el2 rfl Parts.nil rfl rfl) fun o3 => ?_
    refine RegL.pure (p := (pSl 1 (cK .i64) s_0)) rfl rfl rfl (J_move rfl (Opd.tmp rfl)) ?_
    replace h := bind_some h; obtain ⟨x4, hx4, h⟩ := h
    refine RegL.step (γ := Option Addr × Nat) (p := fun g => pEq (.slice g.1 x4.length g.2)) (Ω' := fun g => [oSl 2 1 (cK .i64) g.1 x4.length g.2 x4]) rfl rfl rfl (M_appendI rfl Try.underlying22 el2 (Opd.tmp rfl) (Opd.tmp rfl) hx4) fun g5 => ?_
    refine RegL.pure (p := (pEq (.slice g5.1 x4.length g5.2))) rfl rfl rfl (J_assign rfl (Opd.tmp rfl)) ?_
    refine RegL.nil ?_
    refine Ct.then_tr ?_
    refine Tr.weak (Γ' := [(2, (pEq (.slice g5.1 x4.length g5.2)))]) ⟨rfl, trivial⟩ ?_
    refine Tr.ret ?_
    replace h := Option.some.inj h; subst h
    exact Ct.retH1 (Ωx := []) (g5.1, x4.length, g5.2) rfl (RvOk.tmp rfl) rfl

theorem c_slices_Clone_int64_int64 {s_0 : (List Int)} {r : (List Int)} (h : m_slices_Clone_int64_int64 s_0 = some r) : CallJ Try.prog 77 [(pSl 1 (cK .i64) s_0)] (pSl 1 (cK .i64) r) :=
  CallH.frozen (o_slices_Clone_int64_int64 h) (fun g => (Conv.row 0 (fun _ => rfl) rfl))

theorem o_impl_PartProblem {a_0 : GProblem} {a_1 : (List Int)}  {r : (GProblem × Int)} (h : m_impl_PartProblem a_0 a_1 = some r) : CallH Try.prog 37 [(pAgg (cGProblem a_0)), (pSl 1 (cK .i64) a_1)] [] (fun g : ((G3 × List G3) × (G3 × List G3)) => (pTup [(pAgg [(pEq (.slice g.1.1.1 g.1.1.2.1 g.1.1.2.2)), (pEq (.slice g.2.1.1 g.2.1.2.1 g.2.1.2.2))]), (pEq (.int .i64 r.2))])) (fun g : ((G3 × List G3) × (G3 × List G3)) => [oSS 22 2 1 (cK .i64) g.1.1.1 g.1.1.2.1 g.1.1.2.2 g.1.2 r.1.Domains, oSS 22 2 1 (cK .i64) g.2.1.1 g.2.1.2.1 g.2.1.2.2 g.2.2 r.1.Apart]) := by
  unfold m_impl_PartProblem at h
  refine CallH.enter Try.func37 rfl Try.ntmps37 rfl fun W I0 H => ?_
  refine Tr.weak (Γ' := [(0, (pAgg (cGProblem a_0))), (1, (pSl 1 (cK .i64) a_1))]) ⟨rfl, rfl, trivial⟩ ?_
  refine Tr.seq ?_
  refine Tr.region ?_
  refine RegL.pure (p := (pPtr (cGProblem a_0))) rfl rfl rfl (J_boxA rfl (Opd.tmp rfl)) ?_
  refine RegL.step (γ := Nat) (p := fun b => pEq (.pointer (some ⟨b, 0, none⟩))) (Ω' := fun b => [oBlk b [(pEq (.slice none 0 0)), (pEq (.slice none 0 0))]]) rfl rfl rfl (M_alloc rfl zero32) fun b1 => ?_
  refine RegL.pure (p := (pEq (.int .i64 (0 : Int)))) rfl rfl rfl (J_assign rfl Opd.con) ?_
  refine RegL.nil ?_
  refine Ct.then_tr ?_
  refine Tr.weak (Γ' := [(1, (pSl 1 (cK .i64) a_1)), (2, (pPtr (cGProblem a_0))), (4, (pEq (.pointer (some ⟨b1, 0, none⟩))))]) ⟨rfl, rfl, rfl, trivial⟩ ?_
  refine Tr.seq ?_
  refine Tr.block ?_
  refine Tr.seq ?_
  refine Tr.region ?_
  refine RegL.pure (p := (pAgg (cGProblem a_0))) rfl rfl rfl (J_loadA rfl Try.isAgg32 sz32 (Opd.tmp rfl) rfl) ?_
  replace h := bind_some h; obtain ⟨x2, hx2, h⟩ := h
  refine RegL.pure (p := (pEq (.bool x2))) rfl rfl rfl (J_call rfl Try.call25 (c_impl_ValidProblem hx2) (Opds.cons (Opd.tmp rfl) Opds.nil)) ?_
  refine RegL.pure (p := (pEq (.bool (!x2)))) rfl rfl rfl (J_not rfl (Opd.tmp rfl)) ?_
  refine RegL.pure (p := (pEq (.bool (!x2)))) rfl rfl rfl (J_assign rfl (Opd.tmp rfl)) ?_
  refine RegL.nil ?_
  refine Ct.then_tr ?_
  refine Tr.weak (Γ' := [(1, (pSl 1 (cK .i64) a_1)), (2, (pPtr (cGProblem a_0))), (4, (pEq (.pointer (some ⟨b1, 0, none⟩)))), (12, (pEq (.bool (!x2))))]) ⟨rfl, rfl, rfl, rfl, trivial⟩ ?_
  refine Tr.cond (Opd.tmp rfl) (fun hc => ?_) (fun hc => ?_)
  · replace h := bif_t hc h
    refine Tr.seq ?_
    refine Tr.region ?_
    refine RegL.pure (p := (pAgg [(pEq (.slice none 0 0)), (pEq (.slice none 0 0))])) rfl rfl rfl (J_build (qss := []) rfl bl32 bz32o Parts.nil rfl) ?_
    refine RegL.stepN (γ := Unit) (p := fun _ => pAny) (Ω' := fun _ => [oBlk b1 [(pEq (.slice none 0 0)), (pEq (.slice none 0 0))]]) rfl rfl (M_storeA rfl sz32 (Opd.tmp rfl) (Opd.tmp rfl) (fun _ _ _ h => ones_of ((OneCs.cons OneC.slice (OneCs.cons OneC.slice OneCs.nil))) h) rfl rfl) fun g3 => ?_
    refine RegL.pure (p := (pEq (.int .i64 (1 : Int)))) rfl rfl rfl (J_assign rfl Opd.con) ?_
    refine RegL.nil ?_
    refine Ct.then_tr ?_
    refine Tr.weak (Γ' := [(4, (pEq (.pointer (some ⟨b1, 0, none⟩)))), (5, (pEq (.int .i64 (1 : Int))))]) ⟨rfl, rfl, trivial⟩ ?_
    refine Tr.ret ?_
    refine Ct.blk_ret ?_
    refine Ct.then_ret ?_
    refine Ct.re (Ω2 := [oSS 22 2 1 (cK .i64) none 0 0 [] ([] : (List (List Int))), oBlk b1 [(pEq (.slice none 0 0)), (pEq (.slice none 0 0))]]) (fun h => nest_nil h) ?_
    refine Ct.re (Ω2 := [oSS 22 2 1 (cK .i64) none 0 0 [] ([] : (List (List Int))), oSS 22 2 1 (cK .i64) none 0 0 [] ([] : (List (List Int))), oBlk b1 [(pEq (.slice none 0 0)), (pEq (.slice none 0 0))]]) (fun h => nest_nil h) ?_
    refine Ct.re (Ω2 := [oSS 22 2 1 (cK .i64) none 0 0 [] ([] : (List (List Int))), oSS 22 2 1 (cK .i64) none 0 0 [] ([] : (List (List Int))), oBlk b1 [(pEq (.slice none 0 0)), (pEq (.slice none 0 0))]]) (fun h => SatO.pick 1 h) ?_
    refine Ct.re (Ω2 := [oBlk b1 [(pEq (.slice none 0 0)), (pEq (.slice none 0 0))], oSS 22 2 1 (cK .i64) none 0 0 [] ([] : (List (List Int))), oSS 22 2 1 (cK .i64) none 0 0 [] ([] : (List (List Int)))]) (fun h => SatO.pick 2 h) ?_
    replace h := Option.some.inj h; subst h
    exact Ct.retH2 (Ωx := [oBlk b1 [(pEq (.slice none 0 0)), (pEq (.slice none 0 0))]]) (((none, 0, 0), []), ((none, 0, 0), [])) rfl (RvOk.cellA (i := 0) Try.isAgg32 sz32 rfl rfl rfl) (RvOk.tmp rfl) rfl rfl
  · replace h := bif_f hc h
    refine Tr.seq ?_
    replace h := bind_some h; obtain ⟨x6, hx6, h⟩ := h
    refine Tr.cut (γ := Unit) (Γm := fun g => [(1, (pSl 1 (cK .i64) a_1)), (2, (pPtr (cGProblem a_0))), (4, (pEq (.pointer (some ⟨b1, 0, none⟩)))), (17, (pEq (.bool x6)))]) (Ωm := fun g => [oBlk b1 [(pEq (.slice none 0 0)), (pEq (.slice none 0 0))]]) ?_ (fun g11 => ?_)
    · clear h
      have h := hx6
      clear hx6
      refine Tr.region ?_
      refine RegL.pure (p := (pSl 1 (cK .i64) a_1)) rfl rfl rfl (J_move rfl (Opd.tmp rfl)) ?_
      refine RegL.pure (p := (pEq (.int .i64 (a_1.length : Int)))) rfl rfl rfl (J_len rfl Try.underlying22 (Opd.tmp rfl) rfl) ?_
      refine RegL.pure (p := (pEq (.bool ((a_1.length : Int) == (0 : Int))))) rfl rfl rfl (J_bin rfl (Opd.tmp rfl) Opd.con B_eql) ?_
      refine RegL.pure (p := (pEq (.bool ((a_1.length : Int) == (0 : Int))))) rfl rfl rfl (J_move rfl (Opd.tmp rfl)) ?_
      rcases Bool.eq_false_or_eq_true ((a_1.length : Int) == (0 : Int)) with hc7 | hc7
      · replace h := bif_t hc7 h
        refine RegL.skipG rfl rfl rfl hc7 rfl rfl ?_
        refine RegL.skipG rfl rfl rfl hc7 rfl rfl ?_
        refine RegL.skipG rfl rfl rfl hc7 rfl rfl ?_
        refine RegL.pure (p := (pEq (.bool true))) rfl rfl rfl (J_pick rfl (Opd.tmp rfl) (fun _ => Opd.con) (fun hf => absurd (hc7.symm.trans hf) (by decide))) ?_
        refine RegL.pure (p := (pEq (.bool true))) rfl rfl rfl (J_move rfl (Opd.tmp rfl)) ?_
        refine RegL.skipG rfl rfl rfl rfl rfl rfl ?_
        refine RegL.skipG rfl rfl rfl rfl rfl rfl ?_
        refine RegL.skipG rfl rfl rfl rfl rfl rfl ?_
        refine RegL.skipG rfl rfl rfl rfl rfl rfl ?_
        refine RegL.skipG rfl rfl rfl rfl rfl rfl ?_
        refine RegL.skipG rfl rfl rfl rfl rfl rfl ?_
        refine RegL.skipG rfl rfl rfl rfl rfl rfl ?_
        refine RegL.pure (p := (pEq (.bool true))) rfl rfl rfl (J_pick rfl (Opd.tmp rfl) (fun _ => Opd.con) (fun hf => absurd hf (by decide))) ?_
        refine RegL.pure (p := (pEq (.bool true))) rfl rfl rfl (J_assign rfl (Opd.tmp rfl)) ?_
        refine RegL.nil ?_
        replace h := Option.some.inj h; subst h
        exact Ct.mid () rfl ⟨rfl, rfl, rfl, rfl, trivial⟩
      · replace h := bif_f hc7 h
        refine RegL.pureG (p := (pSl 1 (cK .i64) a_1)) rfl rfl rfl hc7 rfl rfl (J_move rfl (Opd.tmp rfl)) ?_
        replace h := bind_some h; obtain ⟨x8, hx8, h⟩ := h
        refine RegL.pureG (p := (pEq (.bool x8))) rfl rfl rfl hc7 rfl rfl (J_call rfl Try.call76 (c_impl_increasing hx8) (Opds.cons (Opd.tmp rfl) Opds.nil)) ?_
        refine RegL.pureG (p := (pEq (.bool (!x8)))) rfl rfl rfl hc7 rfl rfl (J_not rfl (Opd.tmp rfl)) ?_
        refine RegL.pure (p := (pEq (.bool (!x8)))) rfl rfl rfl (J_pick rfl (Opd.tmp rfl) (fun hf => absurd (hc7.symm.trans hf) (by decide)) (fun _ => (Opd.tmp rfl))) ?_
        refine RegL.pure (p := (pEq (.bool (!x8)))) rfl rfl rfl (J_move rfl (Opd.tmp rfl)) ?_
        rcases Bool.eq_false_or_eq_true (!x8) with hc9 | hc9
        · replace h := bif_t hc9 h
          refine RegL.skipG rfl rfl rfl hc9 rfl rfl ?_
          refine RegL.skipG rfl rfl rfl hc9 rfl rfl ?_
          refine RegL.skipG rfl rfl rfl hc9 rfl rfl ?_
          refine RegL.skipG rfl rfl rfl hc9 rfl rfl ?_
          refine RegL.skipG rfl rfl rfl hc9 rfl rfl ?_
          refine RegL.skipG rfl rfl rfl hc9 rfl rfl ?_
          refine RegL.skipG rfl rfl rfl hc9 rfl rfl ?_
          refine RegL.pure (p := (pEq (.bool true))) rfl rfl rfl (J_pick rfl (Opd.tmp rfl) (fun _ => Opd.con) (fun hf => absurd (hc9.symm.trans hf) (by decide))) ?_
          refine RegL.pure (p := (pEq (.bool true))) rfl rfl rfl (J_assign rfl (Opd.tmp rfl)) ?_
          refine RegL.nil ?_
          replace h := Option.some.inj h; subst h
          exact Ct.mid () rfl ⟨rfl, rfl, rfl, rfl, trivial⟩
        · replace h := bif_f hc9 h
          refine RegL.pureG (p := (pSl 1 (cK .i64) a_1)) rfl rfl rfl hc9 rfl rfl (J_move rfl (Opd.tmp rfl)) ?_
          refine RegL.pureG (p := (pPtr ((cSl 1 (cSl 1 (cK .i64))) a_0.Domains))) rfl rfl rfl hc9 rfl rfl (J_fieldAddr rfl Try.underlying32 rfl sz27 (by decide) (Opd.tmp rfl) rfl) ?_
          refine RegL.pureG (p := (pSl 1 (cSl 1 (cK .i64)) a_0.Domains)) rfl rfl rfl hc9 rfl rfl (J_load rfl Try.isAgg27 (Opd.tmp rfl)) ?_
          refine RegL.pureG (p := (pEq (.int .i64 (a_0.Domains.length : Int)))) rfl rfl rfl hc9 rfl rfl (J_len rfl Try.underlying27 (Opd.tmp rfl) rfl) ?_
          refine RegL.pureG (p := (pEq (.int .i64 (w64 ((a_0.Domains.length : Int) - (1 : Int)))))) rfl rfl rfl hc9 rfl rfl (J_bin rfl (Opd.tmp rfl) Opd.con B_sub) ?_
          replace h := bind_some h; obtain ⟨x10, hx10, h⟩ := h
          refine RegL.pureG (p := (pEq (.bool x10))) rfl rfl rfl hc9 rfl rfl (J_call rfl Try.call56 (c_impl_allWithin hx10) (Opds.cons (Opd.tmp rfl) (Opds.cons Opd.con (Opds.cons (Opd.tmp rfl) Opds.nil)))) ?_
          refine RegL.pureG (p := (pEq (.bool (!x10)))) rfl rfl rfl hc9 rfl rfl (J_not rfl (Opd.tmp rfl)) ?_
          refine RegL.pure (p := (pEq (.bool (!x10)))) rfl rfl rfl (J_pick rfl (Opd.tmp rfl) (fun hf => absurd (hc9.symm.trans hf) (by decide)) (fun _ => (Opd.tmp rfl))) ?_
          refine RegL.pure (p := (pEq (.bool (!x10)))) rfl rfl rfl (J_assign rfl (Opd.tmp rfl)) ?_
          refine RegL.nil ?_
          replace h := Option.some.inj h; subst h
          exact Ct.mid () rfl ⟨rfl, rfl, rfl, rfl, trivial⟩
    · clear hx6
      refine Ct.then_tr ?_
      refine Tr.weak (Γ' := [(1, (pSl 1 (cK .i64) a_1)), (2, (pPtr (cGProblem a_0))), (4, (pEq (.pointer (some ⟨b1, 0, none⟩)))), (17, (pEq (.bool x6)))]) ⟨rfl, rfl, rfl, rfl, trivial⟩ ?_
      refine Tr.cond (Opd.tmp rfl) (fun hc => ?_) (fun hc => ?_)
      · replace h := bif_t hc h
        refine Tr.seq ?_
        refine Tr.region ?_
        refine RegL.pure (p := (pAgg [(pEq (.slice none 0 0)), (pEq (.slice none 0 0))])) rfl rfl rfl (J_build (qss := []) rfl bl32 bz32o Parts.nil rfl) ?_
        refine RegL.stepN (γ := Unit) (p := fun _ => pAny) (Ω' := fun _ => [oBlk b1 [(pEq (.slice none 0 0)), (pEq (.slice none 0 0))]]) rfl rfl (M_storeA rfl sz32 (Opd.tmp rfl) (Opd.tmp rfl) (fun _ _ _ h => ones_of ((OneCs.cons OneC.slice (OneCs.cons OneC.slice OneCs.nil))) h) rfl rfl) fun g12 => ?_
        refine RegL.pure (p := (pEq (.int .i64 (2 : Int)))) rfl rfl rfl (J_assign rfl Opd.con) ?_
        refine RegL.nil ?_
        refine Ct.then_tr ?_
        refine Tr.weak (Γ' := [(4, (pEq (.pointer (some ⟨b1, 0, none⟩)))), (5, (pEq (.int .i64 (2 : Int))))]) ⟨rfl, rfl, trivial⟩ ?_
        refine Tr.ret ?_
        refine Ct.blk_ret ?_
        refine Ct.then_ret ?_
        refine Ct.re (Ω2 := [oSS 22 2 1 (cK .i64) none 0 0 [] ([] : (List (List Int))), oBlk b1 [(pEq (.slice none 0 0)), (pEq (.slice none 0 0))]]) (fun h => nest_nil h) ?_
        refine Ct.re (Ω2 := [oSS 22 2 1 (cK .i64) none 0 0 [] ([] : (List (List Int))), oSS 22 2 1 (cK .i64) none 0 0 [] ([] : (List (List Int))), oBlk b1 [(pEq (.slice none 0 0)), (pEq (.slice none 0 0))]]) (fun h => nest_nil h) ?_
        refine Ct.re (Ω2 := [oSS 22 2 1 (cK .i64) none 0 0 [] ([] : (List (List Int))), oSS 22 2 1 (cK .i64) none 0 0 [] ([] : (List (List Int))), oBlk b1 [(pEq (.slice none 0 0)), (pEq (.slice none 0 0))]]) (fun h => SatO.pick 1 h) ?_
        refine Ct.re (Ω2 := [oBlk b1 [(pEq (.slice none 0 0)), (pEq (.slice none 0 0))], oSS 22 2 1 (cK .i64) none 0 0 [] ([] : (List (List Int))), oSS 22 2 1 (cK .i64) none 0 0 [] ([] : (List (List Int)))]) (fun h => SatO.pick 2 h) ?_
        replace h := Option.some.inj h; subst h
        exact Ct.retH2 (Ωx := [oBlk b1 [(pEq (.slice none 0 0)), (pEq (.slice none 0 0))]]) (((none, 0, 0), []), ((none, 0, 0), [])) rfl (RvOk.cellA (i := 0) Try.isAgg32 sz32 rfl rfl rfl) (RvOk.tmp rfl) rfl rfl
      · replace h := bif_f hc h
        refine Tr.skip ?_
        refine Ct.blk_normal ?_
        refine Ct.then_tr ?_
        refine Tr.weak (Γ' := [(1, (pSl 1 (cK .i64) a_1)), (2, (pPtr (cGProblem a_0))), (4, (pEq (.pointer (some ⟨b1, 0, none⟩))))]) ⟨rfl, rfl, rfl, trivial⟩ ?_
        refine Tr.seq ?_
        refine Tr.region ?_
        refine RegL.step (γ := Nat) (p := fun b => pEq (.pointer (some ⟨b, 0, none⟩))) (Ω' := fun b => [oBlk b [(pEq (.slice none 0 0)), (pEq (.slice none 0 0))], oBlk b1 [(pEq (.slice none 0 0)), (pEq (.slice none 0 0))]]) rfl rfl rfl (M_alloc rfl zero32) fun b15 => ?_
        refine RegL.nil ?_
        refine Ct.then_tr ?_
        refine Tr.weak (Γ' := [(1, (pSl 1 (cK .i64) a_1)), (2, (pPtr (cGProblem a_0))), (4, (pEq (.pointer (some ⟨b1, 0, none⟩)))), (6, (pEq (.pointer (some ⟨b15, 0, none⟩))))]) ⟨rfl, rfl, rfl, rfl, trivial⟩ ?_
        refine Tr.seq ?_
        refine Tr.seq ?_
        refine Tr.region ?_
        refine RegL.pure (p := (pSl 1 (cK .i64) a_1)) rfl rfl rfl (J_move rfl (Opd.tmp rfl)) ?_
        refine RegL.pure (p := (pEq (.int .i64 (a_1.length : Int)))) rfl rfl rfl (J_len rfl Try.underlying22 (Opd.tmp rfl) rfl) ?_
        refine RegL.pure (p := (pEq (.int .i64 (0 : Int)))) rfl rfl rfl (J_move rfl Opd.con) ?_
        refine RegL.nil ?_
        refine Ct.then_tr ?_
        refine Tr.weak (Γ' := [(1, (pSl 1 (cK .i64) a_1)), (2, (pPtr (cGProblem a_0))), (4, (pEq (.pointer (some ⟨b1, 0, none⟩)))), (6, (pEq (.pointer (some ⟨b15, 0, none⟩)))), (36, (pSl 1 (cK .i64) a_1)), (37, (pEq (.int .i64 (a_1.length : Int)))), (38, (pEq (.int .i64 (0 : Int))))]) ⟨rfl, rfl, rfl, rfl, rfl, rfl, rfl, trivial⟩ ?_
        refine Tr.re (Ω2 := [oSS 22 2 1 (cK .i64) none 0 0 [] ([] : (List (List Int))), oBlk b15 [(pEq (.slice none 0 0)), (pEq (.slice none 0 0))], oBlk b1 [(pEq (.slice none 0 0)), (pEq (.slice none 0 0))]]) (fun h => nest_nil h) ?_
        refine Tr.re (Ω2 := [oSS 22 2 1 (cK .i64) none 0 0 [] ([] : (List (List Int))), oSS 22 2 1 (cK .i64) none 0 0 [] ([] : (List (List Int))), oBlk b15 [(pEq (.slice none 0 0)), (pEq (.slice none 0 0))], oBlk b1 [(pEq (.slice none 0 0)), (pEq (.slice none 0 0))]]) (fun h => nest_nil h) ?_
        replace h := bind_some h; obtain ⟨x18, hx18, h⟩ := h
        refine Tr.cut (γ := ((G3 × List G3) × (G3 × List G3))) (Γm := fun g => [(4, (pEq (.pointer (some ⟨b1, 0, none⟩)))), (6, (pEq (.pointer (some ⟨b15, 0, none⟩))))]) (Ωm := fun g => [oSS 22 2 1 (cK .i64) g.1.1.1 g.1.1.2.1 g.1.1.2.2 g.1.2 x18.1, oSS 22 2 1 (cK .i64) g.2.1.1 g.2.1.2.1 g.2.1.2.2 g.2.2 x18.2, oBlk b15 [(pEq (.slice g.2.1.1 g.2.1.2.1 g.2.1.2.2)), (pEq (.slice g.1.1.1 g.1.1.2.1 g.1.1.2.2))], oBlk b1 [(pEq (.slice none 0 0)), (pEq (.slice none 0 0))]]) ?_ (fun g51 => ?_)
        · clear h
          have h := hx18
          clear hx18
          refine Tr.block ?_
          refine Tr.weak (Γ' := [(1, (pSl 1 (cK .i64) a_1)), (2, (pPtr (cGProblem a_0))), (4, (pEq (.pointer (some ⟨b1, 0, none⟩)))), (6, (pEq (.pointer (some ⟨b15, 0, none⟩)))), (36, (pSl 1 (cK .i64) a_1)), (37, (pEq (.int .i64 (a_1.length : Int)))), (38, (pEq (.int .i64 (0 : Int))))]) ⟨rfl, rfl, rfl, rfl, rfl, rfl, rfl, trivial⟩ ?_
          refine Tr.loop (γ := ((G3 × List G3) × (G3 × List G3))) (σ := (Int × (List (List Int)) × (List (List Int)))) (Γσ := fun s g => [(1, (pSl 1 (cK .i64) a_1)), (2, (pPtr (cGProblem a_0))), (4, (pEq (.pointer (some ⟨b1, 0, none⟩)))), (6, (pEq (.pointer (some ⟨b15, 0, none⟩)))), (36, (pSl 1 (cK .i64) a_1)), (37, (pEq (.int .i64 (a_1.length : Int)))), (38, (pEq (.int .i64 s.1)))]) (Ωσ := fun s g => [oSS 22 2 1 (cK .i64) g.1.1.1 g.1.1.2.1 g.1.1.2.2 g.1.2 s.2.1, oSS 22 2 1 (cK .i64) g.2.1.1 g.2.1.2.1 g.2.1.2.2 g.2.2 s.2.2, oBlk b15 [(pEq (.slice g.2.1.1 g.2.1.2.1 g.2.1.2.2)), (pEq (.slice g.1.1.1 g.1.1.2.1 g.1.1.2.2))], oBlk b1 [(pEq (.slice none 0 0)), (pEq (.slice none 0 0))]]) (g := (((none, 0, 0), []), ((none, 0, 0), []))) h ?_
          clear h
          rintro ⟨v20, v21, v22⟩ g23 t h
          replace h : m_impl_PartProblem_B19 a_0 a_1 v20 v21 v22 = some t := h
          unfold m_impl_PartProblem_B19 at h
          refine Tr.weakO (Γ' := [(1, (pSl 1 (cK .i64) a_1)), (2, (pPtr (cGProblem a_0))), (4, (pEq (.pointer (some ⟨b1, 0, none⟩)))), (6, (pEq (.pointer (some ⟨b15, 0, none⟩)))), (36, (pSl 1 (cK .i64) a_1)), (37, (pEq (.int .i64 (a_1.length : Int)))), (38, (pEq (.int .i64 v20)))]) (Ω' := [oSS 22 2 1 (cK .i64) g23.1.1.1 g23.1.1.2.1 g23.1.1.2.2 g23.1.2 v21, oSS 22 2 1 (cK .i64) g23.2.1.1 g23.2.1.2.1 g23.2.1.2.2 g23.2.2 v22, oBlk b15 [(pEq (.slice g23.2.1.1 g23.2.1.2.1 g23.2.1.2.2)), (pEq (.slice g23.1.1.1 g23.1.1.2.1 g23.1.1.2.2))], oBlk b1 [(pEq (.slice none 0 0)), (pEq (.slice none 0 0))]]) rfl ⟨rfl, rfl, rfl, rfl, rfl, rfl, rfl, trivial⟩ ?_
          refine Tr.seq ?_
          refine Tr.region ?_
          refine RegL.pure (p := (pEq (.bool (decide (v20 < (a_1.length : Int)))))) rfl rfl rfl (J_bin rfl (Opd.tmp rfl) (Opd.tmp rfl) B_lss) ?_
          refine RegL.nil ?_
          refine Ct.then_tr ?_
          refine Tr.weak (Γ' := [(1, (pSl 1 (cK .i64) a_1)), (2, (pPtr (cGProblem a_0))), (4, (pEq (.pointer (some ⟨b1, 0, none⟩)))), (6, (pEq (.pointer (some ⟨b15, 0, none⟩)))), (36, (pSl 1 (cK .i64) a_1)), (37, (pEq (.int .i64 (a_1.length : Int)))), (38, (pEq (.int .i64 v20))), (39, (pEq (.bool (decide (v20 < (a_1.length : Int))))))]) ⟨rfl, rfl, rfl, rfl, rfl, rfl, rfl, rfl, trivial⟩ ?_
          refine Tr.seq ?_
          refine Tr.cond (Opd.tmp rfl) (fun hc => ?_) (fun hc => ?_)
          · replace h := bif_t hc h
            refine Tr.skip ?_
            refine Ct.then_tr ?_
            refine Tr.weak (Γ' := [(1, (pSl 1 (cK .i64) a_1)), (2, (pPtr (cGProblem a_0))), (4, (pEq (.pointer (some ⟨b1, 0, none⟩)))), (6, (pEq (.pointer (some ⟨b15, 0, none⟩)))), (36, (pSl 1 (cK .i64) a_1)), (37, (pEq (.int .i64 (a_1.length : Int)))), (38, (pEq (.int .i64 v20)))]) ⟨rfl, rfl, rfl, rfl, rfl, rfl, rfl, trivial⟩ ?_
            refine Tr.seq ?_
            refine Tr.block ?_
            refine Tr.seq ?_
            refine Tr.region ?_
            replace h := bind_some h; obtain ⟨x24, hx24, h⟩ := h
            refine RegL.pure (p := (pPtr ((cK .i64) x24))) rfl rfl rfl (J_idx rfl Try.underlying22 sz2 (Opd.tmp rfl) (Opd.tmp rfl) hx24) ?_
            refine RegL.pure (p := (pEq (.int .i64 x24))) rfl rfl rfl (J_load rfl Try.isAgg2 (Opd.tmp rfl)) ?_
            refine RegL.pure (p := (pEq (.int .i64 x24))) rfl rfl rfl (J_assign rfl (Opd.tmp rfl)) ?_
            refine RegL.nil ?_
            refine Ct.then_tr ?_
            refine Tr.weak (Γ' := [(1, (pSl 1 (cK .i64) a_1)), (2, (pPtr (cGProblem a_0))), (4, (pEq (.pointer (some ⟨b1, 0, none⟩)))), (6, (pEq (.pointer (some ⟨b15, 0, none⟩)))), (8, (pEq (.int .i64 x24))), (36, (pSl 1 (cK .i64) a_1)), (37, (pEq (.int .i64 (a_1.length : Int)))), (38, (pEq (.int .i64 v20)))]) ⟨rfl, rfl, rfl, rfl, rfl, rfl, rfl, rfl, trivial⟩ ?_
            refine Tr.seq ?_
            replace h := bind_some h; obtain ⟨x25, hx25, h⟩ := h
            refine Tr.drawD (n := 79) (m := 10) (es := [some (Ent.mk [(6, (pEq (.pointer (some ⟨b15, 0, none⟩))))] (pEq (.pointer (some ⟨b15, 0, none⟩))) true), some (Ent.mk [(42, (pEq (.pointer (some ⟨b15, 0, none⟩))))] (pEq (.slice g23.2.1.1 g23.2.1.2.1 g23.2.1.2.2)) true), some (Ent.mk [(2, (pPtr (cGProblem a_0)))] (pPtr ((cSl 1 (cSl 1 (cK .i64))) a_0.Domains)) true), some (Ent.mk [(44, (pPtr ((cSl 1 (cSl 1 (cK .i64))) a_0.Domains)))] (pSl 1 (cSl 1 (cK .i64)) a_0.Domains) true), some (Ent.mk [(8, (pEq (.int .i64 x24)))] (pEq (.int .i64 x24)) true), some (Ent.mk [(45, (pSl 1 (cSl 1 (cK .i64)) a_0.Domains)), (46, (pEq (.int .i64 x24)))] (pPtr ((cSl 1 (cK .i64)) x25)) true), some (Ent.mk [(47, (pPtr ((cSl 1 (cK .i64)) x25)))] (pSl 1 (cK .i64) x25) true), none, none, none]) (rd := [[6], [42], [2], [44], [8], [45, 46], [47], [48], [49], [43, 50]]) rfl hmix (by kernel_rfl) fun hD => ?_
            replace h := bind_some h; obtain ⟨x26, hx26, h⟩ := h
            refine RD.step hD (es := [some (Ent.mk [(6, (pEq (.pointer (some ⟨b15, 0, none⟩))))] (pEq (.pointer (some ⟨b15, 0, none⟩))) true), some (Ent.mk [(42, (pEq (.pointer (some ⟨b15, 0, none⟩))))] (pEq (.slice g23.2.1.1 g23.2.1.2.1 g23.2.1.2.2)) true), some (Ent.mk [(2, (pPtr (cGProblem a_0)))] (pPtr ((cSl 1 (cSl 1 (cK .i64))) a_0.Domains)) true), some (Ent.mk [(44, (pPtr ((cSl 1 (cSl 1 (cK .i64))) a_0.Domains)))] (pSl 1 (cSl 1 (cK .i64)) a_0.Domains) true), some (Ent.mk [(8, (pEq (.int .i64 x24)))] (pEq (.int .i64 x24)) true), some (Ent.mk [(45, (pSl 1 (cSl 1 (cK .i64)) a_0.Domains)), (46, (pEq (.int .i64 x24)))] (pPtr ((cSl 1 (cK .i64)) x25)) true), some (Ent.mk [(47, (pPtr ((cSl 1 (cK .i64)) x25)))] (pSl 1 (cK .i64) x25) true), none, none, none]) (done := []) (mask := [true, true, true, true, true, true, true, false, false, false]) (γ := G3) (p := fun g => (pEq (.slice g.1 g.2.1 g.2.2))) (Ω' := fun g => [oSl 2 1 (cK .i64) g.1 g.2.1 g.2.2 x26, oSS 22 2 1 (cK .i64) g23.1.1.1 g23.1.1.2.1 g23.1.1.2.2 g23.1.2 v21, oSS 22 2 1 (cK .i64) g23.2.1.1 g23.2.1.2.1 g23.2.1.2.2 g23.2.2 v22, oBlk b15 [(pEq (.slice g23.2.1.1 g23.2.1.2.1 g23.2.1.2.2)), (pEq (.slice g23.1.1.1 g23.1.1.2.1 g23.1.1.2.2))], oBlk b1 [(pEq (.slice none 0 0)), (pEq (.slice none 0 0))]]) (es' := fun g27 => [some (Ent.mk [(6, (pEq (.pointer (some ⟨b15, 0, none⟩))))] (pEq (.pointer (some ⟨b15, 0, none⟩))) true), some (Ent.mk [(42, (pEq (.pointer (some ⟨b15, 0, none⟩))))] (pEq (.slice g23.2.1.1 g23.2.1.2.1 g23.2.1.2.2)) true), some (Ent.mk [(2, (pPtr (cGProblem a_0)))] (pPtr ((cSl 1 (cSl 1 (cK .i64))) a_0.Domains)) true), some (Ent.mk [(44, (pPtr ((cSl 1 (cSl 1 (cK .i64))) a_0.Domains)))] (pSl 1 (cSl 1 (cK .i64)) a_0.Domains) true), some (Ent.mk [(8, (pEq (.int .i64 x24)))] (pEq (.int .i64 x24)) true), some (Ent.mk [(45, (pSl 1 (cSl 1 (cK .i64)) a_0.Domains)), (46, (pEq (.int .i64 x24)))] (pPtr ((cSl 1 (cK .i64)) x25)) true), some (Ent.mk [(47, (pPtr ((cSl 1 (cK .i64)) x25)))] (pSl 1 (cK .i64) x25) true), some (Ent.mk [(48, (pSl 1 (cK .i64) x25))] (pEq (.slice g27.1 g27.2.1 g27.2.2)) true), none, none]) (Γc := [(48, (pSl 1 (cK .i64) x25))]) 7 rfl rfl rfl (by kernel_rfl) ⟨.inr ⟨(OpJ.w (J_fieldAddrE rfl Try.underlying32 rfl sz27 (by decide) (Opd.tmp rfl) rfl)), ⟨rfl, trivial⟩, rfl, rfl⟩, ⟨.inr ⟨(W_load (i := 2) rfl Try.isAgg27 (Opd.tmp rfl) rfl rfl), ⟨rfl, trivial⟩, rfl, rfl⟩, ⟨.inr ⟨(OpJ.w (J_fieldAddr rfl Try.underlying32 rfl sz27 (by decide) (Opd.tmp rfl) rfl)), ⟨rfl, trivial⟩, rfl, rfl⟩, ⟨.inr ⟨(OpJ.w (J_load rfl Try.isAgg27 (Opd.tmp rfl))), ⟨rfl, trivial⟩, rfl, rfl⟩, ⟨.inr ⟨(OpJ.w (J_move rfl (Opd.tmp rfl))), ⟨rfl, trivial⟩, rfl, rfl⟩, ⟨.inr ⟨(OpJ.w (J_idx rfl Try.underlying27 sz22 (Opd.tmp rfl) (Opd.tmp rfl) hx25)), ⟨rfl, rfl, trivial⟩, rfl, rfl⟩, ⟨.inr ⟨(OpJ.w (J_load rfl Try.isAgg22 (Opd.tmp rfl))), ⟨rfl, trivial⟩, rfl, rfl⟩, trivial⟩⟩⟩⟩⟩⟩⟩ rfl rfl ⟨rfl, trivial⟩ (fun _ => M_callH (Ωi := []) rfl Try.call77 (o_slices_Clone_int64_int64 hx26) (Opds.cons (Opd.tmp rfl) Opds.nil)) (fun g27 => ⟨rfl, ⟨rfl, ⟨rfl, ⟨rfl, ⟨rfl, ⟨rfl, ⟨rfl, trivial⟩⟩⟩⟩⟩⟩⟩) (fun g27 => rfl) rfl fun g27 => ?_
            refine RD.step hD (es := [some (Ent.mk [(6, (pEq (.pointer (some ⟨b15, 0, none⟩))))] (pEq (.pointer (some ⟨b15, 0, none⟩))) true), some (Ent.mk [(42, (pEq (.pointer (some ⟨b15, 0, none⟩))))] (pEq (.slice g23.2.1.1 g23.2.1.2.1 g23.2.1.2.2)) true), some (Ent.mk [(2, (pPtr (cGProblem a_0)))] (pPtr ((cSl 1 (cSl 1 (cK .i64))) a_0.Domains)) true), some (Ent.mk [(44, (pPtr ((cSl 1 (cSl 1 (cK .i64))) a_0.Domains)))] (pSl 1 (cSl 1 (cK .i64)) a_0.Domains) true), some (Ent.mk [(8, (pEq (.int .i64 x24)))] (pEq (.int .i64 x24)) true), some (Ent.mk [(45, (pSl 1 (cSl 1 (cK .i64)) a_0.Domains)), (46, (pEq (.int .i64 x24)))] (pPtr ((cSl 1 (cK .i64)) x25)) true), some (Ent.mk [(47, (pPtr ((cSl 1 (cK .i64)) x25)))] (pSl 1 (cK .i64) x25) true), some (Ent.mk [(48, (pSl 1 (cK .i64) x25))] (pEq (.slice g27.1 g27.2.1 g27.2.2)) true), none, none]) (done := [7]) (mask := [true, true, true, true, true, true, true, true, false, false]) (γ := Option Addr) (p := fun a => pEq (.slice a 1 1)) (Ω' := fun a => [oSl 22 1 cHdr a 1 1 [(g27.1, g27.2.1, g27.2.2)], oSl 2 1 (cK .i64) g27.1 g27.2.1 g27.2.2 x26, oSS 22 2 1 (cK .i64) g23.1.1.1 g23.1.1.2.1 g23.1.1.2.2 g23.1.2 v21, oSS 22 2 1 (cK .i64) g23.2.1.1 g23.2.1.2.1 g23.2.1.2.2 g23.2.2 v22, oBlk b15 [(pEq (.slice g23.2.1.1 g23.2.1.2.1 g23.2.1.2.2)), (pEq (.slice g23.1.1.1 g23.1.1.2.1 g23.1.1.2.2))], oBlk b1 [(pEq (.slice none 0 0)), (pEq (.slice none 0 0))]]) (es' := fun o29 => [some (Ent.mk [(6, (pEq (.pointer (some ⟨b15, 0, none⟩))))] (pEq (.pointer (some ⟨b15, 0, none⟩))) true), some (Ent.mk [(42, (pEq (.pointer (some ⟨b15, 0, none⟩))))] (pEq (.slice g23.2.1.1 g23.2.1.2.1 g23.2.1.2.2)) true), some (Ent.mk [(2, (pPtr (cGProblem a_0)))] (pPtr ((cSl 1 (cSl 1 (cK .i64))) a_0.Domains)) true), some (Ent.mk [(44, (pPtr ((cSl 1 (cSl 1 (cK .i64))) a_0.Domains)))] (pSl 1 (cSl 1 (cK .i64)) a_0.Domains) true), some (Ent.mk [(8, (pEq (.int .i64 x24)))] (pEq (.int .i64 x24)) true), some (Ent.mk [(45, (pSl 1 (cSl 1 (cK .i64)) a_0.Domains)), (46, (pEq (.int .i64 x24)))] (pPtr ((cSl 1 (cK .i64)) x25)) true), some (Ent.mk [(47, (pPtr ((cSl 1 (cK .i64)) x25)))] (pSl 1 (cK .i64) x25) true), some (Ent.mk [(48, (pSl 1 (cK .i64) x25))] (pEq (.slice g27.1 g27.2.1 g27.2.2)) true), some (Ent.mk [(49, (pEq (.slice g27.1 g27.2.1 g27.2.2)))] (pEq (.slice o29 1 1)) true), none]) (Γc := [(49, (pEq (.slice g27.1 g27.2.1 g27.2.2)))]) 8 rfl rfl rfl (by kernel_rfl) ⟨.inr ⟨(OpJ.w (J_fieldAddrE rfl Try.underlying32 rfl sz27 (by decide) (Opd.tmp rfl) rfl)), ⟨rfl, trivial⟩, rfl, rfl⟩, ⟨.inr ⟨(W_load (i := 3) rfl Try.isAgg27 (Opd.tmp rfl) rfl rfl), ⟨rfl, trivial⟩, rfl, rfl⟩, ⟨.inr ⟨(OpJ.w (J_fieldAddr rfl Try.underlying32 rfl sz27 (by decide) (Opd.tmp rfl) rfl)), ⟨rfl, trivial⟩, rfl, rfl⟩, ⟨.inr ⟨(OpJ.w (J_load rfl Try.isAgg27 (Opd.tmp rfl))), ⟨rfl, trivial⟩, rfl, rfl⟩, ⟨.inr ⟨(OpJ.w (J_move rfl (Opd.tmp rfl))), ⟨rfl, trivial⟩, rfl, rfl⟩, ⟨.inr ⟨(OpJ.w (J_idx rfl Try.underlying27 sz22 (Opd.tmp rfl) (Opd.tmp rfl) hx25)), ⟨rfl, rfl, trivial⟩, rfl, rfl⟩, ⟨.inr ⟨(OpJ.w (J_load rfl Try.isAgg22 (Opd.tmp rfl))), ⟨rfl, trivial⟩, rfl, rfl⟩, ⟨.inl rfl, trivial⟩⟩⟩⟩⟩⟩⟩⟩ rfl rfl ⟨rfl, trivial⟩ (fun _ => M_buildSlice (qss := [(0, cHdr (g27.1, g27.2.1, g27.2.2))]) rfl Try.underlying27 elh22 rfl (Parts.cons (Part.one (Opd.tmp rfl) OneC.slice) Parts.nil) rfl rfl) (fun o29 => ⟨rfl, ⟨rfl, ⟨rfl, ⟨rfl, ⟨rfl, ⟨rfl, ⟨rfl, ⟨rfl, trivial⟩⟩⟩⟩⟩⟩⟩⟩) (fun o29 => rfl) rfl fun o29 => ?_
            refine RD.re (Ω2 := [oSS 22 2 1 (cK .i64) o29 1 1 [(g27.1, g27.2.1, g27.2.2)] [x26], oSS 22 2 1 (cK .i64) g23.1.1.1 g23.1.1.2.1 g23.1.1.2.2 g23.1.2 v21, oSS 22 2 1 (cK .i64) g23.2.1.1 g23.2.1.2.1 g23.2.1.2.2 g23.2.2 v22, oBlk b15 [(pEq (.slice g23.2.1.1 g23.2.1.2.1 g23.2.1.2.2)), (pEq (.slice g23.1.1.1 g23.1.1.2.1 g23.1.1.2.2))], oBlk b1 [(pEq (.slice none 0 0)), (pEq (.slice none 0 0))]]) (fun h => nest_one h) ?_
            replace h := bind_some h; obtain ⟨x31, hx31, h⟩ := h
            refine RD.re (Ω2 := [oSS 22 2 1 (cK .i64) g23.2.1.1 g23.2.1.2.1 g23.2.1.2.2 g23.2.2 v22, oSS 22 2 1 (cK .i64) o29 1 1 [(g27.1, g27.2.1, g27.2.2)] [x26], oSS 22 2 1 (cK .i64) g23.1.1.1 g23.1.1.2.1 g23.1.1.2.2 g23.1.2 v21, oBlk b15 [(pEq (.slice g23.2.1.1 g23.2.1.2.1 g23.2.1.2.2)), (pEq (.slice g23.1.1.1 g23.1.1.2.1 g23.1.1.2.2))], oBlk b1 [(pEq (.slice none 0 0)), (pEq (.slice none 0 0))]]) (fun h => SatO.pick 2 h) ?_
            refine RD.step hD (es := [some (Ent.mk [(6, (pEq (.pointer (some ⟨b15, 0, none⟩))))] (pEq (.pointer (some ⟨b15, 0, none⟩))) true), some (Ent.mk [(42, (pEq (.pointer (some ⟨b15, 0, none⟩))))] (pEq (.slice g23.2.1.1 g23.2.1.2.1 g23.2.1.2.2)) true), some (Ent.mk [(2, (pPtr (cGProblem a_0)))] (pPtr ((cSl 1 (cSl 1 (cK .i64))) a_0.Domains)) true), some (Ent.mk [(44, (pPtr ((cSl 1 (cSl 1 (cK .i64))) a_0.Domains)))] (pSl 1 (cSl 1 (cK .i64)) a_0.Domains) true), some (Ent.mk [(8, (pEq (.int .i64 x24)))] (pEq (.int .i64 x24)) true), some (Ent.mk [(45, (pSl 1 (cSl 1 (cK .i64)) a_0.Domains)), (46, (pEq (.int .i64 x24)))] (pPtr ((cSl 1 (cK .i64)) x25)) true), some (Ent.mk [(47, (pPtr ((cSl 1 (cK .i64)) x25)))] (pSl 1 (cK .i64) x25) true), some (Ent.mk [(48, (pSl 1 (cK .i64) x25))] (pEq (.slice g27.1 g27.2.1 g27.2.2)) true), some (Ent.mk [(49, (pEq (.slice g27.1 g27.2.1 g27.2.2)))] (pEq (.slice o29 1 1)) true), none]) (done := [8, 7]) (mask := [true, true, true, true, true, true, true, true, true, false]) (γ := (Option Addr × Nat) × List G3) (p := fun g => pEq (.slice g.1.1 x31.length g.1.2)) (Ω' := fun g => [oSS 22 2 1 (cK .i64) g.1.1 x31.length g.1.2 g.2 x31, oSS 22 2 1 (cK .i64) g23.1.1.1 g23.1.1.2.1 g23.1.1.2.2 g23.1.2 v21, oBlk b15 [(pEq (.slice g23.2.1.1 g23.2.1.2.1 g23.2.1.2.2)), (pEq (.slice g23.1.1.1 g23.1.1.2.1 g23.1.1.2.2))], oBlk b1 [(pEq (.slice none 0 0)), (pEq (.slice none 0 0))]]) (es' := fun g32 => [some (Ent.mk [(6, (pEq (.pointer (some ⟨b15, 0, none⟩))))] (pEq (.pointer (some ⟨b15, 0, none⟩))) true), some (Ent.mk [(42, (pEq (.pointer (some ⟨b15, 0, none⟩))))] (pEq (.slice g23.2.1.1 g23.2.1.2.1 g23.2.1.2.2)) true), some (Ent.mk [(2, (pPtr (cGProblem a_0)))] (pPtr ((cSl 1 (cSl 1 (cK .i64))) a_0.Domains)) true), some (Ent.mk [(44, (pPtr ((cSl 1 (cSl 1 (cK .i64))) a_0.Domains)))] (pSl 1 (cSl 1 (cK .i64)) a_0.Domains) true), some (Ent.mk [(8, (pEq (.int .i64 x24)))] (pEq (.int .i64 x24)) true), some (Ent.mk [(45, (pSl 1 (cSl 1 (cK .i64)) a_0.Domains)), (46, (pEq (.int .i64 x24)))] (pPtr ((cSl 1 (cK .i64)) x25)) true), some (Ent.mk [(47, (pPtr ((cSl 1 (cK .i64)) x25)))] (pSl 1 (cK .i64) x25) true), some (Ent.mk [(48, (pSl 1 (cK .i64) x25))] (pEq (.slice g27.1 g27.2.1 g27.2.2)) true), some (Ent.mk [(49, (pEq (.slice g27.1 g27.2.1 g27.2.2)))] (pEq (.slice o29 1 1)) true), some (Ent.mk [(43, (pEq (.slice g23.2.1.1 g23.2.1.2.1 g23.2.1.2.2))), (50, (pEq (.slice o29 1 1)))] (pEq (.slice g32.1.1 x31.length g32.1.2)) true)]) (Γc := [(43, (pEq (.slice g23.2.1.1 g23.2.1.2.1 g23.2.1.2.2))), (50, (pEq (.slice o29 1 1)))]) 9 rfl rfl rfl (by kernel_rfl) ⟨.inr ⟨(OpJ.w (J_fieldAddrE rfl Try.underlying32 rfl sz27 (by decide) (Opd.tmp rfl) rfl)), ⟨rfl, trivial⟩, rfl, rfl⟩, ⟨.inr ⟨(W_load (i := 3) rfl Try.isAgg27 (Opd.tmp rfl) rfl rfl), ⟨rfl, trivial⟩, rfl, rfl⟩, ⟨.inr ⟨(OpJ.w (J_fieldAddr rfl Try.underlying32 rfl sz27 (by decide) (Opd.tmp rfl) rfl)), ⟨rfl, trivial⟩, rfl, rfl⟩, ⟨.inr ⟨(OpJ.w (J_load rfl Try.isAgg27 (Opd.tmp rfl))), ⟨rfl, trivial⟩, rfl, rfl⟩, ⟨.inr ⟨(OpJ.w (J_move rfl (Opd.tmp rfl))), ⟨rfl, trivial⟩, rfl, rfl⟩, ⟨.inr ⟨(OpJ.w (J_idx rfl Try.underlying27 sz22 (Opd.tmp rfl) (Opd.tmp rfl) hx25)), ⟨rfl, rfl, trivial⟩, rfl, rfl⟩, ⟨.inr ⟨(OpJ.w (J_load rfl Try.isAgg22 (Opd.tmp rfl))), ⟨rfl, trivial⟩, rfl, rfl⟩, ⟨.inl rfl, ⟨.inl rfl, trivial⟩⟩⟩⟩⟩⟩⟩⟩⟩ rfl rfl ⟨rfl, rfl, trivial⟩ (fun _ => M_nestAppend rfl Try.underlying27 elh22 (Opd.tmp rfl) (Opd.tmp rfl) hx31) (fun g32 => ⟨rfl, ⟨rfl, ⟨rfl, ⟨rfl, ⟨rfl, ⟨rfl, ⟨rfl, ⟨rfl, ⟨rfl, trivial⟩⟩⟩⟩⟩⟩⟩⟩⟩) (fun g32 => rfl) rfl fun g32 => ?_
            refine RD.fin (es := [Ent.mk [(6, (pEq (.pointer (some ⟨b15, 0, none⟩))))] (pEq (.pointer (some ⟨b15, 0, none⟩))) true, Ent.mk [(42, (pEq (.pointer (some ⟨b15, 0, none⟩))))] (pEq (.slice g23.2.1.1 g23.2.1.2.1 g23.2.1.2.2)) true, Ent.mk [(2, (pPtr (cGProblem a_0)))] (pPtr ((cSl 1 (cSl 1 (cK .i64))) a_0.Domains)) true, Ent.mk [(44, (pPtr ((cSl 1 (cSl 1 (cK .i64))) a_0.Domains)))] (pSl 1 (cSl 1 (cK .i64)) a_0.Domains) true, Ent.mk [(8, (pEq (.int .i64 x24)))] (pEq (.int .i64 x24)) true, Ent.mk [(45, (pSl 1 (cSl 1 (cK .i64)) a_0.Domains)), (46, (pEq (.int .i64 x24)))] (pPtr ((cSl 1 (cK .i64)) x25)) true, Ent.mk [(47, (pPtr ((cSl 1 (cK .i64)) x25)))] (pSl 1 (cK .i64) x25) true, Ent.mk [(48, (pSl 1 (cK .i64) x25))] (pEq (.slice g27.1 g27.2.1 g27.2.2)) true, Ent.mk [(49, (pEq (.slice g27.1 g27.2.1 g27.2.2)))] (pEq (.slice o29 1 1)) true, Ent.mk [(43, (pEq (.slice g23.2.1.1 g23.2.1.2.1 g23.2.1.2.2))), (50, (pEq (.slice o29 1 1)))] (pEq (.slice g32.1.1 x31.length g32.1.2)) true]) (done := [9, 8, 7]) hD ⟨.inr ⟨(OpJ.w (J_fieldAddrE rfl Try.underlying32 rfl sz27 (by decide) (Opd.tmp rfl) rfl)), ⟨rfl, trivial⟩, rfl, rfl⟩, ⟨.inr ⟨(W_load (i := 2) rfl Try.isAgg27 (Opd.tmp rfl) rfl rfl), ⟨rfl, trivial⟩, rfl, rfl⟩, ⟨.inr ⟨(OpJ.w (J_fieldAddr rfl Try.underlying32 rfl sz27 (by decide) (Opd.tmp rfl) rfl)), ⟨rfl, trivial⟩, rfl, rfl⟩, ⟨.inr ⟨(OpJ.w (J_load rfl Try.isAgg27 (Opd.tmp rfl))), ⟨rfl, trivial⟩, rfl, rfl⟩, ⟨.inr ⟨(OpJ.w (J_move rfl (Opd.tmp rfl))), ⟨rfl, trivial⟩, rfl, rfl⟩, ⟨.inr ⟨(OpJ.w (J_idx rfl Try.underlying27 sz22 (Opd.tmp rfl) (Opd.tmp rfl) hx25)), ⟨rfl, rfl, trivial⟩, rfl, rfl⟩, ⟨.inr ⟨(OpJ.w (J_load rfl Try.isAgg22 (Opd.tmp rfl))), ⟨rfl, trivial⟩, rfl, rfl⟩, ⟨.inl rfl, ⟨.inl rfl, ⟨.inl rfl, trivial⟩⟩⟩⟩⟩⟩⟩⟩⟩⟩ ?_
            refine RegL.pure (p := (pEq (.pointer (some ⟨b15, 0, none⟩)))) rfl rfl rfl (J_fieldAddrE rfl Try.underlying32 rfl sz27 (by decide) (Opd.tmp rfl) rfl) ?_
            refine RegL.re (Ω2 := [oBlk b15 [(pEq (.slice g23.2.1.1 g23.2.1.2.1 g23.2.1.2.2)), (pEq (.slice g23.1.1.1 g23.1.1.2.1 g23.1.1.2.2))], oSS 22 2 1 (cK .i64) g32.1.1 x31.length g32.1.2 g32.2 x31, oSS 22 2 1 (cK .i64) g23.1.1.1 g23.1.1.2.1 g23.1.1.2.2 g23.1.2 v21, oBlk b1 [(pEq (.slice none 0 0)), (pEq (.slice none 0 0))]]) (fun h => SatO.pick 2 h) ?_
            refine RegL.stepN (γ := Unit) (p := fun _ => pAny) (Ω' := fun _ => [oBlk b15 [(pEq (.slice g32.1.1 x31.length g32.1.2)), (pEq (.slice g23.1.1.1 g23.1.1.2.1 g23.1.1.2.2))], oSS 22 2 1 (cK .i64) g32.1.1 x31.length g32.1.2 g32.2 x31, oSS 22 2 1 (cK .i64) g23.1.1.1 g23.1.1.2.1 g23.1.1.2.2 g23.1.2 v21, oBlk b1 [(pEq (.slice none 0 0)), (pEq (.slice none 0 0))]]) rfl rfl (M_store rfl sz27 (Opd.tmp rfl) (Opd.tmp rfl) OneC.slice rfl rfl) fun g33 => ?_
            refine RegL.nil ?_
            refine Ct.then_tr ?_
            refine Tr.weak (Γ' := [(1, (pSl 1 (cK .i64) a_1)), (2, (pPtr (cGProblem a_0))), (4, (pEq (.pointer (some ⟨b1, 0, none⟩)))), (6, (pEq (.pointer (some ⟨b15, 0, none⟩)))), (8, (pEq (.int .i64 x24))), (36, (pSl 1 (cK .i64) a_1)), (37, (pEq (.int .i64 (a_1.length : Int)))), (38, (pEq (.int .i64 v20)))]) ⟨rfl, rfl, rfl, rfl, rfl, rfl, rfl, rfl, trivial⟩ ?_
            refine Tr.seq ?_
            refine Tr.region ?_
            refine RegL.pure (p := (pEq (.slice none 0 0))) rfl rfl rfl (J_assign rfl Opd.con) ?_
            refine RegL.nil ?_
            refine Ct.then_tr ?_
            refine Tr.weak (Γ' := [(1, (pSl 1 (cK .i64) a_1)), (2, (pPtr (cGProblem a_0))), (4, (pEq (.pointer (some ⟨b1, 0, none⟩)))), (6, (pEq (.pointer (some ⟨b15, 0, none⟩)))), (8, (pEq (.int .i64 x24))), (9, (pEq (.slice none 0 0))), (36, (pSl 1 (cK .i64) a_1)), (37, (pEq (.int .i64 (a_1.length : Int)))), (38, (pEq (.int .i64 v20)))]) ⟨rfl, rfl, rfl, rfl, rfl, rfl, rfl, rfl, rfl, trivial⟩ ?_
            refine Tr.seq ?_
            refine Tr.seq ?_
            refine Tr.region ?_
            refine RegL.pure (p := (pSl 1 (cK .i64) a_1)) rfl rfl rfl (J_move rfl (Opd.tmp rfl)) ?_
            refine RegL.pure (p := (pEq (.int .i64 (a_1.length : Int)))) rfl rfl rfl (J_len rfl Try.underlying22 (Opd.tmp rfl) rfl) ?_
            refine RegL.pure (p := (pEq (.int .i64 (0 : Int)))) rfl rfl rfl (J_move rfl Opd.con) ?_
            refine RegL.nil ?_
            refine Ct.then_tr ?_
            refine Tr.weak (Γ' := [(1, (pSl 1 (cK .i64) a_1)), (2, (pPtr (cGProblem a_0))), (4, (pEq (.pointer (some ⟨b1, 0, none⟩)))), (6, (pEq (.pointer (some ⟨b15, 0, none⟩)))), (8, (pEq (.int .i64 x24))), (9, (pEq (.slice none 0 0))), (36, (pSl 1 (cK .i64) a_1)), (37, (pEq (.int .i64 (a_1.length : Int)))), (38, (pEq (.int .i64 v20))), (53, (pSl 1 (cK .i64) a_1)), (54, (pEq (.int .i64 (a_1.length : Int)))), (55, (pEq (.int .i64 (0 : Int))))]) ⟨rfl, rfl, rfl, rfl, rfl, rfl, rfl, rfl, rfl, rfl, rfl, rfl, trivial⟩ ?_
            refine Tr.re (Ω2 := [oSl 2 1 (cK .i64) none 0 0 ([] : (List Int)), oBlk b15 [(pEq (.slice g32.1.1 x31.length g32.1.2)), (pEq (.slice g23.1.1.1 g23.1.1.2.1 g23.1.1.2.2))], oSS 22 2 1 (cK .i64) g32.1.1 x31.length g32.1.2 g32.2 x31, oSS 22 2 1 (cK .i64) g23.1.1.1 g23.1.1.2.1 g23.1.1.2.2 g23.1.2 v21, oBlk b1 [(pEq (.slice none 0 0)), (pEq (.slice none 0 0))]]) (fun h => SatO.nilRow h) ?_
            replace h := bind_some h; obtain ⟨x35, hx35, h⟩ := h
            refine Tr.cut (γ := G3) (Γm := fun g => [(1, (pSl 1 (cK .i64) a_1)), (2, (pPtr (cGProblem a_0))), (4, (pEq (.pointer (some ⟨b1, 0, none⟩)))), (6, (pEq (.pointer (some ⟨b15, 0, none⟩)))), (9, (pEq (.slice g.1 g.2.1 g.2.2))), (36, (pSl 1 (cK .i64) a_1)), (37, (pEq (.int .i64 (a_1.length : Int)))), (38, (pEq (.int .i64 v20)))]) (Ωm := fun g => [oSl 2 1 (cK .i64) g.1 g.2.1 g.2.2 x35, oBlk b15 [(pEq (.slice g32.1.1 x31.length g32.1.2)), (pEq (.slice g23.1.1.1 g23.1.1.2.1 g23.1.1.2.2))], oSS 22 2 1 (cK .i64) g32.1.1 x31.length g32.1.2 g32.2 x31, oSS 22 2 1 (cK .i64) g23.1.1.1 g23.1.1.2.1 g23.1.1.2.2 g23.1.2 v21, oBlk b1 [(pEq (.slice none 0 0)), (pEq (.slice none 0 0))]]) ?_ (fun g45 => ?_)
            · clear h
              have h := hx35
              clear hx35
              refine Tr.block ?_
              refine Tr.weak (Γ' := [(1, (pSl 1 (cK .i64) a_1)), (2, (pPtr (cGProblem a_0))), (4, (pEq (.pointer (some ⟨b1, 0, none⟩)))), (6, (pEq (.pointer (some ⟨b15, 0, none⟩)))), (8, (pEq (.int .i64 x24))), (9, (pEq (.slice none 0 0))), (36, (pSl 1 (cK .i64) a_1)), (37, (pEq (.int .i64 (a_1.length : Int)))), (38, (pEq (.int .i64 v20))), (53, (pSl 1 (cK .i64) a_1)), (54, (pEq (.int .i64 (a_1.length : Int)))), (55, (pEq (.int .i64 (0 : Int))))]) ⟨rfl, rfl, rfl, rfl, rfl, rfl, rfl, rfl, rfl, rfl, rfl, rfl, trivial⟩ ?_
              refine Tr.loop (γ := G3) (σ := (Int × (List Int))) (Γσ := fun s g => [(1, (pSl 1 (cK .i64) a_1)), (2, (pPtr (cGProblem a_0))), (4, (pEq (.pointer (some ⟨b1, 0, none⟩)))), (6, (pEq (.pointer (some ⟨b15, 0, none⟩)))), (8, (pEq (.int .i64 x24))), (9, (pEq (.slice g.1 g.2.1 g.2.2))), (36, (pSl 1 (cK .i64) a_1)), (37, (pEq (.int .i64 (a_1.length : Int)))), (38, (pEq (.int .i64 v20))), (53, (pSl 1 (cK .i64) a_1)), (54, (pEq (.int .i64 (a_1.length : Int)))), (55, (pEq (.int .i64 s.1)))]) (Ωσ := fun s g => [oSl 2 1 (cK .i64) g.1 g.2.1 g.2.2 s.2, oBlk b15 [(pEq (.slice g32.1.1 x31.length g32.1.2)), (pEq (.slice g23.1.1.1 g23.1.1.2.1 g23.1.1.2.2))], oSS 22 2 1 (cK .i64) g32.1.1 x31.length g32.1.2 g32.2 x31, oSS 22 2 1 (cK .i64) g23.1.1.1 g23.1.1.2.1 g23.1.1.2.2 g23.1.2 v21, oBlk b1 [(pEq (.slice none 0 0)), (pEq (.slice none 0 0))]]) (g := (none, 0, 0)) h ?_
              clear h
              rintro ⟨v37, v38⟩ g39 t h
              replace h : m_impl_PartProblem_B36 a_0 a_1 x24 v37 v38 = some t := h
              unfold m_impl_PartProblem_B36 at h
              refine Tr.weakO (Γ' := [(1, (pSl 1 (cK .i64) a_1)), (2, (pPtr (cGProblem a_0))), (4, (pEq (.pointer (some ⟨b1, 0, none⟩)))), (6, (pEq (.pointer (some ⟨b15, 0, none⟩)))), (8, (pEq (.int .i64 x24))), (9, (pEq (.slice g39.1 g39.2.1 g39.2.2))), (36, (pSl 1 (cK .i64) a_1)), (37, (pEq (.int .i64 (a_1.length : Int)))), (38, (pEq (.int .i64 v20))), (53, (pSl 1 (cK .i64) a_1)), (54, (pEq (.int .i64 (a_1.length : Int)))), (55, (pEq (.int .i64 v37)))]) (Ω' := [oSl 2 1 (cK .i64) g39.1 g39.2.1 g39.2.2 v38, oBlk b15 [(pEq (.slice g32.1.1 x31.length g32.1.2)), (pEq (.slice g23.1.1.1 g23.1.1.2.1 g23.1.1.2.2))], oSS 22 2 1 (cK .i64) g32.1.1 x31.length g32.1.2 g32.2 x31, oSS 22 2 1 (cK .i64) g23.1.1.1 g23.1.1.2.1 g23.1.1.2.2 g23.1.2 v21, oBlk b1 [(pEq (.slice none 0 0)), (pEq (.slice none 0 0))]]) rfl ⟨rfl, rfl, rfl, rfl, rfl, rfl, rfl, rfl, rfl, rfl, rfl, rfl, trivial⟩ ?_
              refine Tr.seq ?_
              refine Tr.region ?_
              refine RegL.pure (p := (pEq (.bool (decide (v37 < (a_1.length : Int)))))) rfl rfl rfl (J_bin rfl (Opd.tmp rfl) (Opd.tmp rfl) B_lss) ?_
              refine RegL.nil ?_
              refine Ct.then_tr ?_
              refine Tr.weak (Γ' := [(1, (pSl 1 (cK .i64) a_1)), (2, (pPtr (cGProblem a_0))), (4, (pEq (.pointer (some ⟨b1, 0, none⟩)))), (6, (pEq (.pointer (some ⟨b15, 0, none⟩)))), (8, (pEq (.int .i64 x24))), (9, (pEq (.slice g39.1 g39.2.1 g39.2.2))), (36, (pSl 1 (cK .i64) a_1)), (37, (pEq (.int .i64 (a_1.length : Int)))), (38, (pEq (.int .i64 v20))), (53, (pSl 1 (cK .i64) a_1)), (54, (pEq (.int .i64 (a_1.length : Int)))), (55, (pEq (.int .i64 v37))), (56, (pEq (.bool (decide (v37 < (a_1.length : Int))))))]) ⟨rfl, rfl, rfl, rfl, rfl, rfl, rfl, rfl, rfl, rfl, rfl, rfl, rfl, trivial⟩ ?_
              refine Tr.seq ?_
              refine Tr.cond (Opd.tmp rfl) (fun hc => ?_) (fun hc => ?_)
              · replace h := bif_t hc h
                refine Tr.skip ?_
                refine Ct.then_tr ?_
                refine Tr.weak (Γ' := [(1, (pSl 1 (cK .i64) a_1)), (2, (pPtr (cGProblem a_0))), (4, (pEq (.pointer (some ⟨b1, 0, none⟩)))), (6, (pEq (.pointer (some ⟨b15, 0, none⟩)))), (8, (pEq (.int .i64 x24))), (9, (pEq (.slice g39.1 g39.2.1 g39.2.2))), (36, (pSl 1 (cK .i64) a_1)), (37, (pEq (.int .i64 (a_1.length : Int)))), (38, (pEq (.int .i64 v20))), (53, (pSl 1 (cK .i64) a_1)), (54, (pEq (.int .i64 (a_1.length : Int)))), (55, (pEq (.int .i64 v37)))]) ⟨rfl, rfl, rfl, rfl, rfl, rfl, rfl, rfl, rfl, rfl, rfl, rfl, trivial⟩ ?_
                refine Tr.seq ?_
                refine Tr.block ?_
                refine Tr.seq ?_
                refine Tr.region ?_
                replace h := bind_some h; obtain ⟨x40, hx40, h⟩ := h
                refine RegL.pure (p := (pPtr ((cK .i64) x40))) rfl rfl rfl (J_idx rfl Try.underlying22 sz2 (Opd.tmp rfl) (Opd.tmp rfl) hx40) ?_
                refine RegL.pure (p := (pEq (.int .i64 x40))) rfl rfl rfl (J_load rfl Try.isAgg2 (Opd.tmp rfl)) ?_
                refine RegL.pure (p := (pEq (.int .i64 x40))) rfl rfl rfl (J_assign rfl (Opd.tmp rfl)) ?_
                refine RegL.nil ?_
                refine Ct.then_tr ?_
                refine Tr.weak (Γ' := [(1, (pSl 1 (cK .i64) a_1)), (2, (pPtr (cGProblem a_0))), (4, (pEq (.pointer (some ⟨b1, 0, none⟩)))), (6, (pEq (.pointer (some ⟨b15, 0, none⟩)))), (8, (pEq (.int .i64 x24))), (9, (pEq (.slice g39.1 g39.2.1 g39.2.2))), (11, (pEq (.int .i64 x40))), (36, (pSl 1 (cK .i64) a_1)), (37, (pEq (.int .i64 (a_1.length : Int)))), (38, (pEq (.int .i64 v20))), (53, (pSl 1 (cK .i64) a_1)), (54, (pEq (.int .i64 (a_1.length : Int)))), (55, (pEq (.int .i64 v37)))]) ⟨rfl, rfl, rfl, rfl, rfl, rfl, rfl, rfl, rfl, rfl, rfl, rfl, rfl, trivial⟩ ?_
                refine Tr.region ?_
                refine RegL.pure (p := (pEq (.slice g39.1 g39.2.1 g39.2.2))) rfl rfl rfl (J_move rfl (Opd.tmp rfl)) ?_
                refine RegL.pure (p := (pPtr ((cSl 1 (cSl 1 (cK .i64))) a_0.Apart))) rfl rfl rfl (J_fieldAddr rfl Try.underlying32 rfl sz27 (by decide) (Opd.tmp rfl) rfl) ?_
                refine RegL.pure (p := (pSl 1 (cSl 1 (cK .i64)) a_0.Apart)) rfl rfl rfl (J_load rfl Try.isAgg27 (Opd.tmp rfl)) ?_
                refine RegL.pure (p := (pEq (.int .i64 x24))) rfl rfl rfl (J_move rfl (Opd.tmp rfl)) ?_
                replace h := bind_some h; obtain ⟨x41, hx41, h⟩ := h
                refine RegL.pure (p := (pPtr ((cSl 1 (cK .i64)) x41))) rfl rfl rfl (J_idx rfl Try.underlying27 sz22 (Opd.tmp rfl) (Opd.tmp rfl) hx41) ?_
                refine RegL.pure (p := (pSl 1 (cK .i64) x41)) rfl rfl rfl (J_load rfl Try.isAgg22 (Opd.tmp rfl)) ?_
                refine RegL.pure (p := (pEq (.int .i64 x40))) rfl rfl rfl (J_move rfl (Opd.tmp rfl)) ?_
                replace h := bind_some h; obtain ⟨x42, hx42, h⟩ := h
                refine RegL.pure (p := (pPtr ((cK .i64) x42))) rfl rfl rfl (J_idx rfl Try.underlying22 sz2 (Opd.tmp rfl) (Opd.tmp rfl) hx42) ?_
                refine RegL.pure (p := (pEq (.int .i64 x42))) rfl rfl rfl (J_load rfl Try.isAgg2 (Opd.tmp rfl)) ?_
                refine RegL.pure (p := (pSl 1 (cK .i64) ([x42] : (List Int)))) rfl rfl rfl (J_buildSlice (l := ([x42] : (List Int))) (qss := [(0, (cK .i64) x42)]) rfl Try.underlying22 el2 rfl (Parts.cons (Part.one (Opd.tmp rfl) OneC.int) Parts.nil) rfl rfl) ?_
                replace h := bind_some h; obtain ⟨x43, hx43, h⟩ := h
                refine RegL.step (γ := Option Addr × Nat) (p := fun g => pEq (.slice g.1 x43.length g.2)) (Ω' := fun g => [oSl 2 1 (cK .i64) g.1 x43.length g.2 x43, oBlk b15 [(pEq (.slice g32.1.1 x31.length g32.1.2)), (pEq (.slice g23.1.1.1 g23.1.1.2.1 g23.1.1.2.2))], oSS 22 2 1 (cK .i64) g32.1.1 x31.length g32.1.2 g32.2 x31, oSS 22 2 1 (cK .i64) g23.1.1.1 g23.1.1.2.1 g23.1.1.2.2 g23.1.2 v21, oBlk b1 [(pEq (.slice none 0 0)), (pEq (.slice none 0 0))]]) rfl rfl rfl (M_appendI rfl Try.underlying22 el2 (Opd.tmp rfl) (Opd.tmp rfl) hx43) fun g44 => ?_
                refine RegL.pure (p := (pEq (.slice g44.1 x43.length g44.2))) rfl rfl rfl (J_assign rfl (Opd.tmp rfl)) ?_
                refine RegL.nil ?_
                refine Ct.blk_normal ?_
                refine Ct.then_tr ?_
                refine Tr.weak (Γ' := [(1, (pSl 1 (cK .i64) a_1)), (2, (pPtr (cGProblem a_0))), (4, (pEq (.pointer (some ⟨b1, 0, none⟩)))), (6, (pEq (.pointer (some ⟨b15, 0, none⟩)))), (8, (pEq (.int .i64 x24))), (9, (pEq (.slice g44.1 x43.length g44.2))), (36, (pSl 1 (cK .i64) a_1)), (37, (pEq (.int .i64 (a_1.length : Int)))), (38, (pEq (.int .i64 v20))), (53, (pSl 1 (cK .i64) a_1)), (54, (pEq (.int .i64 (a_1.length : Int)))), (55, (pEq (.int .i64 v37)))]) ⟨rfl, rfl, rfl, rfl, rfl, rfl, rfl, rfl, rfl, rfl, rfl, rfl, trivial⟩ ?_
                refine Tr.region ?_
                refine RegL.pure (p := (pEq (.int .i64 (w64 (v37 + (1 : Int)))))) rfl rfl rfl (J_bin rfl (Opd.tmp rfl) Opd.con B_add) ?_
                refine RegL.pure (p := (pEq (.int .i64 (w64 (v37 + (1 : Int)))))) rfl rfl rfl (J_move rfl (Opd.tmp rfl)) ?_
                refine RegL.nil ?_
                replace h := Option.some.inj h; subst h
                exact Ct.again (g44.1, x43.length, g44.2) rfl ⟨rfl, rfl, rfl, rfl, rfl, rfl, rfl, rfl, rfl, rfl, rfl, rfl, trivial⟩
              · replace h := bif_f hc h
                refine Tr.exit ?_
                refine Ct.then_exit ?_
                replace h := map_some h; obtain ⟨r1, h, rfl⟩ := h
                refine Ct.out_exit fun e => ?_
                subst e
                refine Ct.blk_exit ?_
                replace h := Option.some.inj h; subst h
                exact Ct.mid (g39.1, g39.2.1, g39.2.2) rfl ⟨rfl, rfl, rfl, rfl, rfl, rfl, rfl, rfl, trivial⟩
            · clear hx35
              refine Ct.then_tr ?_
              refine Tr.weak (Γ' := [(1, (pSl 1 (cK .i64) a_1)), (2, (pPtr (cGProblem a_0))), (4, (pEq (.pointer (some ⟨b1, 0, none⟩)))), (6, (pEq (.pointer (some ⟨b15, 0, none⟩)))), (9, (pEq (.slice g45.1 g45.2.1 g45.2.2))), (36, (pSl 1 (cK .i64) a_1)), (37, (pEq (.int .i64 (a_1.length : Int)))), (38, (pEq (.int .i64 v20)))]) ⟨rfl, rfl, rfl, rfl, rfl, rfl, rfl, rfl, trivial⟩ ?_
              refine Tr.region ?_
              refine RegL.pure (p := (pEq (.pointer (some ⟨b15, 1, none⟩)))) rfl rfl rfl (J_fieldAddrE rfl Try.underlying32 rfl sz27 (by decide) (Opd.tmp rfl) rfl) ?_
              refine RegL.pureW (p := (pEq (.slice g23.1.1.1 g23.1.1.2.1 g23.1.1.2.2))) rfl rfl rfl (W_load (i := 1) rfl Try.isAgg27 (Opd.tmp rfl) rfl rfl) ?_
              refine RegL.pure (p := (pEq (.slice g45.1 g45.2.1 g45.2.2))) rfl rfl rfl (J_move rfl (Opd.tmp rfl)) ?_
              refine RegL.step (γ := Option Addr) (p := fun a => pEq (.slice a 1 1)) (Ω' := fun a => [oSl 22 1 cHdr a 1 1 [(g45.1, g45.2.1, g45.2.2)], oSl 2 1 (cK .i64) g45.1 g45.2.1 g45.2.2 x35, oBlk b15 [(pEq (.slice g32.1.1 x31.length g32.1.2)), (pEq (.slice g23.1.1.1 g23.1.1.2.1 g23.1.1.2.2))], oSS 22 2 1 (cK .i64) g32.1.1 x31.length g32.1.2 g32.2 x31, oSS 22 2 1 (cK .i64) g23.1.1.1 g23.1.1.2.1 g23.1.1.2.2 g23.1.2 v21, oBlk b1 [(pEq (.slice none 0 0)), (pEq (.slice none 0 0))]]) rfl rfl rfl (M_buildSlice (qss := [(0, cHdr (g45.1, g45.2.1, g45.2.2))]) rfl Try.underlying27 elh22 rfl (Parts.cons (Part.one (Opd.tmp rfl) OneC.slice) Parts.nil) rfl rfl) fun o46 => ?_
              refine RegL.re (Ω2 := [oSS 22 2 1 (cK .i64) o46 1 1 [(g45.1, g45.2.1, g45.2.2)] [x35], oBlk b15 [(pEq (.slice g32.1.1 x31.length g32.1.2)), (pEq (.slice g23.1.1.1 g23.1.1.2.1 g23.1.1.2.2))], oSS 22 2 1 (cK .i64) g32.1.1 x31.length g32.1.2 g32.2 x31, oSS 22 2 1 (cK .i64) g23.1.1.1 g23.1.1.2.1 g23.1.1.2.2 g23.1.2 v21, oBlk b1 [(pEq (.slice none 0 0)), (pEq (.slice none 0 0))]]) (fun h => nest_one h) ?_
              replace h := bind_some h; obtain ⟨x48, hx48, h⟩ := h
              refine RegL.re (Ω2 := [oSS 22 2 1 (cK .i64) g23.1.1.1 g23.1.1.2.1 g23.1.1.2.2 g23.1.2 v21, oSS 22 2 1 (cK .i64) o46 1 1 [(g45.1, g45.2.1, g45.2.2)] [x35], oBlk b15 [(pEq (.slice g32.1.1 x31.length g32.1.2)), (pEq (.slice g23.1.1.1 g23.1.1.2.1 g23.1.1.2.2))], oSS 22 2 1 (cK .i64) g32.1.1 x31.length g32.1.2 g32.2 x31, oBlk b1 [(pEq (.slice none 0 0)), (pEq (.slice none 0 0))]]) (fun h => SatO.pick 3 h) ?_
              refine RegL.step (γ := (Option Addr × Nat) × List G3) (p := fun g => pEq (.slice g.1.1 x48.length g.1.2)) (Ω' := fun g => [oSS 22 2 1 (cK .i64) g.1.1 x48.length g.1.2 g.2 x48, oBlk b15 [(pEq (.slice g32.1.1 x31.length g32.1.2)), (pEq (.slice g23.1.1.1 g23.1.1.2.1 g23.1.1.2.2))], oSS 22 2 1 (cK .i64) g32.1.1 x31.length g32.1.2 g32.2 x31, oBlk b1 [(pEq (.slice none 0 0)), (pEq (.slice none 0 0))]]) rfl rfl rfl (M_nestAppend rfl Try.underlying27 elh22 (Opd.tmp rfl) (Opd.tmp rfl) hx48) fun g49 => ?_
              refine RegL.pure (p := (pEq (.pointer (some ⟨b15, 1, none⟩)))) rfl rfl rfl (J_fieldAddrE rfl Try.underlying32 rfl sz27 (by decide) (Opd.tmp rfl) rfl) ?_
              refine RegL.re (Ω2 := [oBlk b15 [(pEq (.slice g32.1.1 x31.length g32.1.2)), (pEq (.slice g23.1.1.1 g23.1.1.2.1 g23.1.1.2.2))], oSS 22 2 1 (cK .i64) g49.1.1 x48.length g49.1.2 g49.2 x48, oSS 22 2 1 (cK .i64) g32.1.1 x31.length g32.1.2 g32.2 x31, oBlk b1 [(pEq (.slice none 0 0)), (pEq (.slice none 0 0))]]) (fun h => SatO.pick 1 h) ?_
              refine RegL.stepN (γ := Unit) (p := fun _ => pAny) (Ω' := fun _ => [oBlk b15 [(pEq (.slice g32.1.1 x31.length g32.1.2)), (pEq (.slice g49.1.1 x48.length g49.1.2))], oSS 22 2 1 (cK .i64) g49.1.1 x48.length g49.1.2 g49.2 x48, oSS 22 2 1 (cK .i64) g32.1.1 x31.length g32.1.2 g32.2 x31, oBlk b1 [(pEq (.slice none 0 0)), (pEq (.slice none 0 0))]]) rfl rfl (M_store rfl sz27 (Opd.tmp rfl) (Opd.tmp rfl) OneC.slice rfl rfl) fun g50 => ?_
              refine RegL.nil ?_
              refine Ct.blk_normal ?_
              refine Ct.then_tr ?_
              refine Tr.weak (Γ' := [(1, (pSl 1 (cK .i64) a_1)), (2, (pPtr (cGProblem a_0))), (4, (pEq (.pointer (some ⟨b1, 0, none⟩)))), (6, (pEq (.pointer (some ⟨b15, 0, none⟩)))), (36, (pSl 1 (cK .i64) a_1)), (37, (pEq (.int .i64 (a_1.length : Int)))), (38, (pEq (.int .i64 v20)))]) ⟨rfl, rfl, rfl, rfl, rfl, rfl, rfl, trivial⟩ ?_
              refine Tr.region ?_
              refine RegL.pure (p := (pEq (.int .i64 (w64 (v20 + (1 : Int)))))) rfl rfl rfl (J_bin rfl (Opd.tmp rfl) Opd.con B_add) ?_
              refine RegL.pure (p := (pEq (.int .i64 (w64 (v20 + (1 : Int)))))) rfl rfl rfl (J_move rfl (Opd.tmp rfl)) ?_
              refine RegL.nil ?_
              refine Ct.re (Ω2 := [oBlk b1 [(pEq (.slice none 0 0)), (pEq (.slice none 0 0))], oBlk b15 [(pEq (.slice g32.1.1 x31.length g32.1.2)), (pEq (.slice g49.1.1 x48.length g49.1.2))], oSS 22 2 1 (cK .i64) g49.1.1 x48.length g49.1.2 g49.2 x48, oSS 22 2 1 (cK .i64) g32.1.1 x31.length g32.1.2 g32.2 x31]) (fun h => SatO.pick 3 h) ?_
              refine Ct.re (Ω2 := [oBlk b15 [(pEq (.slice g32.1.1 x31.length g32.1.2)), (pEq (.slice g49.1.1 x48.length g49.1.2))], oBlk b1 [(pEq (.slice none 0 0)), (pEq (.slice none 0 0))], oSS 22 2 1 (cK .i64) g49.1.1 x48.length g49.1.2 g49.2 x48, oSS 22 2 1 (cK .i64) g32.1.1 x31.length g32.1.2 g32.2 x31]) (fun h => SatO.pick 1 h) ?_
              refine Ct.re (Ω2 := [oSS 22 2 1 (cK .i64) g32.1.1 x31.length g32.1.2 g32.2 x31, oBlk b15 [(pEq (.slice g32.1.1 x31.length g32.1.2)), (pEq (.slice g49.1.1 x48.length g49.1.2))], oBlk b1 [(pEq (.slice none 0 0)), (pEq (.slice none 0 0))], oSS 22 2 1 (cK .i64) g49.1.1 x48.length g49.1.2 g49.2 x48]) (fun h => SatO.pick 3 h) ?_
              refine Ct.re (Ω2 := [oSS 22 2 1 (cK .i64) g49.1.1 x48.length g49.1.2 g49.2 x48, oSS 22 2 1 (cK .i64) g32.1.1 x31.length g32.1.2 g32.2 x31, oBlk b15 [(pEq (.slice g32.1.1 x31.length g32.1.2)), (pEq (.slice g49.1.1 x48.length g49.1.2))], oBlk b1 [(pEq (.slice none 0 0)), (pEq (.slice none 0 0))]]) (fun h => SatO.pick 3 h) ?_
              replace h := Option.some.inj h; subst h
              exact Ct.again (((g49.1.1, x48.length, g49.1.2), g49.2), ((g32.1.1, x31.length, g32.1.2), g32.2)) rfl ⟨rfl, rfl, rfl, rfl, rfl, rfl, rfl, trivial⟩
          · replace h := bif_f hc h
            refine Tr.exit ?_
            refine Ct.then_exit ?_
            replace h := map_some h; obtain ⟨r1, h, rfl⟩ := h
            refine Ct.out_exit fun e => ?_
            subst e
            refine Ct.blk_exit ?_
            replace h := Option.some.inj h; subst h
            exact Ct.mid (((g23.1.1.1, g23.1.1.2.1, g23.1.1.2.2), g23.1.2), ((g23.2.1.1, g23.2.1.2.1, g23.2.1.2.2), g23.2.2)) rfl ⟨rfl, rfl, trivial⟩
        · clear hx18
          refine Ct.then_tr ?_
          refine Tr.weak (Γ' := [(4, (pEq (.pointer (some ⟨b1, 0, none⟩)))), (6, (pEq (.pointer (some ⟨b15, 0, none⟩))))]) ⟨rfl, rfl, trivial⟩ ?_
          refine Tr.seq ?_
          refine Tr.region ?_
          refine RegL.pureW (p := (pAgg [(pEq (.slice g51.2.1.1 g51.2.1.2.1 g51.2.1.2.2)), (pEq (.slice g51.1.1.1 g51.1.1.2.1 g51.1.1.2.2))])) rfl rfl rfl (W_loadA (i := 2) rfl Try.isAgg32 sz32 (Opd.tmp rfl) rfl rfl) ?_
          refine RegL.re (Ω2 := [oBlk b1 [(pEq (.slice none 0 0)), (pEq (.slice none 0 0))], oSS 22 2 1 (cK .i64) g51.1.1.1 g51.1.1.2.1 g51.1.1.2.2 g51.1.2 x18.1, oSS 22 2 1 (cK .i64) g51.2.1.1 g51.2.1.2.1 g51.2.1.2.2 g51.2.2 x18.2, oBlk b15 [(pEq (.slice g51.2.1.1 g51.2.1.2.1 g51.2.1.2.2)), (pEq (.slice g51.1.1.1 g51.1.1.2.1 g51.1.1.2.2))]]) (fun h => SatO.pick 3 h) ?_
          refine RegL.stepN (γ := Unit) (p := fun _ => pAny) (Ω' := fun _ => [oBlk b1 [(pEq (.slice g51.2.1.1 g51.2.1.2.1 g51.2.1.2.2)), (pEq (.slice g51.1.1.1 g51.1.1.2.1 g51.1.1.2.2))], oSS 22 2 1 (cK .i64) g51.1.1.1 g51.1.1.2.1 g51.1.1.2.2 g51.1.2 x18.1, oSS 22 2 1 (cK .i64) g51.2.1.1 g51.2.1.2.1 g51.2.1.2.2 g51.2.2 x18.2, oBlk b15 [(pEq (.slice g51.2.1.1 g51.2.1.2.1 g51.2.1.2.2)), (pEq (.slice g51.1.1.1 g51.1.1.2.1 g51.1.1.2.2))]]) rfl rfl (M_storeA rfl sz32 (Opd.tmp rfl) (Opd.tmp rfl) (fun _ _ _ h => ones_of ((OneCs.cons OneC.slice (OneCs.cons OneC.slice OneCs.nil))) h) rfl rfl) fun g52 => ?_
          refine RegL.pure (p := (pEq (.int .i64 (0 : Int)))) rfl rfl rfl (J_assign rfl Opd.con) ?_
          refine RegL.nil ?_
          refine Ct.then_tr ?_
          refine Tr.weak (Γ' := [(4, (pEq (.pointer (some ⟨b1, 0, none⟩)))), (5, (pEq (.int .i64 (0 : Int))))]) ⟨rfl, rfl, trivial⟩ ?_
          refine Tr.ret ?_
          refine Ct.re (Ω2 := [oSS 22 2 1 (cK .i64) g51.1.1.1 g51.1.1.2.1 g51.1.1.2.2 g51.1.2 x18.1, oBlk b1 [(pEq (.slice g51.2.1.1 g51.2.1.2.1 g51.2.1.2.2)), (pEq (.slice g51.1.1.1 g51.1.1.2.1 g51.1.1.2.2))], oSS 22 2 1 (cK .i64) g51.2.1.1 g51.2.1.2.1 g51.2.1.2.2 g51.2.2 x18.2, oBlk b15 [(pEq (.slice g51.2.1.1 g51.2.1.2.1 g51.2.1.2.2)), (pEq (.slice g51.1.1.1 g51.1.1.2.1 g51.1.1.2.2))]]) (fun h => SatO.pick 1 h) ?_
          refine Ct.re (Ω2 := [oSS 22 2 1 (cK .i64) g51.2.1.1 g51.2.1.2.1 g51.2.1.2.2 g51.2.2 x18.2, oSS 22 2 1 (cK .i64) g51.1.1.1 g51.1.1.2.1 g51.1.1.2.2 g51.1.2 x18.1, oBlk b1 [(pEq (.slice g51.2.1.1 g51.2.1.2.1 g51.2.1.2.2)), (pEq (.slice g51.1.1.1 g51.1.1.2.1 g51.1.1.2.2))], oBlk b15 [(pEq (.slice g51.2.1.1 g51.2.1.2.1 g51.2.1.2.2)), (pEq (.slice g51.1.1.1 g51.1.1.2.1 g51.1.1.2.2))]]) (fun h => SatO.pick 2 h) ?_
          refine Ct.re (Ω2 := [oBlk b15 [(pEq (.slice g51.2.1.1 g51.2.1.2.1 g51.2.1.2.2)), (pEq (.slice g51.1.1.1 g51.1.1.2.1 g51.1.1.2.2))], oSS 22 2 1 (cK .i64) g51.2.1.1 g51.2.1.2.1 g51.2.1.2.2 g51.2.2 x18.2, oSS 22 2 1 (cK .i64) g51.1.1.1 g51.1.1.2.1 g51.1.1.2.2 g51.1.2 x18.1, oBlk b1 [(pEq (.slice g51.2.1.1 g51.2.1.2.1 g51.2.1.2.2)), (pEq (.slice g51.1.1.1 g51.1.1.2.1 g51.1.1.2.2))]]) (fun h => SatO.pick 3 h) ?_
          refine Ct.re (Ω2 := [oBlk b1 [(pEq (.slice g51.2.1.1 g51.2.1.2.1 g51.2.1.2.2)), (pEq (.slice g51.1.1.1 g51.1.1.2.1 g51.1.1.2.2))], oBlk b15 [(pEq (.slice g51.2.1.1 g51.2.1.2.1 g51.2.1.2.2)), (pEq (.slice g51.1.1.1 g51.1.1.2.1 g51.1.1.2.2))], oSS 22 2 1 (cK .i64) g51.2.1.1 g51.2.1.2.1 g51.2.1.2.2 g51.2.2 x18.2, oSS 22 2 1 (cK .i64) g51.1.1.1 g51.1.1.2.1 g51.1.1.2.2 g51.1.2 x18.1]) (fun h => SatO.pick 3 h) ?_
          replace h := Option.some.inj h; subst h
          exact Ct.retH2 (Ωx := [oBlk b1 [(pEq (.slice g51.2.1.1 g51.2.1.2.1 g51.2.1.2.2)), (pEq (.slice g51.1.1.1 g51.1.1.2.1 g51.1.1.2.2))], oBlk b15 [(pEq (.slice g51.2.1.1 g51.2.1.2.1 g51.2.1.2.2)), (pEq (.slice g51.1.1.1 g51.1.1.2.1 g51.1.1.2.2))]]) (((g51.2.1.1, g51.2.1.2.1, g51.2.1.2.2), g51.2.2), ((g51.1.1.1, g51.1.1.2.1, g51.1.1.2.2), g51.1.2)) rfl (RvOk.cellA (i := 0) Try.isAgg32 sz32 rfl rfl rfl) (RvOk.tmp rfl) rfl rfl

theorem c_impl_PartProblem {a_0 : GProblem} {a_1 : (List Int)} {r : (GProblem × Int)} (h : m_impl_PartProblem a_0 a_1 = some r) : CallJ Try.prog 37 [(pAgg (cGProblem a_0)), (pSl 1 (cK .i64) a_1)] (pTup [(pAgg (cGProblem r.1)), (pEq (.int .i64 r.2))]) :=
  CallH.frozen (o_impl_PartProblem h) (fun g => (Conv.tup (Convs.cons (Conv.agg (Convs.cons (Conv.nest 0 (fun _ => rfl) rfl) (Convs.cons (Conv.nest 1 (fun _ => rfl) rfl) Convs.nil))) (Convs.cons Conv.refl Convs.nil))))

theorem c_laws_eqInt64S {a_0 : (List Int)} {b_1 : (List Int)} {r : Bool} (h : m_laws_eqInt64S a_0 b_1 = some r) : CallJ Try.prog 18 [(pSl 1 (cK .i64) a_0), (pSl 1 (cK .i64) b_1)] (pEq (.bool r)) := by
  unfold m_laws_eqInt64S at h
  refine CallJ.enterH Try.func18 rfl Try.ntmps18 rfl fun W I0 H => ?_
  refine Tr.weak (Γ' := [(0, (pSl 1 (cK .i64) a_0)), (1, (pSl 1 (cK .i64) b_1))]) ⟨rfl, rfl, trivial⟩ ?_
  refine Tr.seq ?_
  refine Tr.region ?_
  refine RegL.pure (p := (pEq (.bool false))) rfl rfl rfl (J_assign rfl Opd.con) ?_
  refine RegL.nil ?_
  refine Ct.then_tr ?_
  refine Tr.weak (Γ' := [(0, (pSl 1 (cK .i64) a_0)), (1, (pSl 1 (cK .i64) b_1))]) ⟨rfl, rfl, trivial⟩ ?_
  refine Tr.seq ?_
  refine Tr.seq ?_
  refine Tr.region ?_
  refine RegL.pure (p := (pSl 1 (cK .i64) a_0)) rfl rfl rfl (J_move rfl (Opd.tmp rfl)) ?_
  refine RegL.pure (p := (pEq (.int .i64 (a_0.length : Int)))) rfl rfl rfl (J_len rfl Try.underlying22 (Opd.tmp rfl) rfl) ?_
  refine RegL.pure (p := (pSl 1 (cK .i64) b_1)) rfl rfl rfl (J_move rfl (Opd.tmp rfl)) ?_
  refine RegL.pure (p := (pEq (.int .i64 (b_1.length : Int)))) rfl rfl rfl (J_len rfl Try.underlying22 (Opd.tmp rfl) rfl) ?_
  refine RegL.pure (p := (pEq (.bool ((a_0.length : Int) != (b_1.length : Int))))) rfl rfl rfl (J_bin rfl (Opd.tmp rfl) (Opd.tmp rfl) B_neq) ?_
  refine RegL.nil ?_
  refine Ct.then_tr ?_
  refine Tr.weak (Γ' := [(0, (pSl 1 (cK .i64) a_0)), (1, (pSl 1 (cK .i64) b_1)), (10, (pEq (.bool ((a_0.length : Int) != (b_1.length : Int)))))]) ⟨rfl, rfl, rfl, trivial⟩ ?_
  refine Tr.cond (Opd.tmp rfl) (fun hc => ?_) (fun hc => ?_)
  · replace h := bif_t hc h
    refine Tr.seq ?_
    refine Tr.region ?_
    refine RegL.pure (p := (pEq (.bool false))) rfl rfl rfl (J_assign rfl Opd.con) ?_
    refine RegL.nil ?_
    refine Ct.then_tr ?_
    refine Tr.weak (Γ' := [(4, (pEq (.bool false)))]) ⟨rfl, trivial⟩ ?_
    refine Tr.ret ?_
    refine Ct.then_ret ?_
    replace h := Option.some.inj h; subst h
    exact Ct.retH1 (Ωx := []) () rfl (RvOk.tmp rfl) rfl
  · replace h := bif_f hc h
    refine Tr.skip ?_
    refine Ct.then_tr ?_
    refine Tr.weak (Γ' := [(0, (pSl 1 (cK .i64) a_0)), (1, (pSl 1 (cK .i64) b_1))]) ⟨rfl, rfl, trivial⟩ ?_
    refine Tr.seq ?_
    refine Tr.seq ?_
    refine Tr.region ?_
    refine RegL.pure (p := (pEq (.int .i64 (0 : Int)))) rfl rfl rfl (J_assign rfl Opd.con) ?_
    refine RegL.nil ?_
    refine Ct.then_tr ?_
    refine Tr.weak (Γ' := [(0, (pSl 1 (cK .i64) a_0)), (1, (pSl 1 (cK .i64) b_1)), (5, (pEq (.int .i64 (0 : Int))))]) ⟨rfl, rfl, rfl, trivial⟩ ?_
    refine Tr.block ?_
    refine Tr.weak (Γ' := [(0, (pSl 1 (cK .i64) a_0)), (1, (pSl 1 (cK .i64) b_1)), (5, (pEq (.int .i64 (0 : Int))))]) ⟨rfl, rfl, rfl, trivial⟩ ?_
    refine Tr.loop (γ := Unit) (σ := Int) (Γσ := fun s g => [(0, (pSl 1 (cK .i64) a_0)), (1, (pSl 1 (cK .i64) b_1)), (5, (pEq (.int .i64 s)))]) (Ωσ := fun s g => []) (g := ()) h ?_
    clear h
    rintro v2 g3 t h
    replace h : m_laws_eqInt64S_B1 a_0 b_1 v2 = some t := h
    unfold m_laws_eqInt64S_B1 at h
    refine Tr.weakO (Γ' := [(0, (pSl 1 (cK .i64) a_0)), (1, (pSl 1 (cK .i64) b_1)), (5, (pEq (.int .i64 v2)))]) (Ω' := []) rfl ⟨rfl, rfl, rfl, trivial⟩ ?_
    refine Tr.seq ?_
    refine Tr.seq ?_
    refine Tr.region ?_
    refine RegL.pure (p := (pEq (.int .i64 v2))) rfl rfl rfl (J_move rfl (Opd.tmp rfl)) ?_
    refine RegL.pure (p := (pSl 1 (cK .i64) a_0)) rfl rfl rfl (J_move rfl (Opd.tmp rfl)) ?_
    refine RegL.pure (p := (pEq (.int .i64 (a_0.length : Int)))) rfl rfl rfl (J_len rfl Try.underlying22 (Opd.tmp rfl) rfl) ?_
    refine RegL.pure (p := (pEq (.bool (decide (v2 < (a_0.length : Int)))))) rfl rfl rfl (J_bin rfl (Opd.tmp rfl) (Opd.tmp rfl) B_lss) ?_
    refine RegL.nil ?_
    refine Ct.then_tr ?_
    refine Tr.weak (Γ' := [(0, (pSl 1 (cK .i64) a_0)), (1, (pSl 1 (cK .i64) b_1)), (5, (pEq (.int .i64 v2))), (14, (pEq (.bool (decide (v2 < (a_0.length : Int))))))]) ⟨rfl, rfl, rfl, rfl, trivial⟩ ?_
    refine Tr.cond (Opd.tmp rfl) (fun hc => ?_) (fun hc => ?_)
    · replace h := bif_t hc h
      refine Tr.skip ?_
      refine Ct.then_tr ?_
      refine Tr.weak (Γ' := [(0, (pSl 1 (cK .i64) a_0)), (1, (pSl 1 (cK .i64) b_1)), (5, (pEq (.int .i64 v2)))]) ⟨rfl, rfl, rfl, trivial⟩ ?_
      refine Tr.seq ?_
      refine Tr.block ?_
      refine Tr.seq ?_
      replace h := bind_some h; obtain ⟨x4, hx4, h⟩ := h
      replace h := bind_some h; obtain ⟨x5, hx5, h⟩ := h
      refine Tr.drawD (n := 26) (m := 9) (es := [some (Ent.mk [(0, (pSl 1 (cK .i64) a_0))] (pSl 1 (cK .i64) a_0) true), some (Ent.mk [(5, (pEq (.int .i64 v2)))] (pEq (.int .i64 v2)) true), some (Ent.mk [(17, (pSl 1 (cK .i64) a_0)), (18, (pEq (.int .i64 v2)))] (pPtr ((cK .i64) x4)) true), some (Ent.mk [(19, (pPtr ((cK .i64) x4)))] (pEq (.int .i64 x4)) true), some (Ent.mk [(1, (pSl 1 (cK .i64) b_1))] (pSl 1 (cK .i64) b_1) true), some (Ent.mk [(5, (pEq (.int .i64 v2)))] (pEq (.int .i64 v2)) true), some (Ent.mk [(21, (pSl 1 (cK .i64) b_1)), (22, (pEq (.int .i64 v2)))] (pPtr ((cK .i64) x5)) true), some (Ent.mk [(23, (pPtr ((cK .i64) x5)))] (pEq (.int .i64 x5)) true), some (Ent.mk [(20, (pEq (.int .i64 x4))), (24, (pEq (.int .i64 x5)))] (pEq (.bool (x4 != x5))) true)]) (rd := [[0], [5], [17, 18], [19], [1], [5], [21, 22], [23], [20, 24]]) rfl hmix (by kernel_rfl) fun hD => ?_
      refine RD.fin (es := [Ent.mk [(0, (pSl 1 (cK .i64) a_0))] (pSl 1 (cK .i64) a_0) true, Ent.mk [(5, (pEq (.int .i64 v2)))] (pEq (.int .i64 v2)) true, Ent.mk [(17, (pSl 1 (cK .i64) a_0)), (18, (pEq (.int .i64 v2)))] (pPtr ((cK .i64) x4)) true, Ent.mk [(19, (pPtr ((cK .i64) x4)))] (pEq (.int .i64 x4)) true, Ent.mk [(1, (pSl 1 (cK .i64) b_1))] (pSl 1 (cK .i64) b_1) true, Ent.mk [(5, (pEq (.int .i64 v2)))] (pEq (.int .i64 v2)) true, Ent.mk [(21, (pSl 1 (cK .i64) b_1)), (22, (pEq (.int .i64 v2)))] (pPtr ((cK .i64) x5)) true, Ent.mk [(23, (pPtr ((cK .i64) x5)))] (pEq (.int .i64 x5)) true, Ent.mk [(20, (pEq (.int .i64 x4))), (24, (pEq (.int .i64 x5)))] (pEq (.bool (x4 != x5))) true]) (done := []) hD ⟨.inr ⟨(OpJ.w (J_move rfl (Opd.tmp rfl))), ⟨rfl, trivial⟩, rfl, rfl⟩, ⟨.inr ⟨(OpJ.w (J_move rfl (Opd.tmp rfl))), ⟨rfl, trivial⟩, rfl, rfl⟩, ⟨.inr ⟨(OpJ.w (J_idx rfl Try.underlying22 sz2 (Opd.tmp rfl) (Opd.tmp rfl) hx4)), ⟨rfl, rfl, trivial⟩, rfl, rfl⟩, ⟨.inr ⟨(OpJ.w (J_load rfl Try.isAgg2 (Opd.tmp rfl))), ⟨rfl, trivial⟩, rfl, rfl⟩, ⟨.inr ⟨(OpJ.w (J_move rfl (Opd.tmp rfl))), ⟨rfl, trivial⟩, rfl, rfl⟩, ⟨.inr ⟨(OpJ.w (J_move rfl (Opd.tmp rfl))), ⟨rfl, trivial⟩, rfl, rfl⟩, ⟨.inr ⟨(OpJ.w (J_idx rfl Try.underlying22 sz2 (Opd.tmp rfl) (Opd.tmp rfl) hx5)), ⟨rfl, rfl, trivial⟩, rfl, rfl⟩, ⟨.inr ⟨(OpJ.w (J_load rfl Try.isAgg2 (Opd.tmp rfl))), ⟨rfl, trivial⟩, rfl, rfl⟩, ⟨.inr ⟨(OpJ.w (J_bin rfl (Opd.tmp rfl) (Opd.tmp rfl) B_neq)), ⟨rfl, rfl, trivial⟩, rfl, rfl⟩, trivial⟩⟩⟩⟩⟩⟩⟩⟩⟩ ?_
      refine RegL.nil ?_
      refine Ct.then_tr ?_
      refine Tr.weak (Γ' := [(0, (pSl 1 (cK .i64) a_0)), (1, (pSl 1 (cK .i64) b_1)), (5, (pEq (.int .i64 v2))), (25, (pEq (.bool (x4 != x5))))]) ⟨rfl, rfl, rfl, rfl, trivial⟩ ?_
      refine Tr.cond (Opd.tmp rfl) (fun hc => ?_) (fun hc => ?_)
      · replace h := bif_t hc h
        refine Tr.seq ?_
        refine Tr.region ?_
        refine RegL.pure (p := (pEq (.bool false))) rfl rfl rfl (J_assign rfl Opd.con) ?_
        refine RegL.nil ?_
        refine Ct.then_tr ?_
        refine Tr.weak (Γ' := [(4, (pEq (.bool false)))]) ⟨rfl, trivial⟩ ?_
        refine Tr.ret ?_
        refine Ct.blk_ret ?_
        refine Ct.then_ret ?_
        replace h := map_some h; obtain ⟨r1, h, rfl⟩ := h
        refine Ct.out_ret fun e => ?_
        subst e
        refine Ct.blk_ret ?_
        refine Ct.then_ret ?_
        replace h := Option.some.inj h; subst h
        exact Ct.retH1 (Ωx := []) () rfl (RvOk.tmp rfl) rfl
      · replace h := bif_f hc h
        refine Tr.skip ?_
        refine Ct.blk_normal ?_
        refine Ct.then_tr ?_
        refine Tr.weak (Γ' := [(0, (pSl 1 (cK .i64) a_0)), (1, (pSl 1 (cK .i64) b_1)), (5, (pEq (.int .i64 v2)))]) ⟨rfl, rfl, rfl, trivial⟩ ?_
        refine Tr.region ?_
        refine RegL.pure (p := (pEq (.int .i64 v2))) rfl rfl rfl (J_move rfl (Opd.tmp rfl)) ?_
        refine RegL.pure (p := (pEq (.int .i64 (w64 (v2 + (1 : Int)))))) rfl rfl rfl (J_bin rfl (Opd.tmp rfl) Opd.con B_add) ?_
        refine RegL.pure (p := (pEq (.int .i64 (w64 (v2 + (1 : Int)))))) rfl rfl rfl (J_assign rfl (Opd.tmp rfl)) ?_
        refine RegL.nil ?_
        replace h := Option.some.inj h; subst h
        exact Ct.again () rfl ⟨rfl, rfl, rfl, trivial⟩
    · replace h := bif_f hc h
      refine Tr.exit ?_
      refine Ct.then_exit ?_
      replace h := map_some h; obtain ⟨r1, h, rfl⟩ := h
      refine Ct.out_exit fun e => ?_
      subst e
      refine Ct.blk_exit ?_
      refine Ct.then_tr ?_
      refine Tr.weak (Γ' := []) trivial ?_
      refine Tr.seq ?_
      refine Tr.region ?_
      refine RegL.pure (p := (pEq (.bool true))) rfl rfl rfl (J_assign rfl Opd.con) ?_
      refine RegL.nil ?_
      refine Ct.then_tr ?_
      refine Tr.weak (Γ' := [(4, (pEq (.bool true)))]) ⟨rfl, trivial⟩ ?_
      refine Tr.ret ?_
      replace h := Option.some.inj h; subst h
      exact Ct.retH1 (Ωx := []) () rfl (RvOk.tmp rfl) rfl

theorem c_laws_eqInt64SS {a_0 : (List (List Int))} {b_1 : (List (List Int))} {r : Bool} (h : m_laws_eqInt64SS a_0 b_1 = some r) : CallJ Try.prog 32 [(pSl 1 (cSl 1 (cK .i64)) a_0), (pSl 1 (cSl 1 (cK .i64)) b_1)] (pEq (.bool r)) := by
  unfold m_laws_eqInt64SS at h
  refine CallJ.enterH Try.func32 rfl Try.ntmps32 rfl fun W I0 H => ?_
  refine Tr.weak (Γ' := [(0, (pSl 1 (cSl 1 (cK .i64)) a_0)), (1, (pSl 1 (cSl 1 (cK .i64)) b_1))]) ⟨rfl, rfl, trivial⟩ ?_
  refine Tr.seq ?_
  refine Tr.region ?_
  refine RegL.pure (p := (pEq (.bool false))) rfl rfl rfl (J_assign rfl Opd.con) ?_
  refine RegL.nil ?_
  refine Ct.then_tr ?_
  refine Tr.weak (Γ' := [(0, (pSl 1 (cSl 1 (cK .i64)) a_0)), (1, (pSl 1 (cSl 1 (cK .i64)) b_1))]) ⟨rfl, rfl, trivial⟩ ?_
  refine Tr.seq ?_
  refine Tr.seq ?_
  refine Tr.region ?_
  refine RegL.pure (p := (pSl 1 (cSl 1 (cK .i64)) a_0)) rfl rfl rfl (J_move rfl (Opd.tmp rfl)) ?_
  refine RegL.pure (p := (pEq (.int .i64 (a_0.length : Int)))) rfl rfl rfl (J_len rfl Try.underlying27 (Opd.tmp rfl) rfl) ?_
  refine RegL.pure (p := (pSl 1 (cSl 1 (cK .i64)) b_1)) rfl rfl rfl (J_move rfl (Opd.tmp rfl)) ?_
  refine RegL.pure (p := (pEq (.int .i64 (b_1.length : Int)))) rfl rfl rfl (J_len rfl Try.underlying27 (Opd.tmp rfl) rfl) ?_
  refine RegL.pure (p := (pEq (.bool ((a_0.length : Int) != (b_1.length : Int))))) rfl rfl rfl (J_bin rfl (Opd.tmp rfl) (Opd.tmp rfl) B_neq) ?_
  refine RegL.nil ?_
  refine Ct.then_tr ?_
  refine Tr.weak (Γ' := [(0, (pSl 1 (cSl 1 (cK .i64)) a_0)), (1, (pSl 1 (cSl 1 (cK .i64)) b_1)), (10, (pEq (.bool ((a_0.length : Int) != (b_1.length : Int)))))]) ⟨rfl, rfl, rfl, trivial⟩ ?_
  refine Tr.cond (Opd.tmp rfl) (fun hc => ?_) (fun hc => ?_)
  · replace h := bif_t hc h
    refine Tr.seq ?_
    refine Tr.region ?_
    refine RegL.pure (p := (pEq (.bool false))) rfl rfl rfl (J_assign rfl Opd.con) ?_
    refine RegL.nil ?_
    refine Ct.then_tr ?_
    refine Tr.weak (Γ' := [(4, (pEq (.bool false)))]) ⟨rfl, trivial⟩ ?_
    refine Tr.ret ?_
    refine Ct.then_ret ?_
    replace h := Option.some.inj h; subst h
    exact Ct.retH1 (Ωx := []) () rfl (RvOk.tmp rfl) rfl
  · replace h := bif_f hc h
    refine Tr.skip ?_
    refine Ct.then_tr ?_
    refine Tr.weak (Γ' := [(0, (pSl 1 (cSl 1 (cK .i64)) a_0)), (1, (pSl 1 (cSl 1 (cK .i64)) b_1))]) ⟨rfl, rfl, trivial⟩ ?_
    refine Tr.seq ?_
    refine Tr.seq ?_
    refine Tr.region ?_
    refine RegL.pure (p := (pEq (.int .i64 (0 : Int)))) rfl rfl rfl (J_assign rfl Opd.con) ?_
    refine RegL.nil ?_
    refine Ct.then_tr ?_
    refine Tr.weak (Γ' := [(0, (pSl 1 (cSl 1 (cK .i64)) a_0)), (1, (pSl 1 (cSl 1 (cK .i64)) b_1)), (5, (pEq (.int .i64 (0 : Int))))]) ⟨rfl, rfl, rfl, trivial⟩ ?_
    refine Tr.block ?_
    refine Tr.weak (Γ' := [(0, (pSl 1 (cSl 1 (cK .i64)) a_0)), (1, (pSl 1 (cSl 1 (cK .i64)) b_1)), (5, (pEq (.int .i64 (0 : Int))))]) ⟨rfl, rfl, rfl, trivial⟩ ?_
    refine Tr.loop (γ := Unit) (σ := Int) (Γσ := fun s g => [(0, (pSl 1 (cSl 1 (cK .i64)) a_0)), (1, (pSl 1 (cSl 1 (cK .i64)) b_1)), (5, (pEq (.int .i64 s)))]) (Ωσ := fun s g => []) (g := ()) h ?_
    clear h
    rintro v2 g3 t h
    replace h : m_laws_eqInt64SS_B1 a_0 b_1 v2 = some t := h
    unfold m_laws_eqInt64SS_B1 at h
    refine Tr.weakO (Γ' := [(0, (pSl 1 (cSl 1 (cK .i64)) a_0)), (1, (pSl 1 (cSl 1 (cK .i64)) b_1)), (5, (pEq (.int .i64 v2)))]) (Ω' := []) rfl ⟨rfl, rfl, rfl, trivial⟩ ?_
    refine Tr.seq ?_
    refine Tr.seq ?_
    refine Tr.region ?_
    refine RegL.pure (p := (pEq (.int .i64 v2))) rfl rfl rfl (J_move rfl (Opd.tmp rfl)) ?_
    refine RegL.pure (p := (pSl 1 (cSl 1 (cK .i64)) a_0)) rfl rfl rfl (J_move rfl (Opd.tmp rfl)) ?_
    refine RegL.pure (p := (pEq (.int .i64 (a_0.length : Int)))) rfl rfl rfl (J_len rfl Try.underlying27 (Opd.tmp rfl) rfl) ?_
    refine RegL.pure (p := (pEq (.bool (decide (v2 < (a_0.length : Int)))))) rfl rfl rfl (J_bin rfl (Opd.tmp rfl) (Opd.tmp rfl) B_lss) ?_
    refine RegL.nil ?_
    refine Ct.then_tr ?_
    refine Tr.weak (Γ' := [(0, (pSl 1 (cSl 1 (cK .i64)) a_0)), (1, (pSl 1 (cSl 1 (cK .i64)) b_1)), (5, (pEq (.int .i64 v2))), (14, (pEq (.bool (decide (v2 < (a_0.length : Int))))))]) ⟨rfl, rfl, rfl, rfl, trivial⟩ ?_
    refine Tr.cond (Opd.tmp rfl) (fun hc => ?_) (fun hc => ?_)
    · replace h := bif_t hc h
      refine Tr.skip ?_
      refine Ct.then_tr ?_
      refine Tr.weak (Γ' := [(0, (pSl 1 (cSl 1 (cK .i64)) a_0)), (1, (pSl 1 (cSl 1 (cK .i64)) b_1)), (5, (pEq (.int .i64 v2)))]) ⟨rfl, rfl, rfl, trivial⟩ ?_
      refine Tr.seq ?_
      refine Tr.block ?_
      refine Tr.seq ?_
      replace h := bind_some h; obtain ⟨x4, hx4, h⟩ := h
      replace h := bind_some h; obtain ⟨x5, hx5, h⟩ := h
      replace h := bind_some h; obtain ⟨x6, hx6, h⟩ := h
      refine Tr.drawD (n := 27) (m := 10) (es := [some (Ent.mk [(0, (pSl 1 (cSl 1 (cK .i64)) a_0))] (pSl 1 (cSl 1 (cK .i64)) a_0) true), some (Ent.mk [(5, (pEq (.int .i64 v2)))] (pEq (.int .i64 v2)) true), some (Ent.mk [(17, (pSl 1 (cSl 1 (cK .i64)) a_0)), (18, (pEq (.int .i64 v2)))] (pPtr ((cSl 1 (cK .i64)) x4)) true), some (Ent.mk [(19, (pPtr ((cSl 1 (cK .i64)) x4)))] (pSl 1 (cK .i64) x4) true), some (Ent.mk [(1, (pSl 1 (cSl 1 (cK .i64)) b_1))] (pSl 1 (cSl 1 (cK .i64)) b_1) true), some (Ent.mk [(5, (pEq (.int .i64 v2)))] (pEq (.int .i64 v2)) true), some (Ent.mk [(21, (pSl 1 (cSl 1 (cK .i64)) b_1)), (22, (pEq (.int .i64 v2)))] (pPtr ((cSl 1 (cK .i64)) x5)) true), some (Ent.mk [(23, (pPtr ((cSl 1 (cK .i64)) x5)))] (pSl 1 (cK .i64) x5) true), some (Ent.mk [(20, (pSl 1 (cK .i64) x4)), (24, (pSl 1 (cK .i64) x5))] (pEq (.bool x6)) true), some (Ent.mk [(25, (pEq (.bool x6)))] (pEq (.bool (!x6))) true)]) (rd := [[0], [5], [17, 18], [19], [1], [5], [21, 22], [23], [20, 24], [25]]) rfl hmix (by kernel_rfl) fun hD => ?_
      refine RD.fin (es := [Ent.mk [(0, (pSl 1 (cSl 1 (cK .i64)) a_0))] (pSl 1 (cSl 1 (cK .i64)) a_0) true, Ent.mk [(5, (pEq (.int .i64 v2)))] (pEq (.int .i64 v2)) true, Ent.mk [(17, (pSl 1 (cSl 1 (cK .i64)) a_0)), (18, (pEq (.int .i64 v2)))] (pPtr ((cSl 1 (cK .i64)) x4)) true, Ent.mk [(19, (pPtr ((cSl 1 (cK .i64)) x4)))] (pSl 1 (cK .i64) x4) true, Ent.mk [(1, (pSl 1 (cSl 1 (cK .i64)) b_1))] (pSl 1 (cSl 1 (cK .i64)) b_1) true, Ent.mk [(5, (pEq (.int .i64 v2)))] (pEq (.int .i64 v2)) true, Ent.mk [(21, (pSl 1 (cSl 1 (cK .i64)) b_1)), (22, (pEq (.int .i64 v2)))] (pPtr ((cSl 1 (cK .i64)) x5)) true, Ent.mk [(23, (pPtr ((cSl 1 (cK .i64)) x5)))] (pSl 1 (cK .i64) x5) true, Ent.mk [(20, (pSl 1 (cK .i64) x4)), (24, (pSl 1 (cK .i64) x5))] (pEq (.bool x6)) true, Ent.mk [(25, (pEq (.bool x6)))] (pEq (.bool (!x6))) true]) (done := []) hD ⟨.inr ⟨(OpJ.w (J_move rfl (Opd.tmp rfl))), ⟨rfl, trivial⟩, rfl, rfl⟩, ⟨.inr ⟨(OpJ.w (J_move rfl (Opd.tmp rfl))), ⟨rfl, trivial⟩, rfl, rfl⟩, ⟨.inr ⟨(OpJ.w (J_idx rfl Try.underlying27 sz22 (Opd.tmp rfl) (Opd.tmp rfl) hx4)), ⟨rfl, rfl, trivial⟩, rfl, rfl⟩, ⟨.inr ⟨(OpJ.w (J_load rfl Try.isAgg22 (Opd.tmp rfl))), ⟨rfl, trivial⟩, rfl, rfl⟩, ⟨.inr ⟨(OpJ.w (J_move rfl (Opd.tmp rfl))), ⟨rfl, trivial⟩, rfl, rfl⟩, ⟨.inr ⟨(OpJ.w (J_move rfl (Opd.tmp rfl))), ⟨rfl, trivial⟩, rfl, rfl⟩, ⟨.inr ⟨(OpJ.w (J_idx rfl Try.underlying27 sz22 (Opd.tmp rfl) (Opd.tmp rfl) hx5)), ⟨rfl, rfl, trivial⟩, rfl, rfl⟩, ⟨.inr ⟨(OpJ.w (J_load rfl Try.isAgg22 (Opd.tmp rfl))), ⟨rfl, trivial⟩, rfl, rfl⟩, ⟨.inr ⟨(OpJ.w (J_call rfl Try.call18 (c_laws_eqInt64S hx6) (Opds.cons (Opd.tmp rfl) (Opds.cons (Opd.tmp rfl) Opds.nil)))), ⟨rfl, rfl, trivial⟩, rfl, rfl⟩, ⟨.inr ⟨(OpJ.w (J_not rfl (Opd.tmp rfl))), ⟨rfl, trivial⟩, rfl, rfl⟩, trivial⟩⟩⟩⟩⟩⟩⟩⟩⟩⟩ ?_
      refine RegL.nil ?_
      refine Ct.then_tr ?_
      refine Tr.weak (Γ' := [(0, (pSl 1 (cSl 1 (cK .i64)) a_0)), (1, (pSl 1 (cSl 1 (cK .i64)) b_1)), (5, (pEq (.int .i64 v2))), (26, (pEq (.bool (!x6))))]) ⟨rfl, rfl, rfl, rfl, trivial⟩ ?_
      refine Tr.cond (Opd.tmp rfl) (fun hc => ?_) (fun hc => ?_)
      · replace h := bif_t hc h
        refine Tr.seq ?_
        refine Tr.region ?_
        refine RegL.pure (p := (pEq (.bool false))) rfl rfl rfl (J_assign rfl Opd.con) ?_
        refine RegL.nil ?_
        refine Ct.then_tr ?_
        refine Tr.weak (Γ' := [(4, (pEq (.bool false)))]) ⟨rfl, trivial⟩ ?_
        refine Tr.ret ?_
        refine Ct.blk_ret ?_
        refine Ct.then_ret ?_
        replace h := map_some h; obtain ⟨r1, h, rfl⟩ := h
        refine Ct.out_ret fun e => ?_
        subst e
        refine Ct.blk_ret ?_
        refine Ct.then_ret ?_
        replace h := Option.some.inj h; subst h
        exact Ct.retH1 (Ωx := []) () rfl (RvOk.tmp rfl) rfl
      · replace h := bif_f hc h
        refine Tr.skip ?_
        refine Ct.blk_normal ?_
        refine Ct.then_tr ?_
        refine Tr.weak (Γ' := [(0, (pSl 1 (cSl 1 (cK .i64)) a_0)), (1, (pSl 1 (cSl 1 (cK .i64)) b_1)), (5, (pEq (.int .i64 v2)))]) ⟨rfl, rfl, rfl, trivial⟩ ?_
        refine Tr.region ?_
        refine RegL.pure (p := (pEq (.int .i64 v2))) rfl rfl rfl (J_move rfl (Opd.tmp rfl)) ?_
        refine RegL.pure (p := (pEq (.int .i64 (w64 (v2 + (1 : Int)))))) rfl rfl rfl (J_bin rfl (Opd.tmp rfl) Opd.con B_add) ?_
        refine RegL.pure (p := (pEq (.int .i64 (w64 (v2 + (1 : Int)))))) rfl rfl rfl (J_assign rfl (Opd.tmp rfl)) ?_
        refine RegL.nil ?_
        replace h := Option.some.inj h; subst h
        exact Ct.again () rfl ⟨rfl, rfl, rfl, trivial⟩
    · replace h := bif_f hc h
      refine Tr.exit ?_
      refine Ct.then_exit ?_
      replace h := map_some h; obtain ⟨r1, h, rfl⟩ := h
      refine Ct.out_exit fun e => ?_
      subst e
      refine Ct.blk_exit ?_
      refine Ct.then_tr ?_
      refine Tr.weak (Γ' := []) trivial ?_
      refine Tr.seq ?_
      refine Tr.region ?_
      refine RegL.pure (p := (pEq (.bool true))) rfl rfl rfl (J_assign rfl Opd.con) ?_
      refine RegL.nil ?_
      refine Ct.then_tr ?_
      refine Tr.weak (Γ' := [(4, (pEq (.bool true)))]) ⟨rfl, trivial⟩ ?_
      refine Tr.ret ?_
      replace h := Option.some.inj h; subst h
      exact Ct.retH1 (Ωx := []) () rfl (RvOk.tmp rfl) rfl

theorem c_laws_eqProblem {a_0 : GProblem} {b_1 : GProblem} {r : Bool} (h : m_laws_eqProblem a_0 b_1 = some r) : CallJ Try.prog 23 [(pAgg (cGProblem a_0)), (pAgg (cGProblem b_1))] (pEq (.bool r)) := by
  unfold m_laws_eqProblem at h
  refine CallJ.enterH Try.func23 rfl Try.ntmps23 rfl fun W I0 H => ?_
  refine Tr.weak (Γ' := [(0, (pAgg (cGProblem a_0))), (1, (pAgg (cGProblem b_1)))]) ⟨rfl, rfl, trivial⟩ ?_
  refine Tr.seq ?_
  refine Tr.region ?_
  refine RegL.pure (p := (pPtr (cGProblem a_0))) rfl rfl rfl (J_boxA rfl (Opd.tmp rfl)) ?_
  refine RegL.pure (p := (pPtr (cGProblem b_1))) rfl rfl rfl (J_boxA rfl (Opd.tmp rfl)) ?_
  refine RegL.pure (p := (pEq (.bool false))) rfl rfl rfl (J_assign rfl Opd.con) ?_
  refine RegL.nil ?_
  refine Ct.then_tr ?_
  refine Tr.weak (Γ' := [(2, (pPtr (cGProblem a_0))), (3, (pPtr (cGProblem b_1)))]) ⟨rfl, rfl, trivial⟩ ?_
  refine Tr.seq ?_
  refine Tr.seq ?_
  refine Tr.region ?_
  refine RegL.pure (p := (pPtr ((cSl 1 (cSl 1 (cK .i64))) a_0.Domains))) rfl rfl rfl (J_fieldAddr rfl Try.underlying32 rfl sz27 (by decide) (Opd.tmp rfl) rfl) ?_
  refine RegL.pure (p := (pSl 1 (cSl 1 (cK .i64)) a_0.Domains)) rfl rfl rfl (J_load rfl Try.isAgg27 (Opd.tmp rfl)) ?_
  refine RegL.pure (p := (pPtr ((cSl 1 (cSl 1 (cK .i64))) b_1.Domains))) rfl rfl rfl (J_fieldAddr rfl Try.underlying32 rfl sz27 (by decide) (Opd.tmp rfl) rfl) ?_
  refine RegL.pure (p := (pSl 1 (cSl 1 (cK .i64)) b_1.Domains)) rfl rfl rfl (J_load rfl Try.isAgg27 (Opd.tmp rfl)) ?_
  replace h := bind_some h; obtain ⟨x1, hx1, h⟩ := h
  refine RegL.pure (p := (pEq (.bool x1))) rfl rfl rfl (J_call rfl Try.call32 (c_laws_eqInt64SS hx1) (Opds.cons (Opd.tmp rfl) (Opds.cons (Opd.tmp rfl) Opds.nil))) ?_
  refine RegL.pure (p := (pEq (.bool (!x1)))) rfl rfl rfl (J_not rfl (Opd.tmp rfl)) ?_
  refine RegL.nil ?_
  refine Ct.then_tr ?_
  refine Tr.weak (Γ' := [(2, (pPtr (cGProblem a_0))), (3, (pPtr (cGProblem b_1))), (10, (pEq (.bool (!x1))))]) ⟨rfl, rfl, rfl, trivial⟩ ?_
  refine Tr.cond (Opd.tmp rfl) (fun hc => ?_) (fun hc => ?_)
  · replace h := bif_t hc h
    refine Tr.seq ?_
    refine Tr.region ?_
    refine RegL.pure (p := (pEq (.bool false))) rfl rfl rfl (J_assign rfl Opd.con) ?_
    refine RegL.nil ?_
    refine Ct.then_tr ?_
    refine Tr.weak (Γ' := [(4, (pEq (.bool false)))]) ⟨rfl, trivial⟩ ?_
    refine Tr.ret ?_
    refine Ct.then_ret ?_
    replace h := Option.some.inj h; subst h
    exact Ct.retH1 (Ωx := []) () rfl (RvOk.tmp rfl) rfl
  · replace h := bif_f hc h
    refine Tr.skip ?_
    refine Ct.then_tr ?_
    refine Tr.weak (Γ' := [(2, (pPtr (cGProblem a_0))), (3, (pPtr (cGProblem b_1)))]) ⟨rfl, rfl, trivial⟩ ?_
    refine Tr.seq ?_
    refine Tr.seq ?_
    refine Tr.region ?_
    refine RegL.pure (p := (pPtr ((cSl 1 (cSl 1 (cK .i64))) a_0.Apart))) rfl rfl rfl (J_fieldAddr rfl Try.underlying32 rfl sz27 (by decide) (Opd.tmp rfl) rfl) ?_
    refine RegL.pure (p := (pSl 1 (cSl 1 (cK .i64)) a_0.Apart)) rfl rfl rfl (J_load rfl Try.isAgg27 (Opd.tmp rfl)) ?_
    refine RegL.pure (p := (pPtr ((cSl 1 (cSl 1 (cK .i64))) b_1.Apart))) rfl rfl rfl (J_fieldAddr rfl Try.underlying32 rfl sz27 (by decide) (Opd.tmp rfl) rfl) ?_
    refine RegL.pure (p := (pSl 1 (cSl 1 (cK .i64)) b_1.Apart)) rfl rfl rfl (J_load rfl Try.isAgg27 (Opd.tmp rfl)) ?_
    replace h := bind_some h; obtain ⟨x2, hx2, h⟩ := h
    refine RegL.pure (p := (pEq (.bool x2))) rfl rfl rfl (J_call rfl Try.call32 (c_laws_eqInt64SS hx2) (Opds.cons (Opd.tmp rfl) (Opds.cons (Opd.tmp rfl) Opds.nil))) ?_
    refine RegL.pure (p := (pEq (.bool (!x2)))) rfl rfl rfl (J_not rfl (Opd.tmp rfl)) ?_
    refine RegL.nil ?_
    refine Ct.then_tr ?_
    refine Tr.weak (Γ' := [(16, (pEq (.bool (!x2))))]) ⟨rfl, trivial⟩ ?_
    refine Tr.cond (Opd.tmp rfl) (fun hc => ?_) (fun hc => ?_)
    · replace h := bif_t hc h
      refine Tr.seq ?_
      refine Tr.region ?_
      refine RegL.pure (p := (pEq (.bool false))) rfl rfl rfl (J_assign rfl Opd.con) ?_
      refine RegL.nil ?_
      refine Ct.then_tr ?_
      refine Tr.weak (Γ' := [(4, (pEq (.bool false)))]) ⟨rfl, trivial⟩ ?_
      refine Tr.ret ?_
      refine Ct.then_ret ?_
      replace h := Option.some.inj h; subst h
      exact Ct.retH1 (Ωx := []) () rfl (RvOk.tmp rfl) rfl
    · replace h := bif_f hc h
      refine Tr.skip ?_
      refine Ct.then_tr ?_
      refine Tr.weak (Γ' := []) trivial ?_
      refine Tr.seq ?_
      refine Tr.region ?_
      refine RegL.pure (p := (pEq (.bool true))) rfl rfl rfl (J_assign rfl Opd.con) ?_
      refine RegL.nil ?_
      refine Ct.then_tr ?_
      refine Tr.weak (Γ' := [(4, (pEq (.bool true)))]) ⟨rfl, trivial⟩ ?_
      refine Tr.ret ?_
      replace h := Option.some.inj h; subst h
      exact Ct.retH1 (Ωx := []) () rfl (RvOk.tmp rfl) rfl

theorem o_laws_markInt64S {a_0 : (List Int)} {k_1 : Int} {ho0 : Option Addr} {hn0 hc0 : Nat} {r : (Int × (List Int))} (h : m_laws_markInt64S a_0 k_1 = some r) : CallH Try.prog 38 [(pEq (.slice ho0 hn0 hc0)), (pEq (.int .i64 k_1))] [oSl 2 1 (cK .i64) ho0 hn0 hc0 a_0] (fun g : Unit => (pEq (.int .i64 r.1))) (fun g : Unit => [oSl 2 1 (cK .i64) ho0 hn0 hc0 r.2]) := by
  unfold m_laws_markInt64S at h
  refine CallH.enter Try.func38 rfl Try.ntmps38 rfl fun W I0 H => ?_
  refine Tr.weak (Γ' := [(0, (pEq (.slice ho0 hn0 hc0))), (1, (pEq (.int .i64 k_1)))]) ⟨rfl, rfl, trivial⟩ ?_
  refine Tr.seq ?_
  refine Tr.region ?_
  refine RegL.pure (p := (pEq (.int .i64 (0 : Int)))) rfl rfl rfl (J_assign rfl Opd.con) ?_
  refine RegL.nil ?_
  refine Ct.then_tr ?_
  refine Tr.weak (Γ' := [(0, (pEq (.slice ho0 hn0 hc0))), (1, (pEq (.int .i64 k_1)))]) ⟨rfl, rfl, trivial⟩ ?_
  refine Tr.seq ?_
  refine Tr.seq ?_
  refine Tr.region ?_
  refine RegL.pure (p := (pEq (.int .i64 (0 : Int)))) rfl rfl rfl (J_assign rfl Opd.con) ?_
  refine RegL.nil ?_
  refine Ct.then_tr ?_
  refine Tr.weak (Γ' := [(0, (pEq (.slice ho0 hn0 hc0))), (1, (pEq (.int .i64 k_1))), (5, (pEq (.int .i64 (0 : Int))))]) ⟨rfl, rfl, rfl, trivial⟩ ?_
  replace h := bind_some h; obtain ⟨x2, hx2, h⟩ := h
  refine Tr.cut (γ := Unit) (Γm := fun g => [(1, (pEq (.int .i64 x2.1)))]) (Ωm := fun g => [oSl 2 1 (cK .i64) ho0 hn0 hc0 x2.2]) ?_ (fun g10 => ?_)
  · clear h
    have h := hx2
    clear hx2
    refine Tr.block ?_
    refine Tr.weak (Γ' := [(0, (pEq (.slice ho0 hn0 hc0))), (1, (pEq (.int .i64 k_1))), (5, (pEq (.int .i64 (0 : Int))))]) ⟨rfl, rfl, rfl, trivial⟩ ?_
    refine Tr.loop (γ := Unit) (σ := (Int × Int × (List Int))) (Γσ := fun s g => [(0, (pEq (.slice ho0 hn0 hc0))), (1, (pEq (.int .i64 s.1))), (5, (pEq (.int .i64 s.2.1)))]) (Ωσ := fun s g => [oSl 2 1 (cK .i64) ho0 hn0 hc0 s.2.2]) (g := ()) h ?_
    clear h
    rintro ⟨v4, v5, v6⟩ g7 t h
    replace h : m_laws_markInt64S_B3  v4 v5 v6 = some t := h
    unfold m_laws_markInt64S_B3 at h
    refine Tr.weakO (Γ' := [(0, (pEq (.slice ho0 hn0 hc0))), (1, (pEq (.int .i64 v4))), (5, (pEq (.int .i64 v5)))]) (Ω' := [oSl 2 1 (cK .i64) ho0 hn0 hc0 v6]) rfl ⟨rfl, rfl, rfl, trivial⟩ ?_
    refine Tr.seq ?_
    refine Tr.seq ?_
    refine Tr.region ?_
    refine RegL.pure (p := (pEq (.int .i64 v5))) rfl rfl rfl (J_move rfl (Opd.tmp rfl)) ?_
    refine RegL.pure (p := (pEq (.slice ho0 hn0 hc0))) rfl rfl rfl (J_move rfl (Opd.tmp rfl)) ?_
    refine RegL.pureW (p := (pEq (.int .i64 (v6.length : Int)))) rfl rfl rfl (W_rowLen (j := 0) rfl Try.underlying22 (Opd.tmp rfl) rfl) ?_
    refine RegL.pure (p := (pEq (.bool (decide (v5 < (v6.length : Int)))))) rfl rfl rfl (J_bin rfl (Opd.tmp rfl) (Opd.tmp rfl) B_lss) ?_
    refine RegL.nil ?_
    refine Ct.then_tr ?_
    refine Tr.weak (Γ' := [(0, (pEq (.slice ho0 hn0 hc0))), (1, (pEq (.int .i64 v4))), (5, (pEq (.int .i64 v5))), (9, (pEq (.bool (decide (v5 < (v6.length : Int))))))]) ⟨rfl, rfl, rfl, rfl, trivial⟩ ?_
    refine Tr.cond (Opd.tmp rfl) (fun hc => ?_) (fun hc => ?_)
    · replace h := bif_t hc h
      refine Tr.skip ?_
      refine Ct.then_tr ?_
      refine Tr.weak (Γ' := [(0, (pEq (.slice ho0 hn0 hc0))), (1, (pEq (.int .i64 v4))), (5, (pEq (.int .i64 v5)))]) ⟨rfl, rfl, rfl, trivial⟩ ?_
      refine Tr.seq ?_
      refine Tr.block ?_
      refine Tr.seq ?_
      refine Tr.region ?_
      refine RegL.pure (p := (pEq (.slice ho0 hn0 hc0))) rfl rfl rfl (J_move rfl (Opd.tmp rfl)) ?_
      refine RegL.pure (p := (pEq (.int .i64 v5))) rfl rfl rfl (J_move rfl (Opd.tmp rfl)) ?_
      refine RegL.pure (p := (pEq (.int .i64 v4))) rfl rfl rfl (J_move rfl (Opd.tmp rfl)) ?_
      replace h := bind_some h; obtain ⟨u8, hu8, h⟩ := h
      refine RegL.pureW (p := (pEq (.pointer (some ⟨blk ho0, (v5).toNat * 1, none⟩)))) rfl rfl rfl (W_rowIdx (j := 0) rfl Try.underlying22 sz2 (Opd.tmp rfl) (Opd.tmp rfl) rfl (inB_some hu8)) ?_
      refine RegL.stepN (γ := Unit) (p := fun _ => pAny) (Ω' := fun _ => [oSl 2 1 (cK .i64) ho0 hn0 hc0 (v6.set (v5).toNat v4)]) rfl rfl (M_rowStore rfl sz2 (fun _ => rfl) (Opd.tmp rfl) (Opd.tmp rfl) rfl OneC.int (setL_of (inB_some hu8))) fun g9 => ?_
      refine RegL.nil ?_
      refine Ct.then_tr ?_
      refine Tr.weak (Γ' := [(0, (pEq (.slice ho0 hn0 hc0))), (1, (pEq (.int .i64 v4))), (5, (pEq (.int .i64 v5)))]) ⟨rfl, rfl, rfl, trivial⟩ ?_
      refine Tr.region ?_
      refine RegL.pure (p := (pEq (.int .i64 v4))) rfl rfl rfl (J_move rfl (Opd.tmp rfl)) ?_
      refine RegL.pure (p := (pEq (.int .i64 (w64 (v4 + (1 : Int)))))) rfl rfl rfl (J_bin rfl (Opd.tmp rfl) Opd.con B_add) ?_
      refine RegL.pure (p := (pEq (.int .i64 (w64 (v4 + (1 : Int)))))) rfl rfl rfl (J_assign rfl (Opd.tmp rfl)) ?_
      refine RegL.nil ?_
      refine Ct.blk_normal ?_
      refine Ct.then_tr ?_
      refine Tr.weak (Γ' := [(0, (pEq (.slice ho0 hn0 hc0))), (1, (pEq (.int .i64 (w64 (v4 + (1 : Int)))))), (5, (pEq (.int .i64 v5)))]) ⟨rfl, rfl, rfl, trivial⟩ ?_
      refine Tr.region ?_
      refine RegL.pure (p := (pEq (.int .i64 v5))) rfl rfl rfl (J_move rfl (Opd.tmp rfl)) ?_
      refine RegL.pure (p := (pEq (.int .i64 (w64 (v5 + (1 : Int)))))) rfl rfl rfl (J_bin rfl (Opd.tmp rfl) Opd.con B_add) ?_
      refine RegL.pure (p := (pEq (.int .i64 (w64 (v5 + (1 : Int)))))) rfl rfl rfl (J_assign rfl (Opd.tmp rfl)) ?_
      refine RegL.nil ?_
      replace h := Option.some.inj h; subst h
      exact Ct.again () rfl ⟨rfl, rfl, rfl, trivial⟩
    · replace h := bif_f hc h
      refine Tr.exit ?_
      refine Ct.then_exit ?_
      replace h := map_some h; obtain ⟨r1, h, rfl⟩ := h
      refine Ct.out_exit fun e => ?_
      subst e
      refine Ct.blk_exit ?_
      replace h := Option.some.inj h; subst h
      exact Ct.mid () rfl ⟨rfl, trivial⟩
  · clear hx2
    refine Ct.then_tr ?_
    refine Tr.weak (Γ' := [(1, (pEq (.int .i64 x2.1)))]) ⟨rfl, trivial⟩ ?_
    refine Tr.seq ?_
    refine Tr.region ?_
    refine RegL.pure (p := (pEq (.int .i64 x2.1))) rfl rfl rfl (J_move rfl (Opd.tmp rfl)) ?_
    refine RegL.pure (p := (pEq (.int .i64 x2.1))) rfl rfl rfl (J_assign rfl (Opd.tmp rfl)) ?_
    refine RegL.nil ?_
    refine Ct.then_tr ?_
    refine Tr.weak (Γ' := [(4, (pEq (.int .i64 x2.1)))]) ⟨rfl, trivial⟩ ?_
    refine Tr.ret ?_
    replace h := Option.some.inj h; subst h
    exact Ct.retH1 (Ωx := []) () rfl (RvOk.tmp rfl) rfl

theorem o_laws_markInt64SS {a_0 : (List (List Int))} {k_1 : Int} {ho0 : Option Addr} {hn0 hc0 : Nat} {hh0 : List G3} {r : (Int × (List (List Int)))} (h : m_laws_markInt64SS a_0 k_1 = some r) : CallH Try.prog 33 [(pEq (.slice ho0 hn0 hc0)), (pEq (.int .i64 k_1))] [oSS 22 2 1 (cK .i64) ho0 hn0 hc0 hh0 a_0] (fun g : Unit => (pEq (.int .i64 r.1))) (fun g : Unit => [oSS 22 2 1 (cK .i64) ho0 hn0 hc0 hh0 r.2]) := by
  unfold m_laws_markInt64SS at h
  refine CallH.enter Try.func33 rfl Try.ntmps33 rfl fun W I0 H => ?_
  refine Tr.weak (Γ' := [(0, (pEq (.slice ho0 hn0 hc0))), (1, (pEq (.int .i64 k_1)))]) ⟨rfl, rfl, trivial⟩ ?_
  refine Tr.seq ?_
  refine Tr.region ?_
  refine RegL.pure (p := (pEq (.int .i64 (0 : Int)))) rfl rfl rfl (J_assign rfl Opd.con) ?_
  refine RegL.nil ?_
  refine Ct.then_tr ?_
  refine Tr.weak (Γ' := [(0, (pEq (.slice ho0 hn0 hc0))), (1, (pEq (.int .i64 k_1)))]) ⟨rfl, rfl, trivial⟩ ?_
  refine Tr.seq ?_
  refine Tr.seq ?_
  refine Tr.region ?_
  refine RegL.pure (p := (pEq (.int .i64 (0 : Int)))) rfl rfl rfl (J_assign rfl Opd.con) ?_
  refine RegL.nil ?_
  refine Ct.then_tr ?_
  refine Tr.weak (Γ' := [(0, (pEq (.slice ho0 hn0 hc0))), (1, (pEq (.int .i64 k_1))), (5, (pEq (.int .i64 (0 : Int))))]) ⟨rfl, rfl, rfl, trivial⟩ ?_
  replace h := bind_some h; obtain ⟨x2, hx2, h⟩ := h
  refine Tr.cut (γ := Unit) (Γm := fun g => [(1, (pEq (.int .i64 x2.1)))]) (Ωm := fun g => [oSS 22 2 1 (cK .i64) ho0 hn0 hc0 hh0 x2.2]) ?_ (fun g12 => ?_)
  · clear h
    have h := hx2
    clear hx2
    refine Tr.block ?_
    refine Tr.weak (Γ' := [(0, (pEq (.slice ho0 hn0 hc0))), (1, (pEq (.int .i64 k_1))), (5, (pEq (.int .i64 (0 : Int))))]) ⟨rfl, rfl, rfl, trivial⟩ ?_
    refine Tr.loop (γ := Unit) (σ := (Int × Int × (List (List Int)))) (Γσ := fun s g => [(0, (pEq (.slice ho0 hn0 hc0))), (1, (pEq (.int .i64 s.1))), (5, (pEq (.int .i64 s.2.1)))]) (Ωσ := fun s g => [oSS 22 2 1 (cK .i64) ho0 hn0 hc0 hh0 s.2.2]) (g := ()) h ?_
    clear h
    rintro ⟨v4, v5, v6⟩ g7 t h
    replace h : m_laws_markInt64SS_B3  v4 v5 v6 = some t := h
    unfold m_laws_markInt64SS_B3 at h
    refine Tr.weakO (Γ' := [(0, (pEq (.slice ho0 hn0 hc0))), (1, (pEq (.int .i64 v4))), (5, (pEq (.int .i64 v5)))]) (Ω' := [oSS 22 2 1 (cK .i64) ho0 hn0 hc0 hh0 v6]) rfl ⟨rfl, rfl, rfl, trivial⟩ ?_
    refine Tr.seq ?_
    refine Tr.seq ?_
    refine Tr.region ?_
    refine RegL.pure (p := (pEq (.int .i64 v5))) rfl rfl rfl (J_move rfl (Opd.tmp rfl)) ?_
    refine RegL.pure (p := (pEq (.slice ho0 hn0 hc0))) rfl rfl rfl (J_move rfl (Opd.tmp rfl)) ?_
    refine RegL.pureW (p := (pEq (.int .i64 (v6.length : Int)))) rfl rfl rfl (W_nestLen (j := 0) rfl Try.underlying27 (Opd.tmp rfl) rfl) ?_
    refine RegL.pure (p := (pEq (.bool (decide (v5 < (v6.length : Int)))))) rfl rfl rfl (J_bin rfl (Opd.tmp rfl) (Opd.tmp rfl) B_lss) ?_
    refine RegL.nil ?_
    refine Ct.then_tr ?_
    refine Tr.weak (Γ' := [(0, (pEq (.slice ho0 hn0 hc0))), (1, (pEq (.int .i64 v4))), (5, (pEq (.int .i64 v5))), (9, (pEq (.bool (decide (v5 < (v6.length : Int))))))]) ⟨rfl, rfl, rfl, rfl, trivial⟩ ?_
    refine Tr.cond (Opd.tmp rfl) (fun hc => ?_) (fun hc => ?_)
    · replace h := bif_t hc h
      refine Tr.skip ?_
      refine Ct.then_tr ?_
      refine Tr.weak (Γ' := [(0, (pEq (.slice ho0 hn0 hc0))), (1, (pEq (.int .i64 v4))), (5, (pEq (.int .i64 v5)))]) ⟨rfl, rfl, rfl, trivial⟩ ?_
      refine Tr.seq ?_
      refine Tr.block ?_
      refine Tr.region ?_
      refine RegL.pure (p := (pEq (.slice ho0 hn0 hc0))) rfl rfl rfl (J_move rfl (Opd.tmp rfl)) ?_
      refine RegL.pure (p := (pEq (.int .i64 v5))) rfl rfl rfl (J_move rfl (Opd.tmp rfl)) ?_
      replace h := bind_some h; obtain ⟨x8, hx8, h⟩ := h
      refine RegL.pureW (p := (pEq (.pointer (some ⟨blk ho0, (v5).toNat * 1, none⟩)))) rfl rfl rfl (W_nestIdx (j := 0) rfl Try.underlying27 sz22 (Opd.tmp rfl) (Opd.tmp rfl) rfl (idx_lt hx8)) ?_
      refine RegL.pureW (p := (pEq (hdrV (gd hh0 v5)))) rfl rfl rfl (W_nestLoad (j := 0) rfl Try.isAgg22 (Opd.tmp rfl) rfl hx8) ?_
      refine RegL.pure (p := (pEq (.int .i64 v4))) rfl rfl rfl (J_move rfl (Opd.tmp rfl)) ?_
      replace h := bind_some h; obtain ⟨x10, hx10, h⟩ := h
      refine RegL.re (Ω2 := [oSl 2 1 (cK .i64) (gd hh0 v5).1 (gd hh0 v5).2.1 (gd hh0 v5).2.2 x8, oHole 22 2 1 (cK .i64) ho0 hn0 hc0 hh0 v6 v5]) (fun h => nest_focus hx8 h) ?_
      refine RegL.step (γ := Unit) (p := fun g => (pEq (.int .i64 x10.1))) (Ω' := fun g => [oSl 2 1 (cK .i64) (gd hh0 v5).1 (gd hh0 v5).2.1 (gd hh0 v5).2.2 x10.2, oHole 22 2 1 (cK .i64) ho0 hn0 hc0 hh0 v6 v5]) rfl rfl rfl (M_callH (Ωi := [oSl 2 1 (cK .i64) (gd hh0 v5).1 (gd hh0 v5).2.1 (gd hh0 v5).2.2 x8]) rfl Try.call38 (o_laws_markInt64S hx10) (Opds.cons (Opd.tmp rfl) (Opds.cons (Opd.tmp rfl) Opds.nil))) fun g11 => ?_
      refine RegL.re (Ω2 := [oSS 22 2 1 (cK .i64) ho0 hn0 hc0 hh0 (v6.set (v5).toNat x10.2)]) (fun h => nest_unfocus hx8 h) ?_
      refine RegL.pure (p := (pEq (.int .i64 x10.1))) rfl rfl rfl (J_assign rfl (Opd.tmp rfl)) ?_
      refine RegL.nil ?_
      refine Ct.blk_normal ?_
      refine Ct.then_tr ?_
      refine Tr.weak (Γ' := [(0, (pEq (.slice ho0 hn0 hc0))), (1, (pEq (.int .i64 x10.1))), (5, (pEq (.int .i64 v5)))]) ⟨rfl, rfl, rfl, trivial⟩ ?_
      refine Tr.region ?_
      refine RegL.pure (p := (pEq (.int .i64 v5))) rfl rfl rfl (J_move rfl (Opd.tmp rfl)) ?_
      refine RegL.pure (p := (pEq (.int .i64 (w64 (v5 + (1 : Int)))))) rfl rfl rfl (J_bin rfl (Opd.tmp rfl) Opd.con B_add) ?_
      refine RegL.pure (p := (pEq (.int .i64 (w64 (v5 + (1 : Int)))))) rfl rfl rfl (J_assign rfl (Opd.tmp rfl)) ?_
      refine RegL.nil ?_
      replace h := Option.some.inj h; subst h
      exact Ct.again () rfl ⟨rfl, rfl, rfl, trivial⟩
    · replace h := bif_f hc h
      refine Tr.exit ?_
      refine Ct.then_exit ?_
      replace h := map_some h; obtain ⟨r1, h, rfl⟩ := h
      refine Ct.out_exit fun e => ?_
      subst e
      refine Ct.blk_exit ?_
      replace h := Option.some.inj h; subst h
      exact Ct.mid () rfl ⟨rfl, trivial⟩
  · clear hx2
    refine Ct.then_tr ?_
    refine Tr.weak (Γ' := [(1, (pEq (.int .i64 x2.1)))]) ⟨rfl, trivial⟩ ?_
    refine Tr.seq ?_
    refine Tr.region ?_
    refine RegL.pure (p := (pEq (.int .i64 x2.1))) rfl rfl rfl (J_move rfl (Opd.tmp rfl)) ?_
    refine RegL.pure (p := (pEq (.int .i64 x2.1))) rfl rfl rfl (J_assign rfl (Opd.tmp rfl)) ?_
    refine RegL.nil ?_
    refine Ct.then_tr ?_
    refine Tr.weak (Γ' := [(4, (pEq (.int .i64 x2.1)))]) ⟨rfl, trivial⟩ ?_
    refine Tr.ret ?_
    replace h := Option.some.inj h; subst h
    exact Ct.retH1 (Ωx := []) () rfl (RvOk.tmp rfl) rfl

theorem o_laws_markProblem {a_0 : GProblem} {k_1 : Int} {ho0_0 : Option Addr} {hn0_0 hc0_0 : Nat} {hh0_0 : List G3} {ho0_1 : Option Addr} {hn0_1 hc0_1 : Nat} {hh0_1 : List G3} {r : (Int × (List (List Int)) × (List (List Int)))} (h : m_laws_markProblem a_0 k_1 = some r) : CallH Try.prog 34 [(pAgg [(pEq (.slice ho0_0 hn0_0 hc0_0)), (pEq (.slice ho0_1 hn0_1 hc0_1))]), (pEq (.int .i64 k_1))] [oSS 22 2 1 (cK .i64) ho0_0 hn0_0 hc0_0 hh0_0 a_0.Domains, oSS 22 2 1 (cK .i64) ho0_1 hn0_1 hc0_1 hh0_1 a_0.Apart] (fun g : Unit => (pEq (.int .i64 r.1))) (fun g : Unit => [oSS 22 2 1 (cK .i64) ho0_0 hn0_0 hc0_0 hh0_0 r.2.1, oSS 22 2 1 (cK .i64) ho0_1 hn0_1 hc0_1 hh0_1 r.2.2]) := by
  unfold m_laws_markProblem at h
  refine CallH.enter Try.func34 rfl Try.ntmps34 rfl fun W I0 H => ?_
  refine Tr.weak (Γ' := [(0, (pAgg [(pEq (.slice ho0_0 hn0_0 hc0_0)), (pEq (.slice ho0_1 hn0_1 hc0_1))])), (1, (pEq (.int .i64 k_1)))]) ⟨rfl, rfl, trivial⟩ ?_
  refine Tr.seq ?_
  refine Tr.region ?_
  refine RegL.step (γ := Nat) (p := fun b => pEq (.pointer (some ⟨b, 0, none⟩))) (Ω' := fun b => [oBlk b [(pEq (.slice ho0_0 hn0_0 hc0_0)), (pEq (.slice ho0_1 hn0_1 hc0_1))], oSS 22 2 1 (cK .i64) ho0_0 hn0_0 hc0_0 hh0_0 a_0.Domains, oSS 22 2 1 (cK .i64) ho0_1 hn0_1 hc0_1 hh0_1 a_0.Apart]) rfl rfl rfl (M_boxA rfl (Opd.tmp rfl)) fun b3 => ?_
  refine RegL.pure (p := (pEq (.int .i64 (0 : Int)))) rfl rfl rfl (J_assign rfl Opd.con) ?_
  refine RegL.nil ?_
  refine Ct.then_tr ?_
  refine Tr.weak (Γ' := [(1, (pEq (.int .i64 k_1))), (2, (pEq (.pointer (some ⟨b3, 0, none⟩))))]) ⟨rfl, rfl, trivial⟩ ?_
  refine Tr.seq ?_
  refine Tr.region ?_
  refine RegL.pure (p := (pEq (.pointer (some ⟨b3, 0, none⟩)))) rfl rfl rfl (J_fieldAddrE rfl Try.underlying32 rfl sz27 (by decide) (Opd.tmp rfl) rfl) ?_
  refine RegL.pureW (p := (pEq (.slice ho0_0 hn0_0 hc0_0))) rfl rfl rfl (W_load (i := 0) rfl Try.isAgg27 (Opd.tmp rfl) rfl rfl) ?_
  refine RegL.pure (p := (pEq (.int .i64 k_1))) rfl rfl rfl (J_move rfl (Opd.tmp rfl)) ?_
  replace h := bind_some h; obtain ⟨x4, hx4, h⟩ := h
  refine RegL.re (Ω2 := [oSS 22 2 1 (cK .i64) ho0_0 hn0_0 hc0_0 hh0_0 a_0.Domains, oBlk b3 [(pEq (.slice ho0_0 hn0_0 hc0_0)), (pEq (.slice ho0_1 hn0_1 hc0_1))], oSS 22 2 1 (cK .i64) ho0_1 hn0_1 hc0_1 hh0_1 a_0.Apart]) (fun h => SatO.pick 1 h) ?_
  refine RegL.step (γ := Unit) (p := fun g => (pEq (.int .i64 x4.1))) (Ω' := fun g => [oSS 22 2 1 (cK .i64) ho0_0 hn0_0 hc0_0 hh0_0 x4.2, oBlk b3 [(pEq (.slice ho0_0 hn0_0 hc0_0)), (pEq (.slice ho0_1 hn0_1 hc0_1))], oSS 22 2 1 (cK .i64) ho0_1 hn0_1 hc0_1 hh0_1 a_0.Apart]) rfl rfl rfl (M_callH (Ωi := [oSS 22 2 1 (cK .i64) ho0_0 hn0_0 hc0_0 hh0_0 a_0.Domains]) rfl Try.call33 (o_laws_markInt64SS hx4) (Opds.cons (Opd.tmp rfl) (Opds.cons (Opd.tmp rfl) Opds.nil))) fun g5 => ?_
  refine RegL.pure (p := (pEq (.int .i64 x4.1))) rfl rfl rfl (J_assign rfl (Opd.tmp rfl)) ?_
  refine RegL.nil ?_
  refine Ct.then_tr ?_
  refine Tr.weak (Γ' := [(1, (pEq (.int .i64 x4.1))), (2, (pEq (.pointer (some ⟨b3, 0, none⟩))))]) ⟨rfl, rfl, trivial⟩ ?_
  refine Tr.seq ?_
  refine Tr.region ?_
  refine RegL.pure (p := (pEq (.pointer (some ⟨b3, 1, none⟩)))) rfl rfl rfl (J_fieldAddrE rfl Try.underlying32 rfl sz27 (by decide) (Opd.tmp rfl) rfl) ?_
  refine RegL.pureW (p := (pEq (.slice ho0_1 hn0_1 hc0_1))) rfl rfl rfl (W_load (i := 1) rfl Try.isAgg27 (Opd.tmp rfl) rfl rfl) ?_
  refine RegL.pure (p := (pEq (.int .i64 x4.1))) rfl rfl rfl (J_move rfl (Opd.tmp rfl)) ?_
  replace h := bind_some h; obtain ⟨x6, hx6, h⟩ := h
  refine RegL.re (Ω2 := [oSS 22 2 1 (cK .i64) ho0_1 hn0_1 hc0_1 hh0_1 a_0.Apart, oSS 22 2 1 (cK .i64) ho0_0 hn0_0 hc0_0 hh0_0 x4.2, oBlk b3 [(pEq (.slice ho0_0 hn0_0 hc0_0)), (pEq (.slice ho0_1 hn0_1 hc0_1))]]) (fun h => SatO.pick 2 h) ?_
  refine RegL.step (γ := Unit) (p := fun g => (pEq (.int .i64 x6.1))) (Ω' := fun g => [oSS 22 2 1 (cK .i64) ho0_1 hn0_1 hc0_1 hh0_1 x6.2, oSS 22 2 1 (cK .i64) ho0_0 hn0_0 hc0_0 hh0_0 x4.2, oBlk b3 [(pEq (.slice ho0_0 hn0_0 hc0_0)), (pEq (.slice ho0_1 hn0_1 hc0_1))]]) rfl rfl rfl (M_callH (Ωi := [oSS 22 2 1 (cK .i64) ho0_1 hn0_1 hc0_1 hh0_1 a_0.Apart]) rfl Try.call33 (o_laws_markInt64SS hx6) (Opds.cons (Opd.tmp rfl) (Opds.cons (Opd.tmp rfl) Opds.nil))) fun g7 => ?_
  refine RegL.pure (p := (pEq (.int .i64 x6.1))) rfl rfl rfl (J_assign rfl (Opd.tmp rfl)) ?_
  refine RegL.nil ?_
  refine Ct.then_tr ?_
  refine Tr.weak (Γ' := [(1, (pEq (.int .i64 x6.1)))]) ⟨rfl, trivial⟩ ?_
  refine Tr.seq ?_
  refine Tr.region ?_
  refine RegL.pure (p := (pEq (.int .i64 x6.1))) rfl rfl rfl (J_move rfl (Opd.tmp rfl)) ?_
  refine RegL.pure (p := (pEq (.int .i64 x6.1))) rfl rfl rfl (J_assign rfl (Opd.tmp rfl)) ?_
  refine RegL.nil ?_
  refine Ct.then_tr ?_
  refine Tr.weak (Γ' := [(4, (pEq (.int .i64 x6.1)))]) ⟨rfl, trivial⟩ ?_
  refine Tr.ret ?_
  refine Ct.re (Ω2 := [oSS 22 2 1 (cK .i64) ho0_0 hn0_0 hc0_0 hh0_0 x4.2, oSS 22 2 1 (cK .i64) ho0_1 hn0_1 hc0_1 hh0_1 x6.2, oBlk b3 [(pEq (.slice ho0_0 hn0_0 hc0_0)), (pEq (.slice ho0_1 hn0_1 hc0_1))]]) (fun h => SatO.pick 1 h) ?_
  refine Ct.re (Ω2 := [oBlk b3 [(pEq (.slice ho0_0 hn0_0 hc0_0)), (pEq (.slice ho0_1 hn0_1 hc0_1))], oSS 22 2 1 (cK .i64) ho0_0 hn0_0 hc0_0 hh0_0 x4.2, oSS 22 2 1 (cK .i64) ho0_1 hn0_1 hc0_1 hh0_1 x6.2]) (fun h => SatO.pick 2 h) ?_
  replace h := Option.some.inj h; subst h
  exact Ct.retH1 (Ωx := [oBlk b3 [(pEq (.slice ho0_0 hn0_0 hc0_0)), (pEq (.slice ho0_1 hn0_1 hc0_1))]]) () rfl (RvOk.tmp rfl) rfl

theorem c_laws_heldInt64S {a_0 : (List Int)} {k_1 : Int} {r : Int} (h : m_laws_heldInt64S a_0 k_1 = some r) : CallJ Try.prog 48 [(pSl 1 (cK .i64) a_0), (pEq (.int .i64 k_1))] (pEq (.int .i64 r)) := by
  unfold m_laws_heldInt64S at h
  refine CallJ.enterH Try.func48 rfl Try.ntmps48 rfl fun W I0 H => ?_
  refine Tr.weak (Γ' := [(0, (pSl 1 (cK .i64) a_0)), (1, (pEq (.int .i64 k_1)))]) ⟨rfl, rfl, trivial⟩ ?_
  refine Tr.seq ?_
  refine Tr.region ?_
  refine RegL.pure (p := (pEq (.int .i64 (0 : Int)))) rfl rfl rfl (J_assign rfl Opd.con) ?_
  refine RegL.nil ?_
  refine Ct.then_tr ?_
  refine Tr.weak (Γ' := [(0, (pSl 1 (cK .i64) a_0)), (1, (pEq (.int .i64 k_1)))]) ⟨rfl, rfl, trivial⟩ ?_
  refine Tr.seq ?_
  refine Tr.seq ?_
  refine Tr.region ?_
  refine RegL.pure (p := (pEq (.int .i64 (0 : Int)))) rfl rfl rfl (J_assign rfl Opd.con) ?_
  refine RegL.nil ?_
  refine Ct.then_tr ?_
  refine Tr.weak (Γ' := [(0, (pSl 1 (cK .i64) a_0)), (1, (pEq (.int .i64 k_1))), (5, (pEq (.int .i64 (0 : Int))))]) ⟨rfl, rfl, rfl, trivial⟩ ?_
  refine Tr.block ?_
  refine Tr.weak (Γ' := [(0, (pSl 1 (cK .i64) a_0)), (1, (pEq (.int .i64 k_1))), (5, (pEq (.int .i64 (0 : Int))))]) ⟨rfl, rfl, rfl, trivial⟩ ?_
  refine Tr.loop (γ := Unit) (σ := (Int × Int)) (Γσ := fun s g => [(0, (pSl 1 (cK .i64) a_0)), (1, (pEq (.int .i64 s.1))), (5, (pEq (.int .i64 s.2)))]) (Ωσ := fun s g => []) (g := ()) h ?_
  clear h
  rintro ⟨v2, v3⟩ g4 t h
  replace h : m_laws_heldInt64S_B1 a_0 v2 v3 = some t := h
  unfold m_laws_heldInt64S_B1 at h
  refine Tr.weakO (Γ' := [(0, (pSl 1 (cK .i64) a_0)), (1, (pEq (.int .i64 v2))), (5, (pEq (.int .i64 v3)))]) (Ω' := []) rfl ⟨rfl, rfl, rfl, trivial⟩ ?_
  refine Tr.seq ?_
  refine Tr.seq ?_
  refine Tr.region ?_
  refine RegL.pure (p := (pEq (.int .i64 v3))) rfl rfl rfl (J_move rfl (Opd.tmp rfl)) ?_
  refine RegL.pure (p := (pSl 1 (cK .i64) a_0)) rfl rfl rfl (J_move rfl (Opd.tmp rfl)) ?_
  refine RegL.pure (p := (pEq (.int .i64 (a_0.length : Int)))) rfl rfl rfl (J_len rfl Try.underlying22 (Opd.tmp rfl) rfl) ?_
  refine RegL.pure (p := (pEq (.bool (decide (v3 < (a_0.length : Int)))))) rfl rfl rfl (J_bin rfl (Opd.tmp rfl) (Opd.tmp rfl) B_lss) ?_
  refine RegL.nil ?_
  refine Ct.then_tr ?_
  refine Tr.weak (Γ' := [(0, (pSl 1 (cK .i64) a_0)), (1, (pEq (.int .i64 v2))), (5, (pEq (.int .i64 v3))), (9, (pEq (.bool (decide (v3 < (a_0.length : Int))))))]) ⟨rfl, rfl, rfl, rfl, trivial⟩ ?_
  refine Tr.cond (Opd.tmp rfl) (fun hc => ?_) (fun hc => ?_)
  · replace h := bif_t hc h
    refine Tr.skip ?_
    refine Ct.then_tr ?_
    refine Tr.weak (Γ' := [(0, (pSl 1 (cK .i64) a_0)), (1, (pEq (.int .i64 v2))), (5, (pEq (.int .i64 v3)))]) ⟨rfl, rfl, rfl, trivial⟩ ?_
    refine Tr.seq ?_
    refine Tr.block ?_
    refine Tr.seq ?_
    refine Tr.seq ?_
    refine Tr.region ?_
    refine RegL.pure (p := (pSl 1 (cK .i64) a_0)) rfl rfl rfl (J_move rfl (Opd.tmp rfl)) ?_
    refine RegL.pure (p := (pEq (.int .i64 v3))) rfl rfl rfl (J_move rfl (Opd.tmp rfl)) ?_
    replace h := bind_some h; obtain ⟨x5, hx5, h⟩ := h
    refine RegL.pure (p := (pPtr ((cK .i64) x5))) rfl rfl rfl (J_idx rfl Try.underlying22 sz2 (Opd.tmp rfl) (Opd.tmp rfl) hx5) ?_
    refine RegL.pure (p := (pEq (.int .i64 x5))) rfl rfl rfl (J_load rfl Try.isAgg2 (Opd.tmp rfl)) ?_
    refine RegL.pure (p := (pEq (.int .i64 v2))) rfl rfl rfl (J_move rfl (Opd.tmp rfl)) ?_
    refine RegL.pure (p := (pEq (.bool (x5 != v2)))) rfl rfl rfl (J_bin rfl (Opd.tmp rfl) (Opd.tmp rfl) B_neq) ?_
    refine RegL.nil ?_
    refine Ct.then_tr ?_
    refine Tr.weak (Γ' := [(0, (pSl 1 (cK .i64) a_0)), (1, (pEq (.int .i64 v2))), (5, (pEq (.int .i64 v3))), (17, (pEq (.bool (x5 != v2))))]) ⟨rfl, rfl, rfl, rfl, trivial⟩ ?_
    refine Tr.cond (Opd.tmp rfl) (fun hc => ?_) (fun hc => ?_)
    · replace h := bif_t hc h
      refine Tr.seq ?_
      refine Tr.region ?_
      refine RegL.pure (p := (pEq (.int .i64 (-1 : Int)))) rfl rfl rfl (J_assign rfl Opd.con) ?_
      refine RegL.nil ?_
      refine Ct.then_tr ?_
      refine Tr.weak (Γ' := [(4, (pEq (.int .i64 (-1 : Int))))]) ⟨rfl, trivial⟩ ?_
      refine Tr.ret ?_
      refine Ct.then_ret ?_
      refine Ct.blk_ret ?_
      refine Ct.then_ret ?_
      replace h := map_some h; obtain ⟨r1, h, rfl⟩ := h
      refine Ct.out_ret fun e => ?_
      subst e
      refine Ct.blk_ret ?_
      refine Ct.then_ret ?_
      replace h := Option.some.inj h; subst h
      exact Ct.retH1 (Ωx := []) () rfl (RvOk.tmp rfl) rfl
    · replace h := bif_f hc h
      refine Tr.skip ?_
      refine Ct.then_tr ?_
      refine Tr.weak (Γ' := [(0, (pSl 1 (cK .i64) a_0)), (1, (pEq (.int .i64 v2))), (5, (pEq (.int .i64 v3)))]) ⟨rfl, rfl, rfl, trivial⟩ ?_
      refine Tr.region ?_
      refine RegL.pure (p := (pEq (.int .i64 v2))) rfl rfl rfl (J_move rfl (Opd.tmp rfl)) ?_
      refine RegL.pure (p := (pEq (.int .i64 (w64 (v2 + (1 : Int)))))) rfl rfl rfl (J_bin rfl (Opd.tmp rfl) Opd.con B_add) ?_
      refine RegL.pure (p := (pEq (.int .i64 (w64 (v2 + (1 : Int)))))) rfl rfl rfl (J_assign rfl (Opd.tmp rfl)) ?_
      refine RegL.nil ?_
      refine Ct.blk_normal ?_
      refine Ct.then_tr ?_
      refine Tr.weak (Γ' := [(0, (pSl 1 (cK .i64) a_0)), (1, (pEq (.int .i64 (w64 (v2 + (1 : Int)))))), (5, (pEq (.int .i64 v3)))]) ⟨rfl, rfl, rfl, trivial⟩ ?_
      refine Tr.region ?_
      refine RegL.pure (p := (pEq (.int .i64 v3))) rfl rfl rfl (J_move rfl (Opd.tmp rfl)) ?_
      refine RegL.pure (p := (pEq (.int .i64 (w64 (v3 + (1 : Int)))))) rfl rfl rfl (J_bin rfl (Opd.tmp rfl) Opd.con B_add) ?_
      refine RegL.pure (p := (pEq (.int .i64 (w64 (v3 + (1 : Int)))))) rfl rfl rfl (J_assign rfl (Opd.tmp rfl)) ?_
      refine RegL.nil ?_
      replace h := Option.some.inj h; subst h
      exact Ct.again () rfl ⟨rfl, rfl, rfl, trivial⟩
  · replace h := bif_f hc h
    refine Tr.exit ?_
    refine Ct.then_exit ?_
    replace h := map_some h; obtain ⟨r1, h, rfl⟩ := h
    refine Ct.out_exit fun e => ?_
    subst e
    refine Ct.blk_exit ?_
    refine Ct.then_tr ?_
    refine Tr.weak (Γ' := [(1, (pEq (.int .i64 v2)))]) ⟨rfl, trivial⟩ ?_
    refine Tr.seq ?_
    refine Tr.region ?_
    refine RegL.pure (p := (pEq (.int .i64 v2))) rfl rfl rfl (J_move rfl (Opd.tmp rfl)) ?_
    refine RegL.pure (p := (pEq (.int .i64 v2))) rfl rfl rfl (J_assign rfl (Opd.tmp rfl)) ?_
    refine RegL.nil ?_
    refine Ct.then_tr ?_
    refine Tr.weak (Γ' := [(4, (pEq (.int .i64 v2)))]) ⟨rfl, trivial⟩ ?_
    refine Tr.ret ?_
    replace h := Option.some.inj h; subst h
    exact Ct.retH1 (Ωx := []) () rfl (RvOk.tmp rfl) rfl

theorem c_laws_heldInt64SS {a_0 : (List (List Int))} {k_1 : Int} {r : Int} (h : m_laws_heldInt64SS a_0 k_1 = some r) : CallJ Try.prog 43 [(pSl 1 (cSl 1 (cK .i64)) a_0), (pEq (.int .i64 k_1))] (pEq (.int .i64 r)) := by
  unfold m_laws_heldInt64SS at h
  refine CallJ.enterH Try.func43 rfl Try.ntmps43 rfl fun W I0 H => ?_
  refine Tr.weak (Γ' := [(0, (pSl 1 (cSl 1 (cK .i64)) a_0)), (1, (pEq (.int .i64 k_1)))]) ⟨rfl, rfl, trivial⟩ ?_
  refine Tr.seq ?_
  refine Tr.region ?_
  refine RegL.pure (p := (pEq (.int .i64 (0 : Int)))) rfl rfl rfl (J_assign rfl Opd.con) ?_
  refine RegL.nil ?_
  refine Ct.then_tr ?_
  refine Tr.weak (Γ' := [(0, (pSl 1 (cSl 1 (cK .i64)) a_0)), (1, (pEq (.int .i64 k_1)))]) ⟨rfl, rfl, trivial⟩ ?_
  refine Tr.seq ?_
  refine Tr.seq ?_
  refine Tr.region ?_
  refine RegL.pure (p := (pEq (.int .i64 (0 : Int)))) rfl rfl rfl (J_assign rfl Opd.con) ?_
  refine RegL.nil ?_
  refine Ct.then_tr ?_
  refine Tr.weak (Γ' := [(0, (pSl 1 (cSl 1 (cK .i64)) a_0)), (1, (pEq (.int .i64 k_1))), (5, (pEq (.int .i64 (0 : Int))))]) ⟨rfl, rfl, rfl, trivial⟩ ?_
  refine Tr.block ?_
  refine Tr.weak (Γ' := [(0, (pSl 1 (cSl 1 (cK .i64)) a_0)), (1, (pEq (.int .i64 k_1))), (5, (pEq (.int .i64 (0 : Int))))]) ⟨rfl, rfl, rfl, trivial⟩ ?_
  refine Tr.loop (γ := Unit) (σ := (Int × Int)) (Γσ := fun s g => [(0, (pSl 1 (cSl 1 (cK .i64)) a_0)), (1, (pEq (.int .i64 s.1))), (5, (pEq (.int .i64 s.2)))]) (Ωσ := fun s g => []) (g := ()) h ?_
  clear h
  rintro ⟨v2, v3⟩ g4 t h
  replace h : m_laws_heldInt64SS_B1 a_0 v2 v3 = some t := h
  unfold m_laws_heldInt64SS_B1 at h
  refine Tr.weakO (Γ' := [(0, (pSl 1 (cSl 1 (cK .i64)) a_0)), (1, (pEq (.int .i64 v2))), (5, (pEq (.int .i64 v3)))]) (Ω' := []) rfl ⟨rfl, rfl, rfl, trivial⟩ ?_
  refine Tr.seq ?_
  refine Tr.seq ?_
  refine Tr.region ?_
  refine RegL.pure (p := (pEq (.int .i64 v3))) rfl rfl rfl (J_move rfl (Opd.tmp rfl)) ?_
  refine RegL.pure (p := (pSl 1 (cSl 1 (cK .i64)) a_0)) rfl rfl rfl (J_move rfl (Opd.tmp rfl)) ?_
  refine RegL.pure (p := (pEq (.int .i64 (a_0.length : Int)))) rfl rfl rfl (J_len rfl Try.underlying27 (Opd.tmp rfl) rfl) ?_
  refine RegL.pure (p := (pEq (.bool (decide (v3 < (a_0.length : Int)))))) rfl rfl rfl (J_bin rfl (Opd.tmp rfl) (Opd.tmp rfl) B_lss) ?_
  refine RegL.nil ?_
  refine Ct.then_tr ?_
  refine Tr.weak (Γ' := [(0, (pSl 1 (cSl 1 (cK .i64)) a_0)), (1, (pEq (.int .i64 v2))), (5, (pEq (.int .i64 v3))), (9, (pEq (.bool (decide (v3 < (a_0.length : Int))))))]) ⟨rfl, rfl, rfl, rfl, trivial⟩ ?_
  refine Tr.cond (Opd.tmp rfl) (fun hc => ?_) (fun hc => ?_)
  · replace h := bif_t hc h
    refine Tr.skip ?_
    refine Ct.then_tr ?_
    refine Tr.weak (Γ' := [(0, (pSl 1 (cSl 1 (cK .i64)) a_0)), (1, (pEq (.int .i64 v2))), (5, (pEq (.int .i64 v3)))]) ⟨rfl, rfl, rfl, trivial⟩ ?_
    refine Tr.seq ?_
    refine Tr.block ?_
    refine Tr.seq ?_
    refine Tr.region ?_
    refine RegL.pure (p := (pSl 1 (cSl 1 (cK .i64)) a_0)) rfl rfl rfl (J_move rfl (Opd.tmp rfl)) ?_
    refine RegL.pure (p := (pEq (.int .i64 v3))) rfl rfl rfl (J_move rfl (Opd.tmp rfl)) ?_
    replace h := bind_some h; obtain ⟨x5, hx5, h⟩ := h
    refine RegL.pure (p := (pPtr ((cSl 1 (cK .i64)) x5))) rfl rfl rfl (J_idx rfl Try.underlying27 sz22 (Opd.tmp rfl) (Opd.tmp rfl) hx5) ?_
    refine RegL.pure (p := (pSl 1 (cK .i64) x5)) rfl rfl rfl (J_load rfl Try.isAgg22 (Opd.tmp rfl)) ?_
    refine RegL.pure (p := (pEq (.int .i64 v2))) rfl rfl rfl (J_move rfl (Opd.tmp rfl)) ?_
    replace h := bind_some h; obtain ⟨x6, hx6, h⟩ := h
    refine RegL.pure (p := (pEq (.int .i64 x6))) rfl rfl rfl (J_call rfl Try.call48 (c_laws_heldInt64S hx6) (Opds.cons (Opd.tmp rfl) (Opds.cons (Opd.tmp rfl) Opds.nil))) ?_
    refine RegL.pure (p := (pEq (.int .i64 x6))) rfl rfl rfl (J_assign rfl (Opd.tmp rfl)) ?_
    refine RegL.nil ?_
    refine Ct.then_tr ?_
    refine Tr.weak (Γ' := [(0, (pSl 1 (cSl 1 (cK .i64)) a_0)), (1, (pEq (.int .i64 x6))), (5, (pEq (.int .i64 v3)))]) ⟨rfl, rfl, rfl, trivial⟩ ?_
    refine Tr.seq ?_
    refine Tr.region ?_
    refine RegL.pure (p := (pEq (.int .i64 x6))) rfl rfl rfl (J_move rfl (Opd.tmp rfl)) ?_
    refine RegL.pure (p := (pEq (.bool (decide (x6 < (0 : Int)))))) rfl rfl rfl (J_bin rfl (Opd.tmp rfl) Opd.con B_lss) ?_
    refine RegL.nil ?_
    refine Ct.then_tr ?_
    refine Tr.weak (Γ' := [(0, (pSl 1 (cSl 1 (cK .i64)) a_0)), (1, (pEq (.int .i64 x6))), (5, (pEq (.int .i64 v3))), (19, (pEq (.bool (decide (x6 < (0 : Int))))))]) ⟨rfl, rfl, rfl, rfl, trivial⟩ ?_
    refine Tr.cond (Opd.tmp rfl) (fun hc => ?_) (fun hc => ?_)
    · replace h := bif_t hc h
      refine Tr.seq ?_
      refine Tr.region ?_
      refine RegL.pure (p := (pEq (.int .i64 (-1 : Int)))) rfl rfl rfl (J_assign rfl Opd.con) ?_
      refine RegL.nil ?_
      refine Ct.then_tr ?_
      refine Tr.weak (Γ' := [(4, (pEq (.int .i64 (-1 : Int))))]) ⟨rfl, trivial⟩ ?_
      refine Tr.ret ?_
      refine Ct.blk_ret ?_
      refine Ct.then_ret ?_
      replace h := map_some h; obtain ⟨r1, h, rfl⟩ := h
      refine Ct.out_ret fun e => ?_
      subst e
      refine Ct.blk_ret ?_
      refine Ct.then_ret ?_
      replace h := Option.some.inj h; subst h
      exact Ct.retH1 (Ωx := []) () rfl (RvOk.tmp rfl) rfl
    · replace h := bif_f hc h
      refine Tr.skip ?_
      refine Ct.blk_normal ?_
      refine Ct.then_tr ?_
      refine Tr.weak (Γ' := [(0, (pSl 1 (cSl 1 (cK .i64)) a_0)), (1, (pEq (.int .i64 x6))), (5, (pEq (.int .i64 v3)))]) ⟨rfl, rfl, rfl, trivial⟩ ?_
      refine Tr.region ?_
      refine RegL.pure (p := (pEq (.int .i64 v3))) rfl rfl rfl (J_move rfl (Opd.tmp rfl)) ?_
      refine RegL.pure (p := (pEq (.int .i64 (w64 (v3 + (1 : Int)))))) rfl rfl rfl (J_bin rfl (Opd.tmp rfl) Opd.con B_add) ?_
      refine RegL.pure (p := (pEq (.int .i64 (w64 (v3 + (1 : Int)))))) rfl rfl rfl (J_assign rfl (Opd.tmp rfl)) ?_
      refine RegL.nil ?_
      replace h := Option.some.inj h; subst h
      exact Ct.again () rfl ⟨rfl, rfl, rfl, trivial⟩
  · replace h := bif_f hc h
    refine Tr.exit ?_
    refine Ct.then_exit ?_
    replace h := map_some h; obtain ⟨r1, h, rfl⟩ := h
    refine Ct.out_exit fun e => ?_
    subst e
    refine Ct.blk_exit ?_
    refine Ct.then_tr ?_
    refine Tr.weak (Γ' := [(1, (pEq (.int .i64 v2)))]) ⟨rfl, trivial⟩ ?_
    refine Tr.seq ?_
    refine Tr.region ?_
    refine RegL.pure (p := (pEq (.int .i64 v2))) rfl rfl rfl (J_move rfl (Opd.tmp rfl)) ?_
    refine RegL.pure (p := (pEq (.int .i64 v2))) rfl rfl rfl (J_assign rfl (Opd.tmp rfl)) ?_
    refine RegL.nil ?_
    refine Ct.then_tr ?_
    refine Tr.weak (Γ' := [(4, (pEq (.int .i64 v2)))]) ⟨rfl, trivial⟩ ?_
    refine Tr.ret ?_
    replace h := Option.some.inj h; subst h
    exact Ct.retH1 (Ωx := []) () rfl (RvOk.tmp rfl) rfl

theorem c_laws_heldProblem {a_0 : GProblem} {k_1 : Int} {r : Int} (h : m_laws_heldProblem a_0 k_1 = some r) : CallJ Try.prog 35 [(pAgg (cGProblem a_0)), (pEq (.int .i64 k_1))] (pEq (.int .i64 r)) := by
  unfold m_laws_heldProblem at h
  refine CallJ.enterH Try.func35 rfl Try.ntmps35 rfl fun W I0 H => ?_
  refine Tr.weak (Γ' := [(0, (pAgg (cGProblem a_0))), (1, (pEq (.int .i64 k_1)))]) ⟨rfl, rfl, trivial⟩ ?_
  refine Tr.seq ?_
  refine Tr.region ?_
  refine RegL.pure (p := (pPtr (cGProblem a_0))) rfl rfl rfl (J_boxA rfl (Opd.tmp rfl)) ?_
  refine RegL.pure (p := (pEq (.int .i64 (0 : Int)))) rfl rfl rfl (J_assign rfl Opd.con) ?_
  refine RegL.nil ?_
  refine Ct.then_tr ?_
  refine Tr.weak (Γ' := [(1, (pEq (.int .i64 k_1))), (2, (pPtr (cGProblem a_0)))]) ⟨rfl, rfl, trivial⟩ ?_
  refine Tr.seq ?_
  refine Tr.region ?_
  refine RegL.pure (p := (pPtr ((cSl 1 (cSl 1 (cK .i64))) a_0.Domains))) rfl rfl rfl (J_fieldAddr rfl Try.underlying32 rfl sz27 (by decide) (Opd.tmp rfl) rfl) ?_
  refine RegL.pure (p := (pSl 1 (cSl 1 (cK .i64)) a_0.Domains)) rfl rfl rfl (J_load rfl Try.isAgg27 (Opd.tmp rfl)) ?_
  refine RegL.pure (p := (pEq (.int .i64 k_1))) rfl rfl rfl (J_move rfl (Opd.tmp rfl)) ?_
  replace h := bind_some h; obtain ⟨x1, hx1, h⟩ := h
  refine RegL.pure (p := (pEq (.int .i64 x1))) rfl rfl rfl (J_call rfl Try.call43 (c_laws_heldInt64SS hx1) (Opds.cons (Opd.tmp rfl) (Opds.cons (Opd.tmp rfl) Opds.nil))) ?_
  refine RegL.pure (p := (pEq (.int .i64 x1))) rfl rfl rfl (J_assign rfl (Opd.tmp rfl)) ?_
  refine RegL.nil ?_
  refine Ct.then_tr ?_
  refine Tr.weak (Γ' := [(1, (pEq (.int .i64 x1))), (2, (pPtr (cGProblem a_0)))]) ⟨rfl, rfl, trivial⟩ ?_
  refine Tr.seq ?_
  refine Tr.seq ?_
  refine Tr.region ?_
  refine RegL.pure (p := (pEq (.int .i64 x1))) rfl rfl rfl (J_move rfl (Opd.tmp rfl)) ?_
  refine RegL.pure (p := (pEq (.bool (decide (x1 < (0 : Int)))))) rfl rfl rfl (J_bin rfl (Opd.tmp rfl) Opd.con B_lss) ?_
  refine RegL.nil ?_
  refine Ct.then_tr ?_
  refine Tr.weak (Γ' := [(1, (pEq (.int .i64 x1))), (2, (pPtr (cGProblem a_0))), (10, (pEq (.bool (decide (x1 < (0 : Int))))))]) ⟨rfl, rfl, rfl, trivial⟩ ?_
  refine Tr.cond (Opd.tmp rfl) (fun hc => ?_) (fun hc => ?_)
  · replace h := bif_t hc h
    refine Tr.seq ?_
    refine Tr.region ?_
    refine RegL.pure (p := (pEq (.int .i64 (-1 : Int)))) rfl rfl rfl (J_assign rfl Opd.con) ?_
    refine RegL.nil ?_
    refine Ct.then_tr ?_
    refine Tr.weak (Γ' := [(4, (pEq (.int .i64 (-1 : Int))))]) ⟨rfl, trivial⟩ ?_
    refine Tr.ret ?_
    refine Ct.then_ret ?_
    replace h := Option.some.inj h; subst h
    exact Ct.retH1 (Ωx := []) () rfl (RvOk.tmp rfl) rfl
  · replace h := bif_f hc h
    refine Tr.skip ?_
    refine Ct.then_tr ?_
    refine Tr.weak (Γ' := [(1, (pEq (.int .i64 x1))), (2, (pPtr (cGProblem a_0)))]) ⟨rfl, rfl, trivial⟩ ?_
    refine Tr.seq ?_
    refine Tr.region ?_
    refine RegL.pure (p := (pPtr ((cSl 1 (cSl 1 (cK .i64))) a_0.Apart))) rfl rfl rfl (J_fieldAddr rfl Try.underlying32 rfl sz27 (by decide) (Opd.tmp rfl) rfl) ?_
    refine RegL.pure (p := (pSl 1 (cSl 1 (cK .i64)) a_0.Apart)) rfl rfl rfl (J_load rfl Try.isAgg27 (Opd.tmp rfl)) ?_
    refine RegL.pure (p := (pEq (.int .i64 x1))) rfl rfl rfl (J_move rfl (Opd.tmp rfl)) ?_
    replace h := bind_some h; obtain ⟨x2, hx2, h⟩ := h
    refine RegL.pure (p := (pEq (.int .i64 x2))) rfl rfl rfl (J_call rfl Try.call43 (c_laws_heldInt64SS hx2) (Opds.cons (Opd.tmp rfl) (Opds.cons (Opd.tmp rfl) Opds.nil))) ?_
    refine RegL.pure (p := (pEq (.int .i64 x2))) rfl rfl rfl (J_assign rfl (Opd.tmp rfl)) ?_
    refine RegL.nil ?_
    refine Ct.then_tr ?_
    refine Tr.weak (Γ' := [(1, (pEq (.int .i64 x2)))]) ⟨rfl, trivial⟩ ?_
    refine Tr.seq ?_
    refine Tr.seq ?_
    refine Tr.region ?_
    refine RegL.pure (p := (pEq (.int .i64 x2))) rfl rfl rfl (J_move rfl (Opd.tmp rfl)) ?_
    refine RegL.pure (p := (pEq (.bool (decide (x2 < (0 : Int)))))) rfl rfl rfl (J_bin rfl (Opd.tmp rfl) Opd.con B_lss) ?_
    refine RegL.nil ?_
    refine Ct.then_tr ?_
    refine Tr.weak (Γ' := [(1, (pEq (.int .i64 x2))), (16, (pEq (.bool (decide (x2 < (0 : Int))))))]) ⟨rfl, rfl, trivial⟩ ?_
    refine Tr.cond (Opd.tmp rfl) (fun hc => ?_) (fun hc => ?_)
    · replace h := bif_t hc h
      refine Tr.seq ?_
      refine Tr.region ?_
      refine RegL.pure (p := (pEq (.int .i64 (-1 : Int)))) rfl rfl rfl (J_assign rfl Opd.con) ?_
      refine RegL.nil ?_
      refine Ct.then_tr ?_
      refine Tr.weak (Γ' := [(4, (pEq (.int .i64 (-1 : Int))))]) ⟨rfl, trivial⟩ ?_
      refine Tr.ret ?_
      refine Ct.then_ret ?_
      replace h := Option.some.inj h; subst h
      exact Ct.retH1 (Ωx := []) () rfl (RvOk.tmp rfl) rfl
    · replace h := bif_f hc h
      refine Tr.skip ?_
      refine Ct.then_tr ?_
      refine Tr.weak (Γ' := [(1, (pEq (.int .i64 x2)))]) ⟨rfl, trivial⟩ ?_
      refine Tr.seq ?_
      refine Tr.region ?_
      refine RegL.pure (p := (pEq (.int .i64 x2))) rfl rfl rfl (J_move rfl (Opd.tmp rfl)) ?_
      refine RegL.pure (p := (pEq (.int .i64 x2))) rfl rfl rfl (J_assign rfl (Opd.tmp rfl)) ?_
      refine RegL.nil ?_
      refine Ct.then_tr ?_
      refine Tr.weak (Γ' := [(4, (pEq (.int .i64 x2)))]) ⟨rfl, trivial⟩ ?_
      refine Tr.ret ?_
      replace h := Option.some.inj h; subst h
      exact Ct.retH1 (Ωx := []) () rfl (RvOk.tmp rfl) rfl

theorem c_laws_FnExactPartProblem {a_0 : GProblem} {a_1 : (List Int)} {r : Bool} (h : m_laws_FnExactPartProblem a_0 a_1 = some r) : CallJ Try.prog 8 [(pAgg (cGProblem a_0)), (pSl 1 (cK .i64) a_1)] (pEq (.bool r)) := by
  unfold m_laws_FnExactPartProblem at h
  refine CallJ.enterH Try.func8 rfl Try.ntmps8 rfl fun W I0 H => ?_
  refine Tr.weak (Γ' := [(0, (pAgg (cGProblem a_0))), (1, (pSl 1 (cK .i64) a_1))]) ⟨rfl, rfl, trivial⟩ ?_
  refine Tr.seq ?_
  refine Tr.region ?_
  refine RegL.pure (p := (pPtr (cGProblem a_0))) rfl rfl rfl (J_boxA rfl (Opd.tmp rfl)) ?_
  refine RegL.pure (p := (pEq (.bool false))) rfl rfl rfl (J_assign rfl Opd.con) ?_
  refine RegL.nil ?_
  refine Ct.then_tr ?_
  refine Tr.weak (Γ' := [(1, (pSl 1 (cK .i64) a_1)), (2, (pPtr (cGProblem a_0)))]) ⟨rfl, rfl, trivial⟩ ?_
  refine Tr.seq ?_
  refine Tr.seq ?_
  refine Tr.region ?_
  refine RegL.pure (p := (pSl 1 (cK .i64) a_1)) rfl rfl rfl (J_move rfl (Opd.tmp rfl)) ?_
  refine RegL.pure (p := (pEq (.int .i64 (a_1.length : Int)))) rfl rfl rfl (J_len rfl Try.underlying22 (Opd.tmp rfl) rfl) ?_
  refine RegL.pure (p := (pEq (.bool (decide ((1048576 : Int) < (a_1.length : Int)))))) rfl rfl rfl (J_bin rfl (Opd.tmp rfl) Opd.con B_gtr) ?_
  refine RegL.nil ?_
  refine Ct.then_tr ?_
  refine Tr.weak (Γ' := [(1, (pSl 1 (cK .i64) a_1)), (2, (pPtr (cGProblem a_0))), (19, (pEq (.bool (decide ((1048576 : Int) < (a_1.length : Int))))))]) ⟨rfl, rfl, rfl, trivial⟩ ?_
  refine Tr.cond (Opd.tmp rfl) (fun hc => ?_) (fun hc => ?_)
  · replace h := bif_t hc h
    refine Tr.seq ?_
    refine Tr.region ?_
    refine RegL.pure (p := (pEq (.bool true))) rfl rfl rfl (J_assign rfl Opd.con) ?_
    refine RegL.nil ?_
    refine Ct.then_tr ?_
    refine Tr.weak (Γ' := [(4, (pEq (.bool true)))]) ⟨rfl, trivial⟩ ?_
    refine Tr.ret ?_
    refine Ct.then_ret ?_
    replace h := Option.some.inj h; subst h
    exact Ct.retH1 (Ωx := []) () rfl (RvOk.tmp rfl) rfl
  · replace h := bif_f hc h
    refine Tr.skip ?_
    refine Ct.then_tr ?_
    refine Tr.weak (Γ' := [(1, (pSl 1 (cK .i64) a_1)), (2, (pPtr (cGProblem a_0)))]) ⟨rfl, rfl, trivial⟩ ?_
    refine Tr.seq ?_
    refine Tr.region ?_
    refine RegL.pure (p := (pEq (.int .i64 (1048576 : Int)))) rfl rfl rfl (J_assign rfl Opd.con) ?_
    refine RegL.nil ?_
    refine Ct.then_tr ?_
    refine Tr.weak (Γ' := [(1, (pSl 1 (cK .i64) a_1)), (2, (pPtr (cGProblem a_0))), (5, (pEq (.int .i64 (1048576 : Int))))]) ⟨rfl, rfl, rfl, trivial⟩ ?_
    refine Tr.seq ?_
    refine Tr.region ?_
    refine RegL.pure (p := (pAgg (cGProblem a_0))) rfl rfl rfl (J_loadA rfl Try.isAgg29 sz29 (Opd.tmp rfl) rfl) ?_
    refine RegL.pure (p := (pEq (.int .i64 (1048576 : Int)))) rfl rfl rfl (J_move rfl (Opd.tmp rfl)) ?_
    replace h := bind_some h; obtain ⟨x1, hx1, h⟩ := h
    refine RegL.pure (p := (pEq (.int .i64 x1))) rfl rfl rfl (J_call rfl Try.call19 (c_laws_szProblem hx1) (Opds.cons (Opd.tmp rfl) (Opds.cons (Opd.tmp rfl) Opds.nil))) ?_
    refine RegL.pure (p := (pEq (.int .i64 x1))) rfl rfl rfl (J_assign rfl (Opd.tmp rfl)) ?_
    refine RegL.nil ?_
    refine Ct.then_tr ?_
    refine Tr.weak (Γ' := [(1, (pSl 1 (cK .i64) a_1)), (2, (pPtr (cGProblem a_0))), (5, (pEq (.int .i64 x1)))]) ⟨rfl, rfl, rfl, trivial⟩ ?_
    refine Tr.seq ?_
    refine Tr.seq ?_
    refine Tr.region ?_
    refine RegL.pure (p := (pEq (.int .i64 x1))) rfl rfl rfl (J_move rfl (Opd.tmp rfl)) ?_
    refine RegL.pure (p := (pEq (.bool (decide (x1 < (0 : Int)))))) rfl rfl rfl (J_bin rfl (Opd.tmp rfl) Opd.con B_lss) ?_
    refine RegL.nil ?_
    refine Ct.then_tr ?_
    refine Tr.weak (Γ' := [(1, (pSl 1 (cK .i64) a_1)), (2, (pPtr (cGProblem a_0))), (24, (pEq (.bool (decide (x1 < (0 : Int))))))]) ⟨rfl, rfl, rfl, trivial⟩ ?_
    refine Tr.cond (Opd.tmp rfl) (fun hc => ?_) (fun hc => ?_)
    · replace h := bif_t hc h
      refine Tr.seq ?_
      refine Tr.region ?_
      refine RegL.pure (p := (pEq (.bool true))) rfl rfl rfl (J_assign rfl Opd.con) ?_
      refine RegL.nil ?_
      refine Ct.then_tr ?_
      refine Tr.weak (Γ' := [(4, (pEq (.bool true)))]) ⟨rfl, trivial⟩ ?_
      refine Tr.ret ?_
      refine Ct.then_ret ?_
      replace h := Option.some.inj h; subst h
      exact Ct.retH1 (Ωx := []) () rfl (RvOk.tmp rfl) rfl
    · replace h := bif_f hc h
      refine Tr.skip ?_
      refine Ct.then_tr ?_
      refine Tr.weak (Γ' := [(1, (pSl 1 (cK .i64) a_1)), (2, (pPtr (cGProblem a_0)))]) ⟨rfl, rfl, trivial⟩ ?_
      refine Tr.seq ?_
      refine Tr.region ?_
      refine RegL.pure (p := (pAgg (cGProblem a_0))) rfl rfl rfl (J_loadA rfl Try.isAgg29 sz29 (Opd.tmp rfl) rfl) ?_
      replace h := bind_some h; obtain ⟨x2, hx2, h⟩ := h
      refine RegL.pure (p := (pAgg (cGProblem x2))) rfl rfl rfl (J_call rfl Try.call21 (c_laws_toProblem hx2) (Opds.cons (Opd.tmp rfl) Opds.nil)) ?_
      refine RegL.pure (p := (pSl 1 (cK .i64) a_1)) rfl rfl rfl (J_move rfl (Opd.tmp rfl)) ?_
      replace h := bind_some h; obtain ⟨x3, hx3, h⟩ := h
      refine RegL.pure (p := (pSl 1 (cK .i64) x3)) rfl rfl rfl (J_call rfl Try.call16 (c_laws_toInt64S hx3) (Opds.cons (Opd.tmp rfl) Opds.nil)) ?_
      replace h := bind_some h; obtain ⟨x4, hx4, h⟩ := h
      refine RegL.pure (p := (pTup [(pAgg (cGProblem x4.1)), (pEq (.int .i64 x4.2))])) rfl rfl rfl (J_call rfl Try.call36 (c_spec_PartProblem hx4) (Opds.cons (Opd.tmp rfl) (Opds.cons (Opd.tmp rfl) Opds.nil))) ?_
      refine RegL.pure (p := (pTup [(pAgg (cGProblem x4.1)), (pEq (.int .i64 x4.2))])) rfl rfl rfl (J_move rfl (Opd.tmp rfl)) ?_
      refine RegL.pure (p := (pAgg (cGProblem x4.1))) rfl rfl rfl (J_extract rfl (Opd.tmp rfl) rfl) ?_
      refine RegL.pure (p := (pEq (.int .i64 x4.2))) rfl rfl rfl (J_extract rfl (Opd.tmp rfl) rfl) ?_
      refine RegL.step (γ := Nat) (p := fun b => pEq (.pointer (some ⟨b, 0, none⟩))) (Ω' := fun b => [oBlk b [(pEq (.slice none 0 0)), (pEq (.slice none 0 0))]]) rfl rfl rfl (M_alloc rfl zero32) fun b5 => ?_
      refine RegL.stepN (γ := Unit) (p := fun _ => pAny) (Ω' := fun _ => [oBlk b5 [(pSl 1 (cSl 1 (cK .i64)) x4.1.Domains), (pSl 1 (cSl 1 (cK .i64)) x4.1.Apart)]]) rfl rfl (M_storeA rfl sz32 (Opd.tmp rfl) (Opd.tmp rfl) (fun _ _ _ h => ones_of ((OneCs.cons OneC.sl (OneCs.cons OneC.sl OneCs.nil))) h) rfl rfl) fun g6 => ?_
      refine RegL.freeze (s := 6) rfl ?_
      refine RegL.pure (p := (pEq (.int .i64 x4.2))) rfl rfl rfl (J_assign rfl (Opd.tmp rfl)) ?_
      refine RegL.nil ?_
      refine Ct.then_tr ?_
      refine Tr.weak (Γ' := [(1, (pSl 1 (cK .i64) a_1)), (2, (pPtr (cGProblem a_0))), (6, (pPtr (cGProblem x4.1))), (7, (pEq (.int .i64 x4.2)))]) ⟨rfl, rfl, rfl, rfl, trivial⟩ ?_
      refine Tr.seq ?_
      refine Tr.region ?_
      refine RegL.pure (p := (pAgg (cGProblem a_0))) rfl rfl rfl (J_loadA rfl Try.isAgg29 sz29 (Opd.tmp rfl) rfl) ?_
      replace h := bind_some h; obtain ⟨x7, hx7, h⟩ := h
      refine RegL.step (γ := ((G3 × List G3) × (G3 × List G3))) (p := fun g => (pAgg [(pEq (.slice g.1.1.1 g.1.1.2.1 g.1.1.2.2)), (pEq (.slice g.2.1.1 g.2.1.2.1 g.2.1.2.2))])) (Ω' := fun g => [oSS 22 2 1 (cK .i64) g.1.1.1 g.1.1.2.1 g.1.1.2.2 g.1.2 x7.Domains, oSS 22 2 1 (cK .i64) g.2.1.1 g.2.1.2.1 g.2.1.2.2 g.2.2 x7.Apart]) rfl rfl rfl (M_callH (Ωi := []) rfl Try.call21 (o_laws_toProblem hx7) (Opds.cons (Opd.tmp rfl) Opds.nil)) fun g8 => ?_
      refine RegL.step (γ := Nat) (p := fun b => pEq (.pointer (some ⟨b, 0, none⟩))) (Ω' := fun b => [oBlk b [(pEq (.slice none 0 0)), (pEq (.slice none 0 0))], oSS 22 2 1 (cK .i64) g8.1.1.1 g8.1.1.2.1 g8.1.1.2.2 g8.1.2 x7.Domains, oSS 22 2 1 (cK .i64) g8.2.1.1 g8.2.1.2.1 g8.2.1.2.2 g8.2.2 x7.Apart]) rfl rfl rfl (M_alloc rfl zero32) fun b11 => ?_
      refine RegL.stepN (γ := Unit) (p := fun _ => pAny) (Ω' := fun _ => [oBlk b11 [(pEq (.slice g8.1.1.1 g8.1.1.2.1 g8.1.1.2.2)), (pEq (.slice g8.2.1.1 g8.2.1.2.1 g8.2.1.2.2))], oSS 22 2 1 (cK .i64) g8.1.1.1 g8.1.1.2.1 g8.1.1.2.2 g8.1.2 x7.Domains, oSS 22 2 1 (cK .i64) g8.2.1.1 g8.2.1.2.1 g8.2.1.2.2 g8.2.2 x7.Apart]) rfl rfl (M_storeA rfl sz32 (Opd.tmp rfl) (Opd.tmp rfl) (fun _ _ _ h => ones_of ((OneCs.cons OneC.slice (OneCs.cons OneC.slice OneCs.nil))) h) rfl rfl) fun g12 => ?_
      refine RegL.nil ?_
      refine Ct.then_tr ?_
      refine Tr.weak (Γ' := [(1, (pSl 1 (cK .i64) a_1)), (2, (pPtr (cGProblem a_0))), (6, (pPtr (cGProblem x4.1))), (7, (pEq (.int .i64 x4.2))), (8, (pEq (.pointer (some ⟨b11, 0, none⟩))))]) ⟨rfl, rfl, rfl, rfl, rfl, trivial⟩ ?_
      refine Tr.seq ?_
      refine Tr.region ?_
      refine RegL.pure (p := (pSl 1 (cK .i64) a_1)) rfl rfl rfl (J_move rfl (Opd.tmp rfl)) ?_
      replace h := bind_some h; obtain ⟨x13, hx13, h⟩ := h
      refine RegL.step (γ := G3) (p := fun g => (pEq (.slice g.1 g.2.1 g.2.2))) (Ω' := fun g => [oSl 2 1 (cK .i64) g.1 g.2.1 g.2.2 x13, oBlk b11 [(pEq (.slice g8.1.1.1 g8.1.1.2.1 g8.1.1.2.2)), (pEq (.slice g8.2.1.1 g8.2.1.2.1 g8.2.1.2.2))], oSS 22 2 1 (cK .i64) g8.1.1.1 g8.1.1.2.1 g8.1.1.2.2 g8.1.2 x7.Domains, oSS 22 2 1 (cK .i64) g8.2.1.1 g8.2.1.2.1 g8.2.1.2.2 g8.2.2 x7.Apart]) rfl rfl rfl (M_callH (Ωi := []) rfl Try.call16 (o_laws_toInt64S hx13) (Opds.cons (Opd.tmp rfl) Opds.nil)) fun g14 => ?_
      refine RegL.pure (p := (pEq (.slice g14.1 g14.2.1 g14.2.2))) rfl rfl rfl (J_assign rfl (Opd.tmp rfl)) ?_
      refine RegL.nil ?_
      refine Ct.then_tr ?_
      refine Tr.weak (Γ' := [(1, (pSl 1 (cK .i64) a_1)), (2, (pPtr (cGProblem a_0))), (6, (pPtr (cGProblem x4.1))), (7, (pEq (.int .i64 x4.2))), (8, (pEq (.pointer (some ⟨b11, 0, none⟩)))), (9, (pEq (.slice g14.1 g14.2.1 g14.2.2)))]) ⟨rfl, rfl, rfl, rfl, rfl, rfl, trivial⟩ ?_
      refine Tr.seq ?_
      refine Tr.region ?_
      refine RegL.pureW (p := (pAgg [(pEq (.slice g8.1.1.1 g8.1.1.2.1 g8.1.1.2.2)), (pEq (.slice g8.2.1.1 g8.2.1.2.1 g8.2.1.2.2))])) rfl rfl rfl (W_loadA (i := 1) rfl Try.isAgg32 sz32 (Opd.tmp rfl) rfl rfl) ?_
      refine RegL.pure (p := (pEq (.slice g14.1 g14.2.1 g14.2.2))) rfl rfl rfl (J_move rfl (Opd.tmp rfl)) ?_
      replace h := bind_some h; obtain ⟨x16, hx16, h⟩ := h
      refine RegL.step (γ := ((G3 × List G3) × (G3 × List G3))) (p := fun g => (pTup [(pAgg [(pEq (.slice g.1.1.1 g.1.1.2.1 g.1.1.2.2)), (pEq (.slice g.2.1.1 g.2.1.2.1 g.2.1.2.2))]), (pEq (.int .i64 x16.2))])) (Ω' := fun g => [oSS 22 2 1 (cK .i64) g.1.1.1 g.1.1.2.1 g.1.1.2.2 g.1.2 x16.1.Domains, oSS 22 2 1 (cK .i64) g.2.1.1 g.2.1.2.1 g.2.1.2.2 g.2.2 x16.1.Apart, oSl 2 1 (cK .i64) g14.1 g14.2.1 g14.2.2 x13, oBlk b11 [(pEq (.slice g8.1.1.1 g8.1.1.2.1 g8.1.1.2.2)), (pEq (.slice g8.2.1.1 g8.2.1.2.1 g8.2.1.2.2))], oSS 22 2 1 (cK .i64) g8.1.1.1 g8.1.1.2.1 g8.1.1.2.2 g8.1.2 x7.Domains, oSS 22 2 1 (cK .i64) g8.2.1.1 g8.2.1.2.1 g8.2.1.2.2 g8.2.2 x7.Apart]) rfl rfl rfl (M_callHB (Ωi := []) rfl Try.call37 (o_impl_PartProblem hx16) (OpdsA.cons (OpdA.conv rfl (Conv.agg (Convs.cons (Conv.nest 2 (fun _ => rfl) rfl) (Convs.cons (Conv.nest 3 (fun _ => rfl) rfl) Convs.nil)))) (OpdsA.cons (OpdA.conv rfl (Conv.row 0 (fun _ => rfl) rfl)) OpdsA.nil)) (fun _ => (FreeP.tup ⟨(FreeP.agg ⟨FreeP.eq, ⟨FreeP.eq, trivial⟩⟩), ⟨FreeP.eq, trivial⟩⟩)) (fun _ => ⟨(FreeO.nest (fun _ => ⟨FreeP.eq, trivial⟩)), ⟨(FreeO.nest (fun _ => ⟨FreeP.eq, trivial⟩)), trivial⟩⟩)) fun g17 => ?_
      refine RegL.pure (p := (pTup [(pAgg [(pEq (.slice g17.1.1.1 g17.1.1.2.1 g17.1.1.2.2)), (pEq (.slice g17.2.1.1 g17.2.1.2.1 g17.2.1.2.2))]), (pEq (.int .i64 x16.2))])) rfl rfl rfl (J_move rfl (Opd.tmp rfl)) ?_
      refine RegL.pure (p := (pAgg [(pEq (.slice g17.1.1.1 g17.1.1.2.1 g17.1.1.2.2)), (pEq (.slice g17.2.1.1 g17.2.1.2.1 g17.2.1.2.2))])) rfl rfl rfl (J_extract rfl (Opd.tmp rfl) rfl) ?_
      refine RegL.pure (p := (pEq (.int .i64 x16.2))) rfl rfl rfl (J_extract rfl (Opd.tmp rfl) rfl) ?_
      refine RegL.step (γ := Nat) (p := fun b => pEq (.pointer (some ⟨b, 0, none⟩))) (Ω' := fun b => [oBlk b [(pEq (.slice none 0 0)), (pEq (.slice none 0 0))], oSS 22 2 1 (cK .i64) g17.1.1.1 g17.1.1.2.1 g17.1.1.2.2 g17.1.2 x16.1.Domains, oSS 22 2 1 (cK .i64) g17.2.1.1 g17.2.1.2.1 g17.2.1.2.2 g17.2.2 x16.1.Apart, oSl 2 1 (cK .i64) g14.1 g14.2.1 g14.2.2 x13, oBlk b11 [(pEq (.slice g8.1.1.1 g8.1.1.2.1 g8.1.1.2.2)), (pEq (.slice g8.2.1.1 g8.2.1.2.1 g8.2.1.2.2))], oSS 22 2 1 (cK .i64) g8.1.1.1 g8.1.1.2.1 g8.1.1.2.2 g8.1.2 x7.Domains, oSS 22 2 1 (cK .i64) g8.2.1.1 g8.2.1.2.1 g8.2.1.2.2 g8.2.2 x7.Apart]) rfl rfl rfl (M_alloc rfl zero32) fun b20 => ?_
      refine RegL.stepN (γ := Unit) (p := fun _ => pAny) (Ω' := fun _ => [oBlk b20 [(pEq (.slice g17.1.1.1 g17.1.1.2.1 g17.1.1.2.2)), (pEq (.slice g17.2.1.1 g17.2.1.2.1 g17.2.1.2.2))], oSS 22 2 1 (cK .i64) g17.1.1.1 g17.1.1.2.1 g17.1.1.2.2 g17.1.2 x16.1.Domains, oSS 22 2 1 (cK .i64) g17.2.1.1 g17.2.1.2.1 g17.2.1.2.2 g17.2.2 x16.1.Apart, oSl 2 1 (cK .i64) g14.1 g14.2.1 g14.2.2 x13, oBlk b11 [(pEq (.slice g8.1.1.1 g8.1.1.2.1 g8.1.1.2.2)), (pEq (.slice g8.2.1.1 g8.2.1.2.1 g8.2.1.2.2))], oSS 22 2 1 (cK .i64) g8.1.1.1 g8.1.1.2.1 g8.1.1.2.2 g8.1.2 x7.Domains, oSS 22 2 1 (cK .i64) g8.2.1.1 g8.2.1.2.1 g8.2.1.2.2 g8.2.2 x7.Apart]) rfl rfl (M_storeA rfl sz32 (Opd.tmp rfl) (Opd.tmp rfl) (fun _ _ _ h => ones_of ((OneCs.cons OneC.slice (OneCs.cons OneC.slice OneCs.nil))) h) rfl rfl) fun g21 => ?_
      refine RegL.pure (p := (pEq (.int .i64 x16.2))) rfl rfl rfl (J_assign rfl (Opd.tmp rfl)) ?_
      refine RegL.nil ?_
      refine Ct.then_tr ?_
      refine Tr.weak (Γ' := [(1, (pSl 1 (cK .i64) a_1)), (2, (pPtr (cGProblem a_0))), (6, (pPtr (cGProblem x4.1))), (7, (pEq (.int .i64 x4.2))), (8, (pEq (.pointer (some ⟨b11, 0, none⟩)))), (9, (pEq (.slice g14.1 g14.2.1 g14.2.2))), (10, (pEq (.pointer (some ⟨b20, 0, none⟩)))), (11, (pEq (.int .i64 x16.2)))]) ⟨rfl, rfl, rfl, rfl, rfl, rfl, rfl, rfl, trivial⟩ ?_
      refine Tr.seq ?_
      refine Tr.seq ?_
      replace h := bind_some h; obtain ⟨x22, hx22, h⟩ := h
      refine Tr.cut (γ := Unit) (Γm := fun g => [(1, (pSl 1 (cK .i64) a_1)), (2, (pPtr (cGProblem a_0))), (6, (pPtr (cGProblem x4.1))), (7, (pEq (.int .i64 x4.2))), (8, (pEq (.pointer (some ⟨b11, 0, none⟩)))), (9, (pEq (.slice g14.1 g14.2.1 g14.2.2))), (10, (pEq (.pointer (some ⟨b20, 0, none⟩)))), (11, (pEq (.int .i64 x16.2))), (51, (pEq (.bool x22)))]) (Ωm := fun g => [oBlk b20 [(pEq (.slice g17.1.1.1 g17.1.1.2.1 g17.1.1.2.2)), (pEq (.slice g17.2.1.1 g17.2.1.2.1 g17.2.1.2.2))], oSS 22 2 1 (cK .i64) g17.1.1.1 g17.1.1.2.1 g17.1.1.2.2 g17.1.2 x16.1.Domains, oSS 22 2 1 (cK .i64) g17.2.1.1 g17.2.1.2.1 g17.2.1.2.2 g17.2.2 x16.1.Apart, oSl 2 1 (cK .i64) g14.1 g14.2.1 g14.2.2 x13, oBlk b11 [(pEq (.slice g8.1.1.1 g8.1.1.2.1 g8.1.1.2.2)), (pEq (.slice g8.2.1.1 g8.2.1.2.1 g8.2.1.2.2))], oSS 22 2 1 (cK .i64) g8.1.1.1 g8.1.1.2.1 g8.1.1.2.2 g8.1.2 x7.Domains, oSS 22 2 1 (cK .i64) g8.2.1.1 g8.2.1.2.1 g8.2.1.2.2 g8.2.2 x7.Apart]) ?_ (fun g25 => ?_)
      · clear h
        have h := hx22
        clear hx22
        refine Tr.region ?_
        refine RegL.pureW (p := (pAgg [(pEq (.slice g17.1.1.1 g17.1.1.2.1 g17.1.1.2.2)), (pEq (.slice g17.2.1.1 g17.2.1.2.1 g17.2.1.2.2))])) rfl rfl rfl (W_loadA (i := 0) rfl Try.isAgg32 sz32 (Opd.tmp rfl) rfl rfl) ?_
        refine RegL.pure (p := (pAgg (cGProblem x4.1))) rfl rfl rfl (J_loadA rfl Try.isAgg32 sz32 (Opd.tmp rfl) rfl) ?_
        replace h := bind_some h; obtain ⟨x23, hx23, h⟩ := h
        refine RegL.pureW (p := (pEq (.bool x23))) rfl rfl rfl (W_call rfl Try.call23 (c_laws_eqProblem hx23) (OpdsA.cons (OpdA.conv rfl (Conv.agg (Convs.cons (Conv.nest 1 (fun _ => rfl) rfl) (Convs.cons (Conv.nest 2 (fun _ => rfl) rfl) Convs.nil)))) (OpdsA.cons (OpdA.of (Opd.tmp rfl)) OpdsA.nil)) FreeP.eq) ?_
        refine RegL.pure (p := (pEq (.bool (!x23)))) rfl rfl rfl (J_not rfl (Opd.tmp rfl)) ?_
        refine RegL.pure (p := (pEq (.bool (!x23)))) rfl rfl rfl (J_move rfl (Opd.tmp rfl)) ?_
        rcases Bool.eq_false_or_eq_true (!x23) with hc24 | hc24
        · replace h := bif_t hc24 h
          refine RegL.skipG rfl rfl rfl hc24 rfl rfl ?_
          refine RegL.skipG rfl rfl rfl hc24 rfl rfl ?_
          refine RegL.skipG rfl rfl rfl hc24 rfl rfl ?_
          refine RegL.pure (p := (pEq (.bool true))) rfl rfl rfl (J_pick rfl (Opd.tmp rfl) (fun _ => Opd.con) (fun hf => absurd (hc24.symm.trans hf) (by decide))) ?_
          refine RegL.nil ?_
          replace h := Option.some.inj h; subst h
          exact Ct.mid () rfl ⟨rfl, rfl, rfl, rfl, rfl, rfl, rfl, rfl, rfl, trivial⟩
        · replace h := bif_f hc24 h
          refine RegL.pureG (p := (pEq (.int .i64 x16.2))) rfl rfl rfl hc24 rfl rfl (J_move rfl (Opd.tmp rfl)) ?_
          refine RegL.pureG (p := (pEq (.int .i64 x4.2))) rfl rfl rfl hc24 rfl rfl (J_move rfl (Opd.tmp rfl)) ?_
          refine RegL.pureG (p := (pEq (.bool (x16.2 != x4.2)))) rfl rfl rfl hc24 rfl rfl (J_bin rfl (Opd.tmp rfl) (Opd.tmp rfl) B_neq) ?_
          refine RegL.pure (p := (pEq (.bool (x16.2 != x4.2)))) rfl rfl rfl (J_pick rfl (Opd.tmp rfl) (fun hf => absurd (hc24.symm.trans hf) (by decide)) (fun _ => (Opd.tmp rfl))) ?_
          refine RegL.nil ?_
          replace h := Option.some.inj h; subst h
          exact Ct.mid () rfl ⟨rfl, rfl, rfl, rfl, rfl, rfl, rfl, rfl, rfl, trivial⟩
      · clear hx22
        refine Ct.then_tr ?_
        refine Tr.weak (Γ' := [(1, (pSl 1 (cK .i64) a_1)), (2, (pPtr (cGProblem a_0))), (6, (pPtr (cGProblem x4.1))), (7, (pEq (.int .i64 x4.2))), (8, (pEq (.pointer (some ⟨b11, 0, none⟩)))), (9, (pEq (.slice g14.1 g14.2.1 g14.2.2))), (10, (pEq (.pointer (some ⟨b20, 0, none⟩)))), (11, (pEq (.int .i64 x16.2))), (51, (pEq (.bool x22)))]) ⟨rfl, rfl, rfl, rfl, rfl, rfl, rfl, rfl, rfl, trivial⟩ ?_
        refine Tr.cond (Opd.tmp rfl) (fun hc => ?_) (fun hc => ?_)
        · replace h := bif_t hc h
          refine Tr.seq ?_
          refine Tr.region ?_
          refine RegL.pure (p := (pEq (.bool false))) rfl rfl rfl (J_assign rfl Opd.con) ?_
          refine RegL.nil ?_
          refine Ct.then_tr ?_
          refine Tr.weak (Γ' := [(4, (pEq (.bool false)))]) ⟨rfl, trivial⟩ ?_
          refine Tr.ret ?_
          refine Ct.then_ret ?_
          replace h := Option.some.inj h; subst h
          exact Ct.retH1 (Ωx := [oBlk b20 [(pEq (.slice g17.1.1.1 g17.1.1.2.1 g17.1.1.2.2)), (pEq (.slice g17.2.1.1 g17.2.1.2.1 g17.2.1.2.2))], oSS 22 2 1 (cK .i64) g17.1.1.1 g17.1.1.2.1 g17.1.1.2.2 g17.1.2 x16.1.Domains, oSS 22 2 1 (cK .i64) g17.2.1.1 g17.2.1.2.1 g17.2.1.2.2 g17.2.2 x16.1.Apart, oSl 2 1 (cK .i64) g14.1 g14.2.1 g14.2.2 x13, oBlk b11 [(pEq (.slice g8.1.1.1 g8.1.1.2.1 g8.1.1.2.2)), (pEq (.slice g8.2.1.1 g8.2.1.2.1 g8.2.1.2.2))], oSS 22 2 1 (cK .i64) g8.1.1.1 g8.1.1.2.1 g8.1.1.2.2 g8.1.2 x7.Domains, oSS 22 2 1 (cK .i64) g8.2.1.1 g8.2.1.2.1 g8.2.1.2.2 g8.2.2 x7.Apart]) () rfl (RvOk.tmp rfl) rfl
        · replace h := bif_f hc h
          refine Tr.skip ?_
          refine Ct.then_tr ?_
          refine Tr.weak (Γ' := [(1, (pSl 1 (cK .i64) a_1)), (2, (pPtr (cGProblem a_0))), (6, (pPtr (cGProblem x4.1))), (7, (pEq (.int .i64 x4.2))), (8, (pEq (.pointer (some ⟨b11, 0, none⟩)))), (9, (pEq (.slice g14.1 g14.2.1 g14.2.2))), (10, (pEq (.pointer (some ⟨b20, 0, none⟩)))), (11, (pEq (.int .i64 x16.2)))]) ⟨rfl, rfl, rfl, rfl, rfl, rfl, rfl, rfl, trivial⟩ ?_
          refine Tr.seq ?_
          refine Tr.seq ?_
          replace h := bind_some h; obtain ⟨x26, hx26, h⟩ := h
          replace h := bind_some h; obtain ⟨x27, hx27, h⟩ := h
          refine Tr.drawD (n := 117) (m := 5) (es := [some (Ent.mk [(8, (pEq (.pointer (some ⟨b11, 0, none⟩))))] (pAgg [(pEq (.slice g8.1.1.1 g8.1.1.2.1 g8.1.1.2.2)), (pEq (.slice g8.2.1.1 g8.2.1.2.1 g8.2.1.2.2))]) true), some (Ent.mk [(2, (pPtr (cGProblem a_0)))] (pAgg (cGProblem a_0)) true), some (Ent.mk [(53, (pAgg (cGProblem a_0)))] (pAgg (cGProblem x26)) true), some (Ent.mk [(52, (pAgg [(pEq (.slice g8.1.1.1 g8.1.1.2.1 g8.1.1.2.2)), (pEq (.slice g8.2.1.1 g8.2.1.2.1 g8.2.1.2.2))])), (54, (pAgg (cGProblem x26)))] (pEq (.bool x27)) true), some (Ent.mk [(55, (pEq (.bool x27)))] (pEq (.bool (!x27))) true)]) (rd := [[8], [2], [53], [52, 54], [55]]) rfl hmix (by kernel_rfl) fun hD => ?_
          refine RD.fin (es := [Ent.mk [(8, (pEq (.pointer (some ⟨b11, 0, none⟩))))] (pAgg [(pEq (.slice g8.1.1.1 g8.1.1.2.1 g8.1.1.2.2)), (pEq (.slice g8.2.1.1 g8.2.1.2.1 g8.2.1.2.2))]) true, Ent.mk [(2, (pPtr (cGProblem a_0)))] (pAgg (cGProblem a_0)) true, Ent.mk [(53, (pAgg (cGProblem a_0)))] (pAgg (cGProblem x26)) true, Ent.mk [(52, (pAgg [(pEq (.slice g8.1.1.1 g8.1.1.2.1 g8.1.1.2.2)), (pEq (.slice g8.2.1.1 g8.2.1.2.1 g8.2.1.2.2))])), (54, (pAgg (cGProblem x26)))] (pEq (.bool x27)) true, Ent.mk [(55, (pEq (.bool x27)))] (pEq (.bool (!x27))) true]) (done := []) hD ⟨.inr ⟨(W_loadA (i := 4) rfl Try.isAgg32 sz32 (Opd.tmp rfl) rfl rfl), ⟨rfl, trivial⟩, rfl, rfl⟩, ⟨.inr ⟨(OpJ.w (J_loadA rfl Try.isAgg29 sz29 (Opd.tmp rfl) rfl)), ⟨rfl, trivial⟩, rfl, rfl⟩, ⟨.inr ⟨(OpJ.w (J_call rfl Try.call21 (c_laws_toProblem hx26) (Opds.cons (Opd.tmp rfl) Opds.nil))), ⟨rfl, trivial⟩, rfl, rfl⟩, ⟨.inr ⟨(W_call rfl Try.call23 (c_laws_eqProblem hx27) (OpdsA.cons (OpdA.conv rfl (Conv.agg (Convs.cons (Conv.nest 5 (fun _ => rfl) rfl) (Convs.cons (Conv.nest 6 (fun _ => rfl) rfl) Convs.nil)))) (OpdsA.cons (OpdA.of (Opd.tmp rfl)) OpdsA.nil)) FreeP.eq), ⟨rfl, rfl, trivial⟩, rfl, rfl⟩, ⟨.inr ⟨(OpJ.w (J_not rfl (Opd.tmp rfl))), ⟨rfl, trivial⟩, rfl, rfl⟩, trivial⟩⟩⟩⟩⟩ ?_
          refine RegL.nil ?_
          refine Ct.then_tr ?_
          refine Tr.weak (Γ' := [(1, (pSl 1 (cK .i64) a_1)), (2, (pPtr (cGProblem a_0))), (6, (pPtr (cGProblem x4.1))), (7, (pEq (.int .i64 x4.2))), (8, (pEq (.pointer (some ⟨b11, 0, none⟩)))), (9, (pEq (.slice g14.1 g14.2.1 g14.2.2))), (10, (pEq (.pointer (some ⟨b20, 0, none⟩)))), (11, (pEq (.int .i64 x16.2))), (56, (pEq (.bool (!x27))))]) ⟨rfl, rfl, rfl, rfl, rfl, rfl, rfl, rfl, rfl, trivial⟩ ?_
          refine Tr.cond (Opd.tmp rfl) (fun hc => ?_) (fun hc => ?_)
          · replace h := bif_t hc h
            refine Tr.seq ?_
            refine Tr.region ?_
            refine RegL.pure (p := (pEq (.bool false))) rfl rfl rfl (J_assign rfl Opd.con) ?_
            refine RegL.nil ?_
            refine Ct.then_tr ?_
            refine Tr.weak (Γ' := [(4, (pEq (.bool false)))]) ⟨rfl, trivial⟩ ?_
            refine Tr.ret ?_
            refine Ct.then_ret ?_
            replace h := Option.some.inj h; subst h
            exact Ct.retH1 (Ωx := [oBlk b20 [(pEq (.slice g17.1.1.1 g17.1.1.2.1 g17.1.1.2.2)), (pEq (.slice g17.2.1.1 g17.2.1.2.1 g17.2.1.2.2))], oSS 22 2 1 (cK .i64) g17.1.1.1 g17.1.1.2.1 g17.1.1.2.2 g17.1.2 x16.1.Domains, oSS 22 2 1 (cK .i64) g17.2.1.1 g17.2.1.2.1 g17.2.1.2.2 g17.2.2 x16.1.Apart, oSl 2 1 (cK .i64) g14.1 g14.2.1 g14.2.2 x13, oBlk b11 [(pEq (.slice g8.1.1.1 g8.1.1.2.1 g8.1.1.2.2)), (pEq (.slice g8.2.1.1 g8.2.1.2.1 g8.2.1.2.2))], oSS 22 2 1 (cK .i64) g8.1.1.1 g8.1.1.2.1 g8.1.1.2.2 g8.1.2 x7.Domains, oSS 22 2 1 (cK .i64) g8.2.1.1 g8.2.1.2.1 g8.2.1.2.2 g8.2.2 x7.Apart]) () rfl (RvOk.tmp rfl) rfl
          · replace h := bif_f hc h
            refine Tr.skip ?_
            refine Ct.then_tr ?_
            refine Tr.weak (Γ' := [(1, (pSl 1 (cK .i64) a_1)), (2, (pPtr (cGProblem a_0))), (6, (pPtr (cGProblem x4.1))), (7, (pEq (.int .i64 x4.2))), (8, (pEq (.pointer (some ⟨b11, 0, none⟩)))), (9, (pEq (.slice g14.1 g14.2.1 g14.2.2))), (10, (pEq (.pointer (some ⟨b20, 0, none⟩)))), (11, (pEq (.int .i64 x16.2)))]) ⟨rfl, rfl, rfl, rfl, rfl, rfl, rfl, rfl, trivial⟩ ?_
            refine Tr.seq ?_
            refine Tr.seq ?_
            refine Tr.region ?_
            refine RegL.pure (p := (pEq (.slice g14.1 g14.2.1 g14.2.2))) rfl rfl rfl (J_move rfl (Opd.tmp rfl)) ?_
            refine RegL.pure (p := (pSl 1 (cK .i64) a_1)) rfl rfl rfl (J_move rfl (Opd.tmp rfl)) ?_
            replace h := bind_some h; obtain ⟨x28, hx28, h⟩ := h
            refine RegL.pure (p := (pSl 1 (cK .i64) x28)) rfl rfl rfl (J_call rfl Try.call16 (c_laws_toInt64S hx28) (Opds.cons (Opd.tmp rfl) Opds.nil)) ?_
            replace h := bind_some h; obtain ⟨x29, hx29, h⟩ := h
            refine RegL.pureW (p := (pEq (.bool x29))) rfl rfl rfl (W_call rfl Try.call18 (c_laws_eqInt64S hx29) (OpdsA.cons (OpdA.conv rfl (Conv.row 3 (fun _ => rfl) rfl)) (OpdsA.cons (OpdA.of (Opd.tmp rfl)) OpdsA.nil)) FreeP.eq) ?_
            refine RegL.pure (p := (pEq (.bool (!x29)))) rfl rfl rfl (J_not rfl (Opd.tmp rfl)) ?_
            refine RegL.nil ?_
            refine Ct.then_tr ?_
            refine Tr.weak (Γ' := [(1, (pSl 1 (cK .i64) a_1)), (2, (pPtr (cGProblem a_0))), (6, (pPtr (cGProblem x4.1))), (7, (pEq (.int .i64 x4.2))), (8, (pEq (.pointer (some ⟨b11, 0, none⟩)))), (9, (pEq (.slice g14.1 g14.2.1 g14.2.2))), (10, (pEq (.pointer (some ⟨b20, 0, none⟩)))), (11, (pEq (.int .i64 x16.2))), (61, (pEq (.bool (!x29))))]) ⟨rfl, rfl, rfl, rfl, rfl, rfl, rfl, rfl, rfl, trivial⟩ ?_
            refine Tr.cond (Opd.tmp rfl) (fun hc => ?_) (fun hc => ?_)
            · replace h := bif_t hc h
              refine Tr.seq ?_
              refine Tr.region ?_
              refine RegL.pure (p := (pEq (.bool false))) rfl rfl rfl (J_assign rfl Opd.con) ?_
              refine RegL.nil ?_
              refine Ct.then_tr ?_
              refine Tr.weak (Γ' := [(4, (pEq (.bool false)))]) ⟨rfl, trivial⟩ ?_
              refine Tr.ret ?_
              refine Ct.then_ret ?_
              replace h := Option.some.inj h; subst h
              exact Ct.retH1 (Ωx := [oBlk b20 [(pEq (.slice g17.1.1.1 g17.1.1.2.1 g17.1.1.2.2)), (pEq (.slice g17.2.1.1 g17.2.1.2.1 g17.2.1.2.2))], oSS 22 2 1 (cK .i64) g17.1.1.1 g17.1.1.2.1 g17.1.1.2.2 g17.1.2 x16.1.Domains, oSS 22 2 1 (cK .i64) g17.2.1.1 g17.2.1.2.1 g17.2.1.2.2 g17.2.2 x16.1.Apart, oSl 2 1 (cK .i64) g14.1 g14.2.1 g14.2.2 x13, oBlk b11 [(pEq (.slice g8.1.1.1 g8.1.1.2.1 g8.1.1.2.2)), (pEq (.slice g8.2.1.1 g8.2.1.2.1 g8.2.1.2.2))], oSS 22 2 1 (cK .i64) g8.1.1.1 g8.1.1.2.1 g8.1.1.2.2 g8.1.2 x7.Domains, oSS 22 2 1 (cK .i64) g8.2.1.1 g8.2.1.2.1 g8.2.1.2.2 g8.2.2 x7.Apart]) () rfl (RvOk.tmp rfl) rfl
            · replace h := bif_f hc h
              refine Tr.skip ?_
              refine Ct.then_tr ?_
              refine Tr.weak (Γ' := [(1, (pSl 1 (cK .i64) a_1)), (2, (pPtr (cGProblem a_0))), (6, (pPtr (cGProblem x4.1))), (7, (pEq (.int .i64 x4.2))), (8, (pEq (.pointer (some ⟨b11, 0, none⟩)))), (9, (pEq (.slice g14.1 g14.2.1 g14.2.2))), (10, (pEq (.pointer (some ⟨b20, 0, none⟩)))), (11, (pEq (.int .i64 x16.2)))]) ⟨rfl, rfl, rfl, rfl, rfl, rfl, rfl, rfl, trivial⟩ ?_
              refine Tr.seq ?_
              refine Tr.region ?_
              refine RegL.pure (p := (pEq (.int .i64 (1 : Int)))) rfl rfl rfl (J_assign rfl Opd.con) ?_
              refine RegL.nil ?_
              refine Ct.then_tr ?_
              refine Tr.weak (Γ' := [(1, (pSl 1 (cK .i64) a_1)), (2, (pPtr (cGProblem a_0))), (6, (pPtr (cGProblem x4.1))), (7, (pEq (.int .i64 x4.2))), (8, (pEq (.pointer (some ⟨b11, 0, none⟩)))), (9, (pEq (.slice g14.1 g14.2.1 g14.2.2))), (10, (pEq (.pointer (some ⟨b20, 0, none⟩)))), (11, (pEq (.int .i64 x16.2))), (12, (pEq (.int .i64 (1 : Int))))]) ⟨rfl, rfl, rfl, rfl, rfl, rfl, rfl, rfl, rfl, trivial⟩ ?_
              refine Tr.seq ?_
              refine Tr.region ?_
              refine RegL.pureW (p := (pAgg [(pEq (.slice g8.1.1.1 g8.1.1.2.1 g8.1.1.2.2)), (pEq (.slice g8.2.1.1 g8.2.1.2.1 g8.2.1.2.2))])) rfl rfl rfl (W_loadA (i := 4) rfl Try.isAgg32 sz32 (Opd.tmp rfl) rfl rfl) ?_
              refine RegL.pure (p := (pEq (.int .i64 (1 : Int)))) rfl rfl rfl (J_move rfl (Opd.tmp rfl)) ?_
              replace h := bind_some h; obtain ⟨x30, hx30, h⟩ := h
              refine RegL.re (Ω2 := [oSS 22 2 1 (cK .i64) g8.2.1.1 g8.2.1.2.1 g8.2.1.2.2 g8.2.2 x7.Apart, oBlk b20 [(pEq (.slice g17.1.1.1 g17.1.1.2.1 g17.1.1.2.2)), (pEq (.slice g17.2.1.1 g17.2.1.2.1 g17.2.1.2.2))], oSS 22 2 1 (cK .i64) g17.1.1.1 g17.1.1.2.1 g17.1.1.2.2 g17.1.2 x16.1.Domains, oSS 22 2 1 (cK .i64) g17.2.1.1 g17.2.1.2.1 g17.2.1.2.2 g17.2.2 x16.1.Apart, oSl 2 1 (cK .i64) g14.1 g14.2.1 g14.2.2 x13, oBlk b11 [(pEq (.slice g8.1.1.1 g8.1.1.2.1 g8.1.1.2.2)), (pEq (.slice g8.2.1.1 g8.2.1.2.1 g8.2.1.2.2))], oSS 22 2 1 (cK .i64) g8.1.1.1 g8.1.1.2.1 g8.1.1.2.2 g8.1.2 x7.Domains]) (fun h => SatO.pick 6 h) ?_
              refine RegL.re (Ω2 := [oSS 22 2 1 (cK .i64) g8.1.1.1 g8.1.1.2.1 g8.1.1.2.2 g8.1.2 x7.Domains, oSS 22 2 1 (cK .i64) g8.2.1.1 g8.2.1.2.1 g8.2.1.2.2 g8.2.2 x7.Apart, oBlk b20 [(pEq (.slice g17.1.1.1 g17.1.1.2.1 g17.1.1.2.2)), (pEq (.slice g17.2.1.1 g17.2.1.2.1 g17.2.1.2.2))], oSS 22 2 1 (cK .i64) g17.1.1.1 g17.1.1.2.1 g17.1.1.2.2 g17.1.2 x16.1.Domains, oSS 22 2 1 (cK .i64) g17.2.1.1 g17.2.1.2.1 g17.2.1.2.2 g17.2.2 x16.1.Apart, oSl 2 1 (cK .i64) g14.1 g14.2.1 g14.2.2 x13, oBlk b11 [(pEq (.slice g8.1.1.1 g8.1.1.2.1 g8.1.1.2.2)), (pEq (.slice g8.2.1.1 g8.2.1.2.1 g8.2.1.2.2))]]) (fun h => SatO.pick 6 h) ?_
              refine RegL.step (γ := Unit) (p := fun g => (pEq (.int .i64 x30.1))) (Ω' := fun g => [oSS 22 2 1 (cK .i64) g8.1.1.1 g8.1.1.2.1 g8.1.1.2.2 g8.1.2 x30.2.1, oSS 22 2 1 (cK .i64) g8.2.1.1 g8.2.1.2.1 g8.2.1.2.2 g8.2.2 x30.2.2, oBlk b20 [(pEq (.slice g17.1.1.1 g17.1.1.2.1 g17.1.1.2.2)), (pEq (.slice g17.2.1.1 g17.2.1.2.1 g17.2.1.2.2))], oSS 22 2 1 (cK .i64) g17.1.1.1 g17.1.1.2.1 g17.1.1.2.2 g17.1.2 x16.1.Domains, oSS 22 2 1 (cK .i64) g17.2.1.1 g17.2.1.2.1 g17.2.1.2.2 g17.2.2 x16.1.Apart, oSl 2 1 (cK .i64) g14.1 g14.2.1 g14.2.2 x13, oBlk b11 [(pEq (.slice g8.1.1.1 g8.1.1.2.1 g8.1.1.2.2)), (pEq (.slice g8.2.1.1 g8.2.1.2.1 g8.2.1.2.2))]]) rfl rfl rfl (M_callH (Ωi := [oSS 22 2 1 (cK .i64) g8.1.1.1 g8.1.1.2.1 g8.1.1.2.2 g8.1.2 x7.Domains, oSS 22 2 1 (cK .i64) g8.2.1.1 g8.2.1.2.1 g8.2.1.2.2 g8.2.2 x7.Apart]) rfl Try.call34 (o_laws_markProblem hx30) (Opds.cons (Opd.tmp rfl) (Opds.cons (Opd.tmp rfl) Opds.nil))) fun g31 => ?_
              refine RegL.pure (p := (pEq (.int .i64 x30.1))) rfl rfl rfl (J_assign rfl (Opd.tmp rfl)) ?_
              refine RegL.nil ?_
              refine Ct.then_tr ?_
              refine Tr.weak (Γ' := [(1, (pSl 1 (cK .i64) a_1)), (2, (pPtr (cGProblem a_0))), (6, (pPtr (cGProblem x4.1))), (7, (pEq (.int .i64 x4.2))), (9, (pEq (.slice g14.1 g14.2.1 g14.2.2))), (10, (pEq (.pointer (some ⟨b20, 0, none⟩)))), (11, (pEq (.int .i64 x16.2))), (12, (pEq (.int .i64 x30.1)))]) ⟨rfl, rfl, rfl, rfl, rfl, rfl, rfl, rfl, trivial⟩ ?_
              refine Tr.seq ?_
              refine Tr.region ?_
              refine RegL.pure (p := (pEq (.slice g14.1 g14.2.1 g14.2.2))) rfl rfl rfl (J_move rfl (Opd.tmp rfl)) ?_
              refine RegL.pure (p := (pEq (.int .i64 x30.1))) rfl rfl rfl (J_move rfl (Opd.tmp rfl)) ?_
              replace h := bind_some h; obtain ⟨x32, hx32, h⟩ := h
              refine RegL.re (Ω2 := [oSl 2 1 (cK .i64) g14.1 g14.2.1 g14.2.2 x13, oSS 22 2 1 (cK .i64) g8.1.1.1 g8.1.1.2.1 g8.1.1.2.2 g8.1.2 x30.2.1, oSS 22 2 1 (cK .i64) g8.2.1.1 g8.2.1.2.1 g8.2.1.2.2 g8.2.2 x30.2.2, oBlk b20 [(pEq (.slice g17.1.1.1 g17.1.1.2.1 g17.1.1.2.2)), (pEq (.slice g17.2.1.1 g17.2.1.2.1 g17.2.1.2.2))], oSS 22 2 1 (cK .i64) g17.1.1.1 g17.1.1.2.1 g17.1.1.2.2 g17.1.2 x16.1.Domains, oSS 22 2 1 (cK .i64) g17.2.1.1 g17.2.1.2.1 g17.2.1.2.2 g17.2.2 x16.1.Apart, oBlk b11 [(pEq (.slice g8.1.1.1 g8.1.1.2.1 g8.1.1.2.2)), (pEq (.slice g8.2.1.1 g8.2.1.2.1 g8.2.1.2.2))]]) (fun h => SatO.pick 5 h) ?_
              refine RegL.step (γ := Unit) (p := fun g => (pEq (.int .i64 x32.1))) (Ω' := fun g => [oSl 2 1 (cK .i64) g14.1 g14.2.1 g14.2.2 x32.2, oSS 22 2 1 (cK .i64) g8.1.1.1 g8.1.1.2.1 g8.1.1.2.2 g8.1.2 x30.2.1, oSS 22 2 1 (cK .i64) g8.2.1.1 g8.2.1.2.1 g8.2.1.2.2 g8.2.2 x30.2.2, oBlk b20 [(pEq (.slice g17.1.1.1 g17.1.1.2.1 g17.1.1.2.2)), (pEq (.slice g17.2.1.1 g17.2.1.2.1 g17.2.1.2.2))], oSS 22 2 1 (cK .i64) g17.1.1.1 g17.1.1.2.1 g17.1.1.2.2 g17.1.2 x16.1.Domains, oSS 22 2 1 (cK .i64) g17.2.1.1 g17.2.1.2.1 g17.2.1.2.2 g17.2.2 x16.1.Apart, oBlk b11 [(pEq (.slice g8.1.1.1 g8.1.1.2.1 g8.1.1.2.2)), (pEq (.slice g8.2.1.1 g8.2.1.2.1 g8.2.1.2.2))]]) rfl rfl rfl (M_callH (Ωi := [oSl 2 1 (cK .i64) g14.1 g14.2.1 g14.2.2 x13]) rfl Try.call38 (o_laws_markInt64S hx32) (Opds.cons (Opd.tmp rfl) (Opds.cons (Opd.tmp rfl) Opds.nil))) fun g33 => ?_
              refine RegL.pure (p := (pEq (.int .i64 x32.1))) rfl rfl rfl (J_assign rfl (Opd.tmp rfl)) ?_
              refine RegL.nil ?_
              refine Ct.then_tr ?_
              refine Tr.weak (Γ' := [(1, (pSl 1 (cK .i64) a_1)), (2, (pPtr (cGProblem a_0))), (6, (pPtr (cGProblem x4.1))), (7, (pEq (.int .i64 x4.2))), (10, (pEq (.pointer (some ⟨b20, 0, none⟩)))), (11, (pEq (.int .i64 x16.2))), (12, (pEq (.int .i64 x32.1)))]) ⟨rfl, rfl, rfl, rfl, rfl, rfl, rfl, trivial⟩ ?_
              refine Tr.seq ?_
              refine Tr.seq ?_
              replace h := bind_some h; obtain ⟨x34, hx34, h⟩ := h
              refine Tr.cut (γ := Unit) (Γm := fun g => [(1, (pSl 1 (cK .i64) a_1)), (2, (pPtr (cGProblem a_0))), (6, (pPtr (cGProblem x4.1))), (7, (pEq (.int .i64 x4.2))), (10, (pEq (.pointer (some ⟨b20, 0, none⟩)))), (80, (pEq (.bool x34)))]) (Ωm := fun g => [oBlk b20 [(pEq (.slice g17.1.1.1 g17.1.1.2.1 g17.1.1.2.2)), (pEq (.slice g17.2.1.1 g17.2.1.2.1 g17.2.1.2.2))], oSS 22 2 1 (cK .i64) g17.1.1.1 g17.1.1.2.1 g17.1.1.2.2 g17.1.2 x16.1.Domains, oSS 22 2 1 (cK .i64) g17.2.1.1 g17.2.1.2.1 g17.2.1.2.2 g17.2.2 x16.1.Apart]) ?_ (fun g38 => ?_)
              · clear h
                have h := hx34
                clear hx34
                refine Tr.region ?_
                refine RegL.pure (p := (pEq (.int .i64 x32.1))) rfl rfl rfl (J_move rfl (Opd.tmp rfl)) ?_
                refine RegL.pure (p := (pEq (.bool (decide (x32.1 < (0 : Int)))))) rfl rfl rfl (J_bin rfl (Opd.tmp rfl) Opd.con B_lss) ?_
                refine RegL.pure (p := (pEq (.bool (decide (x32.1 < (0 : Int)))))) rfl rfl rfl (J_move rfl (Opd.tmp rfl)) ?_
                rcases Bool.eq_false_or_eq_true (decide (x32.1 < (0 : Int))) with hc35 | hc35
                · replace h := bif_t hc35 h
                  refine RegL.skipG rfl rfl rfl hc35 rfl rfl ?_
                  refine RegL.skipG rfl rfl rfl hc35 rfl rfl ?_
                  refine RegL.skipG rfl rfl rfl hc35 rfl rfl ?_
                  refine RegL.skipG rfl rfl rfl hc35 rfl rfl ?_
                  refine RegL.pure (p := (pEq (.bool true))) rfl rfl rfl (J_pick rfl (Opd.tmp rfl) (fun _ => Opd.con) (fun hf => absurd (hc35.symm.trans hf) (by decide))) ?_
                  refine RegL.pure (p := (pEq (.bool true))) rfl rfl rfl (J_move rfl (Opd.tmp rfl)) ?_
                  refine RegL.skipG rfl rfl rfl rfl rfl rfl ?_
                  refine RegL.skipG rfl rfl rfl rfl rfl rfl ?_
                  refine RegL.skipG rfl rfl rfl rfl rfl rfl ?_
                  refine RegL.pure (p := (pEq (.bool true))) rfl rfl rfl (J_pick rfl (Opd.tmp rfl) (fun _ => Opd.con) (fun hf => absurd hf (by decide))) ?_
                  refine RegL.nil ?_
                  refine Ct.re (Ω2 := [oSS 22 2 1 (cK .i64) g8.1.1.1 g8.1.1.2.1 g8.1.1.2.2 g8.1.2 x30.2.1, oSS 22 2 1 (cK .i64) g8.2.1.1 g8.2.1.2.1 g8.2.1.2.2 g8.2.2 x30.2.2, oBlk b20 [(pEq (.slice g17.1.1.1 g17.1.1.2.1 g17.1.1.2.2)), (pEq (.slice g17.2.1.1 g17.2.1.2.1 g17.2.1.2.2))], oSS 22 2 1 (cK .i64) g17.1.1.1 g17.1.1.2.1 g17.1.1.2.2 g17.1.2 x16.1.Domains, oSS 22 2 1 (cK .i64) g17.2.1.1 g17.2.1.2.1 g17.2.1.2.2 g17.2.2 x16.1.Apart, oBlk b11 [(pEq (.slice g8.1.1.1 g8.1.1.2.1 g8.1.1.2.2)), (pEq (.slice g8.2.1.1 g8.2.1.2.1 g8.2.1.2.2))]]) (fun h => SatO.rest h) ?_
                  refine Ct.re (Ω2 := [oSS 22 2 1 (cK .i64) g8.2.1.1 g8.2.1.2.1 g8.2.1.2.2 g8.2.2 x30.2.2, oBlk b20 [(pEq (.slice g17.1.1.1 g17.1.1.2.1 g17.1.1.2.2)), (pEq (.slice g17.2.1.1 g17.2.1.2.1 g17.2.1.2.2))], oSS 22 2 1 (cK .i64) g17.1.1.1 g17.1.1.2.1 g17.1.1.2.2 g17.1.2 x16.1.Domains, oSS 22 2 1 (cK .i64) g17.2.1.1 g17.2.1.2.1 g17.2.1.2.2 g17.2.2 x16.1.Apart, oBlk b11 [(pEq (.slice g8.1.1.1 g8.1.1.2.1 g8.1.1.2.2)), (pEq (.slice g8.2.1.1 g8.2.1.2.1 g8.2.1.2.2))]]) (fun h => SatO.rest h) ?_
                  refine Ct.re (Ω2 := [oBlk b20 [(pEq (.slice g17.1.1.1 g17.1.1.2.1 g17.1.1.2.2)), (pEq (.slice g17.2.1.1 g17.2.1.2.1 g17.2.1.2.2))], oSS 22 2 1 (cK .i64) g17.1.1.1 g17.1.1.2.1 g17.1.1.2.2 g17.1.2 x16.1.Domains, oSS 22 2 1 (cK .i64) g17.2.1.1 g17.2.1.2.1 g17.2.1.2.2 g17.2.2 x16.1.Apart, oBlk b11 [(pEq (.slice g8.1.1.1 g8.1.1.2.1 g8.1.1.2.2)), (pEq (.slice g8.2.1.1 g8.2.1.2.1 g8.2.1.2.2))]]) (fun h => SatO.rest h) ?_
                  refine Ct.re (Ω2 := [oBlk b11 [(pEq (.slice g8.1.1.1 g8.1.1.2.1 g8.1.1.2.2)), (pEq (.slice g8.2.1.1 g8.2.1.2.1 g8.2.1.2.2))], oBlk b20 [(pEq (.slice g17.1.1.1 g17.1.1.2.1 g17.1.1.2.2)), (pEq (.slice g17.2.1.1 g17.2.1.2.1 g17.2.1.2.2))], oSS 22 2 1 (cK .i64) g17.1.1.1 g17.1.1.2.1 g17.1.1.2.2 g17.1.2 x16.1.Domains, oSS 22 2 1 (cK .i64) g17.2.1.1 g17.2.1.2.1 g17.2.1.2.2 g17.2.2 x16.1.Apart]) (fun h => SatO.pick 3 h) ?_
                  refine Ct.re (Ω2 := [oBlk b20 [(pEq (.slice g17.1.1.1 g17.1.1.2.1 g17.1.1.2.2)), (pEq (.slice g17.2.1.1 g17.2.1.2.1 g17.2.1.2.2))], oSS 22 2 1 (cK .i64) g17.1.1.1 g17.1.1.2.1 g17.1.1.2.2 g17.1.2 x16.1.Domains, oSS 22 2 1 (cK .i64) g17.2.1.1 g17.2.1.2.1 g17.2.1.2.2 g17.2.2 x16.1.Apart]) (fun h => SatO.rest h) ?_
                  replace h := Option.some.inj h; subst h
                  exact Ct.mid () rfl ⟨rfl, rfl, rfl, rfl, rfl, rfl, trivial⟩
                · replace h := bif_f hc35 h
                  refine RegL.pureGW (p := (pAgg [(pEq (.slice g17.1.1.1 g17.1.1.2.1 g17.1.1.2.2)), (pEq (.slice g17.2.1.1 g17.2.1.2.1 g17.2.1.2.2))])) rfl rfl rfl hc35 rfl rfl (W_loadA (i := 3) rfl Try.isAgg32 sz32 (Opd.tmp rfl) rfl rfl) ?_
                  refine RegL.pureG (p := (pAgg (cGProblem x4.1))) rfl rfl rfl hc35 rfl rfl (J_loadA rfl Try.isAgg32 sz32 (Opd.tmp rfl) rfl) ?_
                  replace h := bind_some h; obtain ⟨x36, hx36, h⟩ := h
                  refine RegL.pureGW (p := (pEq (.bool x36))) rfl rfl rfl hc35 rfl rfl (W_call rfl Try.call23 (c_laws_eqProblem hx36) (OpdsA.cons (OpdA.conv rfl (Conv.agg (Convs.cons (Conv.nest 4 (fun _ => rfl) rfl) (Convs.cons (Conv.nest 5 (fun _ => rfl) rfl) Convs.nil)))) (OpdsA.cons (OpdA.of (Opd.tmp rfl)) OpdsA.nil)) FreeP.eq) ?_
                  refine RegL.pureG (p := (pEq (.bool (!x36)))) rfl rfl rfl hc35 rfl rfl (J_not rfl (Opd.tmp rfl)) ?_
                  refine RegL.pure (p := (pEq (.bool (!x36)))) rfl rfl rfl (J_pick rfl (Opd.tmp rfl) (fun hf => absurd (hc35.symm.trans hf) (by decide)) (fun _ => (Opd.tmp rfl))) ?_
                  refine RegL.pure (p := (pEq (.bool (!x36)))) rfl rfl rfl (J_move rfl (Opd.tmp rfl)) ?_
                  rcases Bool.eq_false_or_eq_true (!x36) with hc37 | hc37
                  · replace h := bif_t hc37 h
                    refine RegL.skipG rfl rfl rfl hc37 rfl rfl ?_
                    refine RegL.skipG rfl rfl rfl hc37 rfl rfl ?_
                    refine RegL.skipG rfl rfl rfl hc37 rfl rfl ?_
                    refine RegL.pure (p := (pEq (.bool true))) rfl rfl rfl (J_pick rfl (Opd.tmp rfl) (fun _ => Opd.con) (fun hf => absurd (hc37.symm.trans hf) (by decide))) ?_
                    refine RegL.nil ?_
                    refine Ct.re (Ω2 := [oSS 22 2 1 (cK .i64) g8.1.1.1 g8.1.1.2.1 g8.1.1.2.2 g8.1.2 x30.2.1, oSS 22 2 1 (cK .i64) g8.2.1.1 g8.2.1.2.1 g8.2.1.2.2 g8.2.2 x30.2.2, oBlk b20 [(pEq (.slice g17.1.1.1 g17.1.1.2.1 g17.1.1.2.2)), (pEq (.slice g17.2.1.1 g17.2.1.2.1 g17.2.1.2.2))], oSS 22 2 1 (cK .i64) g17.1.1.1 g17.1.1.2.1 g17.1.1.2.2 g17.1.2 x16.1.Domains, oSS 22 2 1 (cK .i64) g17.2.1.1 g17.2.1.2.1 g17.2.1.2.2 g17.2.2 x16.1.Apart, oBlk b11 [(pEq (.slice g8.1.1.1 g8.1.1.2.1 g8.1.1.2.2)), (pEq (.slice g8.2.1.1 g8.2.1.2.1 g8.2.1.2.2))]]) (fun h => SatO.rest h) ?_
                    refine Ct.re (Ω2 := [oSS 22 2 1 (cK .i64) g8.2.1.1 g8.2.1.2.1 g8.2.1.2.2 g8.2.2 x30.2.2, oBlk b20 [(pEq (.slice g17.1.1.1 g17.1.1.2.1 g17.1.1.2.2)), (pEq (.slice g17.2.1.1 g17.2.1.2.1 g17.2.1.2.2))], oSS 22 2 1 (cK .i64) g17.1.1.1 g17.1.1.2.1 g17.1.1.2.2 g17.1.2 x16.1.Domains, oSS 22 2 1 (cK .i64) g17.2.1.1 g17.2.1.2.1 g17.2.1.2.2 g17.2.2 x16.1.Apart, oBlk b11 [(pEq (.slice g8.1.1.1 g8.1.1.2.1 g8.1.1.2.2)), (pEq (.slice g8.2.1.1 g8.2.1.2.1 g8.2.1.2.2))]]) (fun h => SatO.rest h) ?_
                    refine Ct.re (Ω2 := [oBlk b20 [(pEq (.slice g17.1.1.1 g17.1.1.2.1 g17.1.1.2.2)), (pEq (.slice g17.2.1.1 g17.2.1.2.1 g17.2.1.2.2))], oSS 22 2 1 (cK .i64) g17.1.1.1 g17.1.1.2.1 g17.1.1.2.2 g17.1.2 x16.1.Domains, oSS 22 2 1 (cK .i64) g17.2.1.1 g17.2.1.2.1 g17.2.1.2.2 g17.2.2 x16.1.Apart, oBlk b11 [(pEq (.slice g8.1.1.1 g8.1.1.2.1 g8.1.1.2.2)), (pEq (.slice g8.2.1.1 g8.2.1.2.1 g8.2.1.2.2))]]) (fun h => SatO.rest h) ?_
                    refine Ct.re (Ω2 := [oBlk b11 [(pEq (.slice g8.1.1.1 g8.1.1.2.1 g8.1.1.2.2)), (pEq (.slice g8.2.1.1 g8.2.1.2.1 g8.2.1.2.2))], oBlk b20 [(pEq (.slice g17.1.1.1 g17.1.1.2.1 g17.1.1.2.2)), (pEq (.slice g17.2.1.1 g17.2.1.2.1 g17.2.1.2.2))], oSS 22 2 1 (cK .i64) g17.1.1.1 g17.1.1.2.1 g17.1.1.2.2 g17.1.2 x16.1.Domains, oSS 22 2 1 (cK .i64) g17.2.1.1 g17.2.1.2.1 g17.2.1.2.2 g17.2.2 x16.1.Apart]) (fun h => SatO.pick 3 h) ?_
                    refine Ct.re (Ω2 := [oBlk b20 [(pEq (.slice g17.1.1.1 g17.1.1.2.1 g17.1.1.2.2)), (pEq (.slice g17.2.1.1 g17.2.1.2.1 g17.2.1.2.2))], oSS 22 2 1 (cK .i64) g17.1.1.1 g17.1.1.2.1 g17.1.1.2.2 g17.1.2 x16.1.Domains, oSS 22 2 1 (cK .i64) g17.2.1.1 g17.2.1.2.1 g17.2.1.2.2 g17.2.2 x16.1.Apart]) (fun h => SatO.rest h) ?_
                    replace h := Option.some.inj h; subst h
                    exact Ct.mid () rfl ⟨rfl, rfl, rfl, rfl, rfl, rfl, trivial⟩
                  · replace h := bif_f hc37 h
                    refine RegL.pureG (p := (pEq (.int .i64 x16.2))) rfl rfl rfl hc37 rfl rfl (J_move rfl (Opd.tmp rfl)) ?_
                    refine RegL.pureG (p := (pEq (.int .i64 x4.2))) rfl rfl rfl hc37 rfl rfl (J_move rfl (Opd.tmp rfl)) ?_
                    refine RegL.pureG (p := (pEq (.bool (x16.2 != x4.2)))) rfl rfl rfl hc37 rfl rfl (J_bin rfl (Opd.tmp rfl) (Opd.tmp rfl) B_neq) ?_
                    refine RegL.pure (p := (pEq (.bool (x16.2 != x4.2)))) rfl rfl rfl (J_pick rfl (Opd.tmp rfl) (fun hf => absurd (hc37.symm.trans hf) (by decide)) (fun _ => (Opd.tmp rfl))) ?_
                    refine RegL.nil ?_
                    refine Ct.re (Ω2 := [oSS 22 2 1 (cK .i64) g8.1.1.1 g8.1.1.2.1 g8.1.1.2.2 g8.1.2 x30.2.1, oSS 22 2 1 (cK .i64) g8.2.1.1 g8.2.1.2.1 g8.2.1.2.2 g8.2.2 x30.2.2, oBlk b20 [(pEq (.slice g17.1.1.1 g17.1.1.2.1 g17.1.1.2.2)), (pEq (.slice g17.2.1.1 g17.2.1.2.1 g17.2.1.2.2))], oSS 22 2 1 (cK .i64) g17.1.1.1 g17.1.1.2.1 g17.1.1.2.2 g17.1.2 x16.1.Domains, oSS 22 2 1 (cK .i64) g17.2.1.1 g17.2.1.2.1 g17.2.1.2.2 g17.2.2 x16.1.Apart, oBlk b11 [(pEq (.slice g8.1.1.1 g8.1.1.2.1 g8.1.1.2.2)), (pEq (.slice g8.2.1.1 g8.2.1.2.1 g8.2.1.2.2))]]) (fun h => SatO.rest h) ?_
                    refine Ct.re (Ω2 := [oSS 22 2 1 (cK .i64) g8.2.1.1 g8.2.1.2.1 g8.2.1.2.2 g8.2.2 x30.2.2, oBlk b20 [(pEq (.slice g17.1.1.1 g17.1.1.2.1 g17.1.1.2.2)), (pEq (.slice g17.2.1.1 g17.2.1.2.1 g17.2.1.2.2))], oSS 22 2 1 (cK .i64) g17.1.1.1 g17.1.1.2.1 g17.1.1.2.2 g17.1.2 x16.1.Domains, oSS 22 2 1 (cK .i64) g17.2.1.1 g17.2.1.2.1 g17.2.1.2.2 g17.2.2 x16.1.Apart, oBlk b11 [(pEq (.slice g8.1.1.1 g8.1.1.2.1 g8.1.1.2.2)), (pEq (.slice g8.2.1.1 g8.2.1.2.1 g8.2.1.2.2))]]) (fun h => SatO.rest h) ?_
                    refine Ct.re (Ω2 := [oBlk b20 [(pEq (.slice g17.1.1.1 g17.1.1.2.1 g17.1.1.2.2)), (pEq (.slice g17.2.1.1 g17.2.1.2.1 g17.2.1.2.2))], oSS 22 2 1 (cK .i64) g17.1.1.1 g17.1.1.2.1 g17.1.1.2.2 g17.1.2 x16.1.Domains, oSS 22 2 1 (cK .i64) g17.2.1.1 g17.2.1.2.1 g17.2.1.2.2 g17.2.2 x16.1.Apart, oBlk b11 [(pEq (.slice g8.1.1.1 g8.1.1.2.1 g8.1.1.2.2)), (pEq (.slice g8.2.1.1 g8.2.1.2.1 g8.2.1.2.2))]]) (fun h => SatO.rest h) ?_
                    refine Ct.re (Ω2 := [oBlk b11 [(pEq (.slice g8.1.1.1 g8.1.1.2.1 g8.1.1.2.2)), (pEq (.slice g8.2.1.1 g8.2.1.2.1 g8.2.1.2.2))], oBlk b20 [(pEq (.slice g17.1.1.1 g17.1.1.2.1 g17.1.1.2.2)), (pEq (.slice g17.2.1.1 g17.2.1.2.1 g17.2.1.2.2))], oSS 22 2 1 (cK .i64) g17.1.1.1 g17.1.1.2.1 g17.1.1.2.2 g17.1.2 x16.1.Domains, oSS 22 2 1 (cK .i64) g17.2.1.1 g17.2.1.2.1 g17.2.1.2.2 g17.2.2 x16.1.Apart]) (fun h => SatO.pick 3 h) ?_
                    refine Ct.re (Ω2 := [oBlk b20 [(pEq (.slice g17.1.1.1 g17.1.1.2.1 g17.1.1.2.2)), (pEq (.slice g17.2.1.1 g17.2.1.2.1 g17.2.1.2.2))], oSS 22 2 1 (cK .i64) g17.1.1.1 g17.1.1.2.1 g17.1.1.2.2 g17.1.2 x16.1.Domains, oSS 22 2 1 (cK .i64) g17.2.1.1 g17.2.1.2.1 g17.2.1.2.2 g17.2.2 x16.1.Apart]) (fun h => SatO.rest h) ?_
                    replace h := Option.some.inj h; subst h
                    exact Ct.mid () rfl ⟨rfl, rfl, rfl, rfl, rfl, rfl, trivial⟩
              · clear hx34
                refine Ct.then_tr ?_
                refine Tr.weak (Γ' := [(1, (pSl 1 (cK .i64) a_1)), (2, (pPtr (cGProblem a_0))), (6, (pPtr (cGProblem x4.1))), (7, (pEq (.int .i64 x4.2))), (10, (pEq (.pointer (some ⟨b20, 0, none⟩)))), (80, (pEq (.bool x34)))]) ⟨rfl, rfl, rfl, rfl, rfl, rfl, trivial⟩ ?_
                refine Tr.cond (Opd.tmp rfl) (fun hc => ?_) (fun hc => ?_)
                · replace h := bif_t hc h
                  refine Tr.seq ?_
                  refine Tr.region ?_
                  refine RegL.pure (p := (pEq (.bool false))) rfl rfl rfl (J_assign rfl Opd.con) ?_
                  refine RegL.nil ?_
                  refine Ct.then_tr ?_
                  refine Tr.weak (Γ' := [(4, (pEq (.bool false)))]) ⟨rfl, trivial⟩ ?_
                  refine Tr.ret ?_
                  refine Ct.then_ret ?_
                  replace h := Option.some.inj h; subst h
                  exact Ct.retH1 (Ωx := [oBlk b20 [(pEq (.slice g17.1.1.1 g17.1.1.2.1 g17.1.1.2.2)), (pEq (.slice g17.2.1.1 g17.2.1.2.1 g17.2.1.2.2))], oSS 22 2 1 (cK .i64) g17.1.1.1 g17.1.1.2.1 g17.1.1.2.2 g17.1.2 x16.1.Domains, oSS 22 2 1 (cK .i64) g17.2.1.1 g17.2.1.2.1 g17.2.1.2.2 g17.2.2 x16.1.Apart]) () rfl (RvOk.tmp rfl) rfl
                · replace h := bif_f hc h
                  refine Tr.skip ?_
                  refine Ct.then_tr ?_
                  refine Tr.weak (Γ' := [(1, (pSl 1 (cK .i64) a_1)), (2, (pPtr (cGProblem a_0))), (6, (pPtr (cGProblem x4.1))), (7, (pEq (.int .i64 x4.2))), (10, (pEq (.pointer (some ⟨b20, 0, none⟩))))]) ⟨rfl, rfl, rfl, rfl, rfl, trivial⟩ ?_
                  refine Tr.seq ?_
                  refine Tr.region ?_
                  refine RegL.pure (p := (pEq (.int .i64 (1 : Int)))) rfl rfl rfl (J_assign rfl Opd.con) ?_
                  refine RegL.nil ?_
                  refine Ct.then_tr ?_
                  refine Tr.weak (Γ' := [(1, (pSl 1 (cK .i64) a_1)), (2, (pPtr (cGProblem a_0))), (6, (pPtr (cGProblem x4.1))), (7, (pEq (.int .i64 x4.2))), (10, (pEq (.pointer (some ⟨b20, 0, none⟩)))), (13, (pEq (.int .i64 (1 : Int))))]) ⟨rfl, rfl, rfl, rfl, rfl, rfl, trivial⟩ ?_
                  refine Tr.seq ?_
                  refine Tr.region ?_
                  refine RegL.pureW (p := (pAgg [(pEq (.slice g17.1.1.1 g17.1.1.2.1 g17.1.1.2.2)), (pEq (.slice g17.2.1.1 g17.2.1.2.1 g17.2.1.2.2))])) rfl rfl rfl (W_loadA (i := 0) rfl Try.isAgg32 sz32 (Opd.tmp rfl) rfl rfl) ?_
                  refine RegL.pure (p := (pEq (.int .i64 (1 : Int)))) rfl rfl rfl (J_move rfl (Opd.tmp rfl)) ?_
                  replace h := bind_some h; obtain ⟨x39, hx39, h⟩ := h
                  refine RegL.re (Ω2 := [oSS 22 2 1 (cK .i64) g17.2.1.1 g17.2.1.2.1 g17.2.1.2.2 g17.2.2 x16.1.Apart, oBlk b20 [(pEq (.slice g17.1.1.1 g17.1.1.2.1 g17.1.1.2.2)), (pEq (.slice g17.2.1.1 g17.2.1.2.1 g17.2.1.2.2))], oSS 22 2 1 (cK .i64) g17.1.1.1 g17.1.1.2.1 g17.1.1.2.2 g17.1.2 x16.1.Domains]) (fun h => SatO.pick 2 h) ?_
                  refine RegL.re (Ω2 := [oSS 22 2 1 (cK .i64) g17.1.1.1 g17.1.1.2.1 g17.1.1.2.2 g17.1.2 x16.1.Domains, oSS 22 2 1 (cK .i64) g17.2.1.1 g17.2.1.2.1 g17.2.1.2.2 g17.2.2 x16.1.Apart, oBlk b20 [(pEq (.slice g17.1.1.1 g17.1.1.2.1 g17.1.1.2.2)), (pEq (.slice g17.2.1.1 g17.2.1.2.1 g17.2.1.2.2))]]) (fun h => SatO.pick 2 h) ?_
                  refine RegL.step (γ := Unit) (p := fun g => (pEq (.int .i64 x39.1))) (Ω' := fun g => [oSS 22 2 1 (cK .i64) g17.1.1.1 g17.1.1.2.1 g17.1.1.2.2 g17.1.2 x39.2.1, oSS 22 2 1 (cK .i64) g17.2.1.1 g17.2.1.2.1 g17.2.1.2.2 g17.2.2 x39.2.2, oBlk b20 [(pEq (.slice g17.1.1.1 g17.1.1.2.1 g17.1.1.2.2)), (pEq (.slice g17.2.1.1 g17.2.1.2.1 g17.2.1.2.2))]]) rfl rfl rfl (M_callH (Ωi := [oSS 22 2 1 (cK .i64) g17.1.1.1 g17.1.1.2.1 g17.1.1.2.2 g17.1.2 x16.1.Domains, oSS 22 2 1 (cK .i64) g17.2.1.1 g17.2.1.2.1 g17.2.1.2.2 g17.2.2 x16.1.Apart]) rfl Try.call34 (o_laws_markProblem hx39) (Opds.cons (Opd.tmp rfl) (Opds.cons (Opd.tmp rfl) Opds.nil))) fun g40 => ?_
                  refine RegL.pure (p := (pEq (.int .i64 x39.1))) rfl rfl rfl (J_assign rfl (Opd.tmp rfl)) ?_
                  refine RegL.nil ?_
                  refine Ct.then_tr ?_
                  refine Tr.weak (Γ' := [(1, (pSl 1 (cK .i64) a_1)), (2, (pPtr (cGProblem a_0))), (6, (pPtr (cGProblem x4.1))), (7, (pEq (.int .i64 x4.2))), (10, (pEq (.pointer (some ⟨b20, 0, none⟩)))), (13, (pEq (.int .i64 x39.1)))]) ⟨rfl, rfl, rfl, rfl, rfl, rfl, trivial⟩ ?_
                  refine Tr.seq ?_
                  refine Tr.region ?_
                  refine RegL.pure (p := (pEq (.int .i64 (1 : Int)))) rfl rfl rfl (J_assign rfl Opd.con) ?_
                  refine RegL.nil ?_
                  refine Ct.then_tr ?_
                  refine Tr.weak (Γ' := [(1, (pSl 1 (cK .i64) a_1)), (2, (pPtr (cGProblem a_0))), (6, (pPtr (cGProblem x4.1))), (7, (pEq (.int .i64 x4.2))), (10, (pEq (.pointer (some ⟨b20, 0, none⟩)))), (13, (pEq (.int .i64 x39.1))), (14, (pEq (.int .i64 (1 : Int))))]) ⟨rfl, rfl, rfl, rfl, rfl, rfl, rfl, trivial⟩ ?_
                  refine Tr.seq ?_
                  refine Tr.region ?_
                  refine RegL.pureW (p := (pAgg [(pEq (.slice g17.1.1.1 g17.1.1.2.1 g17.1.1.2.2)), (pEq (.slice g17.2.1.1 g17.2.1.2.1 g17.2.1.2.2))])) rfl rfl rfl (W_loadA (i := 2) rfl Try.isAgg32 sz32 (Opd.tmp rfl) rfl rfl) ?_
                  refine RegL.pure (p := (pEq (.int .i64 (1 : Int)))) rfl rfl rfl (J_move rfl (Opd.tmp rfl)) ?_
                  replace h := bind_some h; obtain ⟨x41, hx41, h⟩ := h
                  refine RegL.pureW (p := (pEq (.int .i64 x41))) rfl rfl rfl (W_call rfl Try.call35 (c_laws_heldProblem hx41) (OpdsA.cons (OpdA.conv rfl (Conv.agg (Convs.cons (Conv.nest 0 (fun _ => rfl) rfl) (Convs.cons (Conv.nest 1 (fun _ => rfl) rfl) Convs.nil)))) (OpdsA.cons (OpdA.of (Opd.tmp rfl)) OpdsA.nil)) FreeP.eq) ?_
                  refine RegL.pure (p := (pEq (.int .i64 x41))) rfl rfl rfl (J_assign rfl (Opd.tmp rfl)) ?_
                  refine RegL.nil ?_
                  refine Ct.then_tr ?_
                  refine Tr.weak (Γ' := [(1, (pSl 1 (cK .i64) a_1)), (2, (pPtr (cGProblem a_0))), (6, (pPtr (cGProblem x4.1))), (7, (pEq (.int .i64 x4.2))), (10, (pEq (.pointer (some ⟨b20, 0, none⟩)))), (13, (pEq (.int .i64 x39.1))), (14, (pEq (.int .i64 x41)))]) ⟨rfl, rfl, rfl, rfl, rfl, rfl, rfl, trivial⟩ ?_
                  refine Tr.seq ?_
                  refine Tr.seq ?_
                  refine Tr.region ?_
                  refine RegL.pure (p := (pEq (.int .i64 x41))) rfl rfl rfl (J_move rfl (Opd.tmp rfl)) ?_
                  refine RegL.pure (p := (pEq (.bool (decide (x41 < (0 : Int)))))) rfl rfl rfl (J_bin rfl (Opd.tmp rfl) Opd.con B_lss) ?_
                  refine RegL.nil ?_
                  refine Ct.then_tr ?_
                  refine Tr.weak (Γ' := [(1, (pSl 1 (cK .i64) a_1)), (2, (pPtr (cGProblem a_0))), (6, (pPtr (cGProblem x4.1))), (7, (pEq (.int .i64 x4.2))), (10, (pEq (.pointer (some ⟨b20, 0, none⟩)))), (13, (pEq (.int .i64 x39.1))), (14, (pEq (.int .i64 x41))), (88, (pEq (.bool (decide (x41 < (0 : Int))))))]) ⟨rfl, rfl, rfl, rfl, rfl, rfl, rfl, rfl, trivial⟩ ?_
                  refine Tr.cond (Opd.tmp rfl) (fun hc => ?_) (fun hc => ?_)
                  · replace h := bif_t hc h
                    refine Tr.seq ?_
                    refine Tr.region ?_
                    refine RegL.pure (p := (pEq (.bool false))) rfl rfl rfl (J_assign rfl Opd.con) ?_
                    refine RegL.nil ?_
                    refine Ct.then_tr ?_
                    refine Tr.weak (Γ' := [(4, (pEq (.bool false)))]) ⟨rfl, trivial⟩ ?_
                    refine Tr.ret ?_
                    refine Ct.then_ret ?_
                    replace h := Option.some.inj h; subst h
                    exact Ct.retH1 (Ωx := [oSS 22 2 1 (cK .i64) g17.1.1.1 g17.1.1.2.1 g17.1.1.2.2 g17.1.2 x39.2.1, oSS 22 2 1 (cK .i64) g17.2.1.1 g17.2.1.2.1 g17.2.1.2.2 g17.2.2 x39.2.2, oBlk b20 [(pEq (.slice g17.1.1.1 g17.1.1.2.1 g17.1.1.2.2)), (pEq (.slice g17.2.1.1 g17.2.1.2.1 g17.2.1.2.2))]]) () rfl (RvOk.tmp rfl) rfl
                  · replace h := bif_f hc h
                    refine Tr.skip ?_
                    refine Ct.then_tr ?_
                    refine Tr.weak (Γ' := [(1, (pSl 1 (cK .i64) a_1)), (2, (pPtr (cGProblem a_0))), (6, (pPtr (cGProblem x4.1))), (7, (pEq (.int .i64 x4.2))), (10, (pEq (.pointer (some ⟨b20, 0, none⟩)))), (13, (pEq (.int .i64 x39.1))), (14, (pEq (.int .i64 x41)))]) ⟨rfl, rfl, rfl, rfl, rfl, rfl, rfl, trivial⟩ ?_
                    refine Tr.seq ?_
                    refine Tr.seq ?_
                    refine Tr.region ?_
                    refine RegL.pure (p := (pEq (.int .i64 x41))) rfl rfl rfl (J_move rfl (Opd.tmp rfl)) ?_
                    refine RegL.pure (p := (pEq (.int .i64 x39.1))) rfl rfl rfl (J_move rfl (Opd.tmp rfl)) ?_
                    refine RegL.pure (p := (pEq (.bool (x41 != x39.1)))) rfl rfl rfl (J_bin rfl (Opd.tmp rfl) (Opd.tmp rfl) B_neq) ?_
                    refine RegL.nil ?_
                    refine Ct.then_tr ?_
                    refine Tr.weak (Γ' := [(1, (pSl 1 (cK .i64) a_1)), (2, (pPtr (cGProblem a_0))), (6, (pPtr (cGProblem x4.1))), (7, (pEq (.int .i64 x4.2))), (10, (pEq (.pointer (some ⟨b20, 0, none⟩)))), (13, (pEq (.int .i64 x39.1))), (91, (pEq (.bool (x41 != x39.1))))]) ⟨rfl, rfl, rfl, rfl, rfl, rfl, rfl, trivial⟩ ?_
                    refine Tr.cond (Opd.tmp rfl) (fun hc => ?_) (fun hc => ?_)
                    · replace h := bif_t hc h
                      refine Tr.seq ?_
                      refine Tr.region ?_
                      refine RegL.pure (p := (pEq (.bool false))) rfl rfl rfl (J_assign rfl Opd.con) ?_
                      refine RegL.nil ?_
                      refine Ct.then_tr ?_
                      refine Tr.weak (Γ' := [(4, (pEq (.bool false)))]) ⟨rfl, trivial⟩ ?_
                      refine Tr.ret ?_
                      refine Ct.then_ret ?_
                      replace h := Option.some.inj h; subst h
                      exact Ct.retH1 (Ωx := [oSS 22 2 1 (cK .i64) g17.1.1.1 g17.1.1.2.1 g17.1.1.2.2 g17.1.2 x39.2.1, oSS 22 2 1 (cK .i64) g17.2.1.1 g17.2.1.2.1 g17.2.1.2.2 g17.2.2 x39.2.2, oBlk b20 [(pEq (.slice g17.1.1.1 g17.1.1.2.1 g17.1.1.2.2)), (pEq (.slice g17.2.1.1 g17.2.1.2.1 g17.2.1.2.2))]]) () rfl (RvOk.tmp rfl) rfl
                    · replace h := bif_f hc h
                      refine Tr.skip ?_
                      refine Ct.then_tr ?_
                      refine Tr.weak (Γ' := [(1, (pSl 1 (cK .i64) a_1)), (2, (pPtr (cGProblem a_0))), (6, (pPtr (cGProblem x4.1))), (7, (pEq (.int .i64 x4.2))), (10, (pEq (.pointer (some ⟨b20, 0, none⟩)))), (13, (pEq (.int .i64 x39.1)))]) ⟨rfl, rfl, rfl, rfl, rfl, rfl, trivial⟩ ?_
                      refine Tr.seq ?_
                      refine Tr.region ?_
                      refine RegL.pure (p := (pAgg (cGProblem a_0))) rfl rfl rfl (J_loadA rfl Try.isAgg29 sz29 (Opd.tmp rfl) rfl) ?_
                      replace h := bind_some h; obtain ⟨x42, hx42, h⟩ := h
                      refine RegL.pure (p := (pAgg (cGProblem x42))) rfl rfl rfl (J_call rfl Try.call21 (c_laws_toProblem hx42) (Opds.cons (Opd.tmp rfl) Opds.nil)) ?_
                      refine RegL.pure (p := (pSl 1 (cK .i64) a_1)) rfl rfl rfl (J_move rfl (Opd.tmp rfl)) ?_
                      replace h := bind_some h; obtain ⟨x43, hx43, h⟩ := h
                      refine RegL.pure (p := (pSl 1 (cK .i64) x43)) rfl rfl rfl (J_call rfl Try.call16 (c_laws_toInt64S hx43) (Opds.cons (Opd.tmp rfl) Opds.nil)) ?_
                      replace h := bind_some h; obtain ⟨x44, hx44, h⟩ := h
                      refine RegL.pure (p := (pTup [(pAgg (cGProblem x44.1)), (pEq (.int .i64 x44.2))])) rfl rfl rfl (J_call rfl Try.call37 (c_impl_PartProblem hx44) (Opds.cons (Opd.tmp rfl) (Opds.cons (Opd.tmp rfl) Opds.nil))) ?_
                      refine RegL.pure (p := (pTup [(pAgg (cGProblem x44.1)), (pEq (.int .i64 x44.2))])) rfl rfl rfl (J_move rfl (Opd.tmp rfl)) ?_
                      refine RegL.pure (p := (pAgg (cGProblem x44.1))) rfl rfl rfl (J_extract rfl (Opd.tmp rfl) rfl) ?_
                      refine RegL.pure (p := (pEq (.int .i64 x44.2))) rfl rfl rfl (J_extract rfl (Opd.tmp rfl) rfl) ?_
                      refine RegL.step (γ := Nat) (p := fun b => pEq (.pointer (some ⟨b, 0, none⟩))) (Ω' := fun b => [oBlk b [(pEq (.slice none 0 0)), (pEq (.slice none 0 0))], oSS 22 2 1 (cK .i64) g17.1.1.1 g17.1.1.2.1 g17.1.1.2.2 g17.1.2 x39.2.1, oSS 22 2 1 (cK .i64) g17.2.1.1 g17.2.1.2.1 g17.2.1.2.2 g17.2.2 x39.2.2, oBlk b20 [(pEq (.slice g17.1.1.1 g17.1.1.2.1 g17.1.1.2.2)), (pEq (.slice g17.2.1.1 g17.2.1.2.1 g17.2.1.2.2))]]) rfl rfl rfl (M_alloc rfl zero32) fun b45 => ?_
                      refine RegL.stepN (γ := Unit) (p := fun _ => pAny) (Ω' := fun _ => [oBlk b45 [(pSl 1 (cSl 1 (cK .i64)) x44.1.Domains), (pSl 1 (cSl 1 (cK .i64)) x44.1.Apart)], oSS 22 2 1 (cK .i64) g17.1.1.1 g17.1.1.2.1 g17.1.1.2.2 g17.1.2 x39.2.1, oSS 22 2 1 (cK .i64) g17.2.1.1 g17.2.1.2.1 g17.2.1.2.2 g17.2.2 x39.2.2, oBlk b20 [(pEq (.slice g17.1.1.1 g17.1.1.2.1 g17.1.1.2.2)), (pEq (.slice g17.2.1.1 g17.2.1.2.1 g17.2.1.2.2))]]) rfl rfl (M_storeA rfl sz32 (Opd.tmp rfl) (Opd.tmp rfl) (fun _ _ _ h => ones_of ((OneCs.cons OneC.sl (OneCs.cons OneC.sl OneCs.nil))) h) rfl rfl) fun g46 => ?_
                      refine RegL.freeze (s := 15) rfl ?_
                      refine RegL.pure (p := (pEq (.int .i64 x44.2))) rfl rfl rfl (J_assign rfl (Opd.tmp rfl)) ?_
                      refine RegL.nil ?_
                      refine Ct.then_tr ?_
                      refine Tr.weak (Γ' := [(6, (pPtr (cGProblem x4.1))), (7, (pEq (.int .i64 x4.2))), (10, (pEq (.pointer (some ⟨b20, 0, none⟩)))), (13, (pEq (.int .i64 x39.1))), (15, (pPtr (cGProblem x44.1))), (16, (pEq (.int .i64 x44.2)))]) ⟨rfl, rfl, rfl, rfl, rfl, rfl, trivial⟩ ?_
                      refine Tr.seq ?_
                      refine Tr.seq ?_
                      replace h := bind_some h; obtain ⟨x47, hx47, h⟩ := h
                      refine Tr.cut (γ := Unit) (Γm := fun g => [(10, (pEq (.pointer (some ⟨b20, 0, none⟩)))), (13, (pEq (.int .i64 x39.1))), (108, (pEq (.bool x47)))]) (Ωm := fun g => [oSS 22 2 1 (cK .i64) g17.1.1.1 g17.1.1.2.1 g17.1.1.2.2 g17.1.2 x39.2.1, oSS 22 2 1 (cK .i64) g17.2.1.1 g17.2.1.2.1 g17.2.1.2.2 g17.2.2 x39.2.2, oBlk b20 [(pEq (.slice g17.1.1.1 g17.1.1.2.1 g17.1.1.2.2)), (pEq (.slice g17.2.1.1 g17.2.1.2.1 g17.2.1.2.2))]]) ?_ (fun g50 => ?_)
                      · clear h
                        have h := hx47
                        clear hx47
                        refine Tr.region ?_
                        refine RegL.pure (p := (pAgg (cGProblem x44.1))) rfl rfl rfl (J_loadA rfl Try.isAgg32 sz32 (Opd.tmp rfl) rfl) ?_
                        refine RegL.pure (p := (pAgg (cGProblem x4.1))) rfl rfl rfl (J_loadA rfl Try.isAgg32 sz32 (Opd.tmp rfl) rfl) ?_
                        replace h := bind_some h; obtain ⟨x48, hx48, h⟩ := h
                        refine RegL.pure (p := (pEq (.bool x48))) rfl rfl rfl (J_call rfl Try.call23 (c_laws_eqProblem hx48) (Opds.cons (Opd.tmp rfl) (Opds.cons (Opd.tmp rfl) Opds.nil))) ?_
                        refine RegL.pure (p := (pEq (.bool (!x48)))) rfl rfl rfl (J_not rfl (Opd.tmp rfl)) ?_
                        refine RegL.pure (p := (pEq (.bool (!x48)))) rfl rfl rfl (J_move rfl (Opd.tmp rfl)) ?_
                        rcases Bool.eq_false_or_eq_true (!x48) with hc49 | hc49
                        · replace h := bif_t hc49 h
                          refine RegL.skipG rfl rfl rfl hc49 rfl rfl ?_
                          refine RegL.skipG rfl rfl rfl hc49 rfl rfl ?_
                          refine RegL.skipG rfl rfl rfl hc49 rfl rfl ?_
                          refine RegL.pure (p := (pEq (.bool true))) rfl rfl rfl (J_pick rfl (Opd.tmp rfl) (fun _ => Opd.con) (fun hf => absurd (hc49.symm.trans hf) (by decide))) ?_
                          refine RegL.nil ?_
                          replace h := Option.some.inj h; subst h
                          exact Ct.mid () rfl ⟨rfl, rfl, rfl, trivial⟩
                        · replace h := bif_f hc49 h
                          refine RegL.pureG (p := (pEq (.int .i64 x44.2))) rfl rfl rfl hc49 rfl rfl (J_move rfl (Opd.tmp rfl)) ?_
                          refine RegL.pureG (p := (pEq (.int .i64 x4.2))) rfl rfl rfl hc49 rfl rfl (J_move rfl (Opd.tmp rfl)) ?_
                          refine RegL.pureG (p := (pEq (.bool (x44.2 != x4.2)))) rfl rfl rfl hc49 rfl rfl (J_bin rfl (Opd.tmp rfl) (Opd.tmp rfl) B_neq) ?_
                          refine RegL.pure (p := (pEq (.bool (x44.2 != x4.2)))) rfl rfl rfl (J_pick rfl (Opd.tmp rfl) (fun hf => absurd (hc49.symm.trans hf) (by decide)) (fun _ => (Opd.tmp rfl))) ?_
                          refine RegL.nil ?_
                          replace h := Option.some.inj h; subst h
                          exact Ct.mid () rfl ⟨rfl, rfl, rfl, trivial⟩
                      · clear hx47
                        refine Ct.then_tr ?_
                        refine Tr.weak (Γ' := [(10, (pEq (.pointer (some ⟨b20, 0, none⟩)))), (13, (pEq (.int .i64 x39.1))), (108, (pEq (.bool x47)))]) ⟨rfl, rfl, rfl, trivial⟩ ?_
                        refine Tr.cond (Opd.tmp rfl) (fun hc => ?_) (fun hc => ?_)
                        · replace h := bif_t hc h
                          refine Tr.seq ?_
                          refine Tr.region ?_
                          refine RegL.pure (p := (pEq (.bool false))) rfl rfl rfl (J_assign rfl Opd.con) ?_
                          refine RegL.nil ?_
                          refine Ct.then_tr ?_
                          refine Tr.weak (Γ' := [(4, (pEq (.bool false)))]) ⟨rfl, trivial⟩ ?_
                          refine Tr.ret ?_
                          refine Ct.then_ret ?_
                          replace h := Option.some.inj h; subst h
                          exact Ct.retH1 (Ωx := [oSS 22 2 1 (cK .i64) g17.1.1.1 g17.1.1.2.1 g17.1.1.2.2 g17.1.2 x39.2.1, oSS 22 2 1 (cK .i64) g17.2.1.1 g17.2.1.2.1 g17.2.1.2.2 g17.2.2 x39.2.2, oBlk b20 [(pEq (.slice g17.1.1.1 g17.1.1.2.1 g17.1.1.2.2)), (pEq (.slice g17.2.1.1 g17.2.1.2.1 g17.2.1.2.2))]]) () rfl (RvOk.tmp rfl) rfl
                        · replace h := bif_f hc h
                          refine Tr.skip ?_
                          refine Ct.then_tr ?_
                          refine Tr.weak (Γ' := [(10, (pEq (.pointer (some ⟨b20, 0, none⟩)))), (13, (pEq (.int .i64 x39.1)))]) ⟨rfl, rfl, trivial⟩ ?_
                          refine Tr.seq ?_
                          refine Tr.region ?_
                          refine RegL.pure (p := (pEq (.int .i64 (1 : Int)))) rfl rfl rfl (J_assign rfl Opd.con) ?_
                          refine RegL.nil ?_
                          refine Ct.then_tr ?_
                          refine Tr.weak (Γ' := [(10, (pEq (.pointer (some ⟨b20, 0, none⟩)))), (13, (pEq (.int .i64 x39.1))), (14, (pEq (.int .i64 (1 : Int))))]) ⟨rfl, rfl, rfl, trivial⟩ ?_
                          refine Tr.seq ?_
                          refine Tr.region ?_
                          refine RegL.pureW (p := (pAgg [(pEq (.slice g17.1.1.1 g17.1.1.2.1 g17.1.1.2.2)), (pEq (.slice g17.2.1.1 g17.2.1.2.1 g17.2.1.2.2))])) rfl rfl rfl (W_loadA (i := 2) rfl Try.isAgg32 sz32 (Opd.tmp rfl) rfl rfl) ?_
                          refine RegL.pure (p := (pEq (.int .i64 (1 : Int)))) rfl rfl rfl (J_move rfl (Opd.tmp rfl)) ?_
                          replace h := bind_some h; obtain ⟨x51, hx51, h⟩ := h
                          refine RegL.pureW (p := (pEq (.int .i64 x51))) rfl rfl rfl (W_call rfl Try.call35 (c_laws_heldProblem hx51) (OpdsA.cons (OpdA.conv rfl (Conv.agg (Convs.cons (Conv.nest 0 (fun _ => rfl) rfl) (Convs.cons (Conv.nest 1 (fun _ => rfl) rfl) Convs.nil)))) (OpdsA.cons (OpdA.of (Opd.tmp rfl)) OpdsA.nil)) FreeP.eq) ?_
                          refine RegL.pure (p := (pEq (.int .i64 x51))) rfl rfl rfl (J_assign rfl (Opd.tmp rfl)) ?_
                          refine RegL.nil ?_
                          refine Ct.then_tr ?_
                          refine Tr.weak (Γ' := [(13, (pEq (.int .i64 x39.1))), (14, (pEq (.int .i64 x51)))]) ⟨rfl, rfl, trivial⟩ ?_
                          refine Tr.seq ?_
                          refine Tr.seq ?_
                          refine Tr.region ?_
                          refine RegL.pure (p := (pEq (.int .i64 x51))) rfl rfl rfl (J_move rfl (Opd.tmp rfl)) ?_
                          refine RegL.pure (p := (pEq (.bool (decide (x51 < (0 : Int)))))) rfl rfl rfl (J_bin rfl (Opd.tmp rfl) Opd.con B_lss) ?_
                          refine RegL.nil ?_
                          refine Ct.then_tr ?_
                          refine Tr.weak (Γ' := [(13, (pEq (.int .i64 x39.1))), (14, (pEq (.int .i64 x51))), (113, (pEq (.bool (decide (x51 < (0 : Int))))))]) ⟨rfl, rfl, rfl, trivial⟩ ?_
                          refine Tr.cond (Opd.tmp rfl) (fun hc => ?_) (fun hc => ?_)
                          · replace h := bif_t hc h
                            refine Tr.seq ?_
                            refine Tr.region ?_
                            refine RegL.pure (p := (pEq (.bool false))) rfl rfl rfl (J_assign rfl Opd.con) ?_
                            refine RegL.nil ?_
                            refine Ct.then_tr ?_
                            refine Tr.weak (Γ' := [(4, (pEq (.bool false)))]) ⟨rfl, trivial⟩ ?_
                            refine Tr.ret ?_
                            refine Ct.then_ret ?_
                            replace h := Option.some.inj h; subst h
                            exact Ct.retH1 (Ωx := [oSS 22 2 1 (cK .i64) g17.1.1.1 g17.1.1.2.1 g17.1.1.2.2 g17.1.2 x39.2.1, oSS 22 2 1 (cK .i64) g17.2.1.1 g17.2.1.2.1 g17.2.1.2.2 g17.2.2 x39.2.2, oBlk b20 [(pEq (.slice g17.1.1.1 g17.1.1.2.1 g17.1.1.2.2)), (pEq (.slice g17.2.1.1 g17.2.1.2.1 g17.2.1.2.2))]]) () rfl (RvOk.tmp rfl) rfl
                          · replace h := bif_f hc h
                            refine Tr.skip ?_
                            refine Ct.then_tr ?_
                            refine Tr.weak (Γ' := [(13, (pEq (.int .i64 x39.1))), (14, (pEq (.int .i64 x51)))]) ⟨rfl, rfl, trivial⟩ ?_
                            refine Tr.seq ?_
                            refine Tr.seq ?_
                            refine Tr.region ?_
                            refine RegL.pure (p := (pEq (.int .i64 x51))) rfl rfl rfl (J_move rfl (Opd.tmp rfl)) ?_
                            refine RegL.pure (p := (pEq (.int .i64 x39.1))) rfl rfl rfl (J_move rfl (Opd.tmp rfl)) ?_
                            refine RegL.pure (p := (pEq (.bool (x51 != x39.1)))) rfl rfl rfl (J_bin rfl (Opd.tmp rfl) (Opd.tmp rfl) B_neq) ?_
                            refine RegL.nil ?_
                            refine Ct.then_tr ?_
                            refine Tr.weak (Γ' := [(116, (pEq (.bool (x51 != x39.1))))]) ⟨rfl, trivial⟩ ?_
                            refine Tr.cond (Opd.tmp rfl) (fun hc => ?_) (fun hc => ?_)
                            · replace h := bif_t hc h
                              refine Tr.seq ?_
                              refine Tr.region ?_
                              refine RegL.pure (p := (pEq (.bool false))) rfl rfl rfl (J_assign rfl Opd.con) ?_
                              refine RegL.nil ?_
                              refine Ct.then_tr ?_
                              refine Tr.weak (Γ' := [(4, (pEq (.bool false)))]) ⟨rfl, trivial⟩ ?_
                              refine Tr.ret ?_
                              refine Ct.then_ret ?_
                              replace h := Option.some.inj h; subst h
                              exact Ct.retH1 (Ωx := [oSS 22 2 1 (cK .i64) g17.1.1.1 g17.1.1.2.1 g17.1.1.2.2 g17.1.2 x39.2.1, oSS 22 2 1 (cK .i64) g17.2.1.1 g17.2.1.2.1 g17.2.1.2.2 g17.2.2 x39.2.2, oBlk b20 [(pEq (.slice g17.1.1.1 g17.1.1.2.1 g17.1.1.2.2)), (pEq (.slice g17.2.1.1 g17.2.1.2.1 g17.2.1.2.2))]]) () rfl (RvOk.tmp rfl) rfl
                            · replace h := bif_f hc h
                              refine Tr.skip ?_
                              refine Ct.then_tr ?_
                              refine Tr.weak (Γ' := []) trivial ?_
                              refine Tr.seq ?_
                              refine Tr.region ?_
                              refine RegL.pure (p := (pEq (.bool true))) rfl rfl rfl (J_assign rfl Opd.con) ?_
                              refine RegL.nil ?_
                              refine Ct.then_tr ?_
                              refine Tr.weak (Γ' := [(4, (pEq (.bool true)))]) ⟨rfl, trivial⟩ ?_
                              refine Tr.ret ?_
                              replace h := Option.some.inj h; subst h
                              exact Ct.retH1 (Ωx := [oSS 22 2 1 (cK .i64) g17.1.1.1 g17.1.1.2.1 g17.1.1.2.2 g17.1.2 x39.2.1, oSS 22 2 1 (cK .i64) g17.2.1.1 g17.2.1.2.1 g17.2.1.2.2 g17.2.2 x39.2.2, oBlk b20 [(pEq (.slice g17.1.1.1 g17.1.1.2.1 g17.1.1.2.2)), (pEq (.slice g17.2.1.1 g17.2.1.2.1 g17.2.1.2.2))]]) () rfl (RvOk.tmp rfl) rfl

end Go.Proofs.Ytmaahfokhfmmnaa.fnExactPartProblemW
