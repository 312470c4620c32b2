/-
  The walks that the law FnExactServerAt reaches: each function computes its model. Printed by our own program.
-/
import Derived.Test.YtdilkjbhbglpbaaProg
import Derived.Test.YtdilkjbhbglpbaaMod
import Derived.KernelRfl
namespace Go.Proofs.Ytdilkjbhbglpbaa.fnExactServerAtW
open Go Go.RowKit Go.Wk
set_option linter.unusedVariables false
set_option maxRecDepth 100000
theorem hmix : Try.prog.follows .mixedOrders = true := by kernel_rfl
theorem sz2 : ∀ w, (Go.sizeOf 2).run Try.prog w = .ok 1 w := fun _ => by kernel_rfl
theorem sz22 : ∀ w, (Go.sizeOf 22).run Try.prog w = .ok 1 w := fun _ => by kernel_rfl
theorem sz53 : ∀ w, (Go.sizeOf 53).run Try.prog w = .ok 5 w := fun _ => by kernel_rfl
theorem sz56 : ∀ w, (Go.sizeOf 56).run Try.prog w = .ok 5 w := fun _ => by kernel_rfl
theorem sz62 : ∀ w, (Go.sizeOf 62).run Try.prog w = .ok 2 w := fun _ => by kernel_rfl
theorem sz65 : ∀ w, (Go.sizeOf 65).run Try.prog w = .ok 2 w := fun _ => by kernel_rfl
theorem zero56 : Zero Try.prog 56 [(pEq (.int .i64 (0 : Int))), (pEq (.int .i64 (0 : Int))), (pEq (.int .i64 (0 : Int))), (pSl 1 (cK .i64) ([] : (List Int))), (pSl 1 (cK .i64) ([] : (List Int)))] := ⟨(.agg #[.int .i64 0, .int .i64 0, .int .i64 0, .slice none 0 0, .slice none 0 0]), [.int .i64 0, .int .i64 0, .int .i64 0, .slice none 0 0, .slice none 0 0], fun _ => by kernel_rfl, rfl, fun _ _ => ⟨rfl, ⟨rfl, ⟨rfl, ⟨Pd.nilsl, ⟨Pd.nilsl, trivial⟩⟩⟩⟩⟩⟩
theorem zero65 : Zero Try.prog 65 [(pEq (.int .i64 (0 : Int))), (pEq (.int .i64 (0 : Int)))] := ⟨(.agg #[.int .i64 0, .int .i64 0]), [.int .i64 0, .int .i64 0], fun _ => by kernel_rfl, rfl, fun _ _ => ⟨rfl, ⟨rfl, trivial⟩⟩⟩
theorem el2i : (Try.prog.info? 2).map (fun i => (i.zero, i.size, i.bytes)) = some (some (.int .i64 0), 1, 8) := by kernel_rfl
theorem el2 : Elem Try.prog 2 1 8 (cK .i64) (0 : Int) := by
  obtain ⟨i, h1, h2, h3, h4⟩ := info_parts el2i
  exact ⟨i, (.int .i64 0), [.int .i64 0], h1, h2, h3, h4, rfl, rfl, by decide, fun _ _ => ⟨rfl, trivial⟩, fun _ => rfl, fun _ _ _ _ h => ones_of ((OneCs.cons OneC.int OneCs.nil)) h⟩

theorem c_laws_szInt64S {a_0 : (List Int)} {left_1 : Int} {r : Int} (h : m_laws_szInt64S a_0 left_1 = some r) : CallJ Try.prog 74 [(pSl 1 (cK .i64) a_0), (pEq (.int .i64 left_1))] (pEq (.int .i64 r)) := by
  unfold m_laws_szInt64S at h
  refine CallJ.enter Try.func74 rfl Try.ntmps74 rfl fun W I0 => ?_
  refine Tr.weak (Γ' := [(0, (pSl 1 (cK .i64) a_0)), (1, (pEq (.int .i64 left_1)))]) ⟨rfl, rfl, trivial⟩ ?_
  refine Tr.seq ?_
  refine Tr.region ?_
  refine RegL.pure (p := (pEq (.int .i64 (0 : Int)))) rfl rfl rfl (J_assign rfl Opd.con) ?_
  refine RegL.nil ?_
  refine Ct.then_tr ?_
  refine Tr.weak (Γ' := [(0, (pSl 1 (cK .i64) a_0)), (1, (pEq (.int .i64 left_1)))]) ⟨rfl, rfl, trivial⟩ ?_
  refine Tr.seq ?_
  refine Tr.region ?_
  refine RegL.pure (p := (pEq (.int .i64 left_1))) rfl rfl rfl (J_move rfl (Opd.tmp rfl)) ?_
  refine RegL.pure (p := (pSl 1 (cK .i64) a_0)) rfl rfl rfl (J_move rfl (Opd.tmp rfl)) ?_
  refine RegL.pure (p := (pEq (.int .i64 (a_0.length : Int)))) rfl rfl rfl (J_len rfl Try.underlying22 (Opd.tmp rfl) rfl) ?_
  refine RegL.pure (p := (pEq (.int .i64 (w64 (left_1 - (a_0.length : Int)))))) rfl rfl rfl (J_bin rfl (Opd.tmp rfl) (Opd.tmp rfl) B_sub) ?_
  refine RegL.pure (p := (pEq (.int .i64 (w64 (left_1 - (a_0.length : Int)))))) rfl rfl rfl (J_assign rfl (Opd.tmp rfl)) ?_
  refine RegL.nil ?_
  refine Ct.then_tr ?_
  refine Tr.weak (Γ' := [(1, (pEq (.int .i64 (w64 (left_1 - (a_0.length : Int))))))]) ⟨rfl, trivial⟩ ?_
  refine Tr.seq ?_
  refine Tr.seq ?_
  refine Tr.region ?_
  refine RegL.pure (p := (pEq (.int .i64 (w64 (left_1 - (a_0.length : Int)))))) rfl rfl rfl (J_move rfl (Opd.tmp rfl)) ?_
  refine RegL.pure (p := (pEq (.bool (decide ((w64 (left_1 - (a_0.length : Int))) < (0 : Int)))))) rfl rfl rfl (J_bin rfl (Opd.tmp rfl) Opd.con B_lss) ?_
  refine RegL.nil ?_
  refine Ct.then_tr ?_
  refine Tr.weak (Γ' := [(1, (pEq (.int .i64 (w64 (left_1 - (a_0.length : Int)))))), (10, (pEq (.bool (decide ((w64 (left_1 - (a_0.length : Int))) < (0 : Int))))))]) ⟨rfl, rfl, trivial⟩ ?_
  refine Tr.cond (Opd.tmp rfl) (fun hc => ?_) (fun hc => ?_)
  · replace h := bif_t hc h
    refine Tr.seq ?_
    refine Tr.region ?_
    refine RegL.pure (p := (pEq (.int .i64 (-1 : Int)))) rfl rfl rfl (J_assign rfl Opd.con) ?_
    refine RegL.nil ?_
    refine Ct.then_tr ?_
    refine Tr.weak (Γ' := [(4, (pEq (.int .i64 (-1 : Int))))]) ⟨rfl, trivial⟩ ?_
    refine Tr.ret ?_
    refine Ct.then_ret ?_
    replace h := Option.some.inj h; subst h
    exact Ct.ret1 rfl rfl
  · replace h := bif_f hc h
    refine Tr.skip ?_
    refine Ct.then_tr ?_
    refine Tr.weak (Γ' := [(1, (pEq (.int .i64 (w64 (left_1 - (a_0.length : Int))))))]) ⟨rfl, trivial⟩ ?_
    refine Tr.seq ?_
    refine Tr.region ?_
    refine RegL.pure (p := (pEq (.int .i64 (w64 (left_1 - (a_0.length : Int)))))) rfl rfl rfl (J_move rfl (Opd.tmp rfl)) ?_
    refine RegL.pure (p := (pEq (.int .i64 (w64 (left_1 - (a_0.length : Int)))))) rfl rfl rfl (J_assign rfl (Opd.tmp rfl)) ?_
    refine RegL.nil ?_
    refine Ct.then_tr ?_
    refine Tr.weak (Γ' := [(4, (pEq (.int .i64 (w64 (left_1 - (a_0.length : Int))))))]) ⟨rfl, trivial⟩ ?_
    refine Tr.ret ?_
    replace h := Option.some.inj h; subst h
    exact Ct.ret1 rfl rfl

theorem c_laws_szRaster {a_0 : GRaster} {left_1 : Int} {r : Int} (h : m_laws_szRaster a_0 left_1 = some r) : CallJ Try.prog 37 [(pAgg (cGRaster a_0)), (pEq (.int .i64 left_1))] (pEq (.int .i64 r)) := by
  unfold m_laws_szRaster at h
  refine CallJ.enter Try.func37 rfl Try.ntmps37 rfl fun W I0 => ?_
  refine Tr.weak (Γ' := [(0, (pAgg (cGRaster a_0))), (1, (pEq (.int .i64 left_1)))]) ⟨rfl, rfl, trivial⟩ ?_
  refine Tr.seq ?_
  refine Tr.region ?_
  refine RegL.pure (p := (pPtr (cGRaster a_0))) rfl rfl rfl (J_boxA rfl (Opd.tmp rfl)) ?_
  refine RegL.pure (p := (pEq (.int .i64 (0 : Int)))) rfl rfl rfl (J_assign rfl Opd.con) ?_
  refine RegL.nil ?_
  refine Ct.then_tr ?_
  refine Tr.weak (Γ' := [(1, (pEq (.int .i64 left_1))), (2, (pPtr (cGRaster a_0)))]) ⟨rfl, rfl, trivial⟩ ?_
  refine Tr.seq ?_
  refine Tr.region ?_
  refine RegL.pure (p := (pPtr ((cSl 1 (cK .i64)) a_0.Server))) rfl rfl rfl (J_fieldAddr rfl Try.underlying53 rfl sz22 (by decide) (Opd.tmp rfl) rfl) ?_
  refine RegL.pure (p := (pSl 1 (cK .i64) a_0.Server)) rfl rfl rfl (J_load rfl Try.isAgg22 (Opd.tmp rfl)) ?_
  refine RegL.pure (p := (pEq (.int .i64 left_1))) rfl rfl rfl (J_move rfl (Opd.tmp rfl)) ?_
  replace h := bind_some h; obtain ⟨x1, hx1, h⟩ := h
  refine RegL.pure (p := (pEq (.int .i64 x1))) rfl rfl rfl (J_call rfl Try.call74 (c_laws_szInt64S hx1) (Opds.cons (Opd.tmp rfl) (Opds.cons (Opd.tmp rfl) Opds.nil))) ?_
  refine RegL.pure (p := (pEq (.int .i64 x1))) rfl rfl rfl (J_assign rfl (Opd.tmp rfl)) ?_
  refine RegL.nil ?_
  refine Ct.then_tr ?_
  refine Tr.weak (Γ' := [(1, (pEq (.int .i64 x1))), (2, (pPtr (cGRaster a_0)))]) ⟨rfl, rfl, trivial⟩ ?_
  refine Tr.seq ?_
  refine Tr.seq ?_
  refine Tr.region ?_
  refine RegL.pure (p := (pEq (.int .i64 x1))) rfl rfl rfl (J_move rfl (Opd.tmp rfl)) ?_
  refine RegL.pure (p := (pEq (.bool (decide (x1 < (0 : Int)))))) rfl rfl rfl (J_bin rfl (Opd.tmp rfl) Opd.con B_lss) ?_
  refine RegL.nil ?_
  refine Ct.then_tr ?_
  refine Tr.weak (Γ' := [(1, (pEq (.int .i64 x1))), (2, (pPtr (cGRaster a_0))), (10, (pEq (.bool (decide (x1 < (0 : Int))))))]) ⟨rfl, rfl, rfl, trivial⟩ ?_
  refine Tr.cond (Opd.tmp rfl) (fun hc => ?_) (fun hc => ?_)
  · replace h := bif_t hc h
    refine Tr.seq ?_
    refine Tr.region ?_
    refine RegL.pure (p := (pEq (.int .i64 (-1 : Int)))) rfl rfl rfl (J_assign rfl Opd.con) ?_
    refine RegL.nil ?_
    refine Ct.then_tr ?_
    refine Tr.weak (Γ' := [(4, (pEq (.int .i64 (-1 : Int))))]) ⟨rfl, trivial⟩ ?_
    refine Tr.ret ?_
    refine Ct.then_ret ?_
    replace h := Option.some.inj h; subst h
    exact Ct.ret1 rfl rfl
  · replace h := bif_f hc h
    refine Tr.skip ?_
    refine Ct.then_tr ?_
    refine Tr.weak (Γ' := [(1, (pEq (.int .i64 x1))), (2, (pPtr (cGRaster a_0)))]) ⟨rfl, rfl, trivial⟩ ?_
    refine Tr.seq ?_
    refine Tr.region ?_
    refine RegL.pure (p := (pPtr ((cSl 1 (cK .i64)) a_0.Level))) rfl rfl rfl (J_fieldAddr rfl Try.underlying53 rfl sz22 (by decide) (Opd.tmp rfl) rfl) ?_
    refine RegL.pure (p := (pSl 1 (cK .i64) a_0.Level)) rfl rfl rfl (J_load rfl Try.isAgg22 (Opd.tmp rfl)) ?_
    refine RegL.pure (p := (pEq (.int .i64 x1))) rfl rfl rfl (J_move rfl (Opd.tmp rfl)) ?_
    replace h := bind_some h; obtain ⟨x2, hx2, h⟩ := h
    refine RegL.pure (p := (pEq (.int .i64 x2))) rfl rfl rfl (J_call rfl Try.call74 (c_laws_szInt64S hx2) (Opds.cons (Opd.tmp rfl) (Opds.cons (Opd.tmp rfl) Opds.nil))) ?_
    refine RegL.pure (p := (pEq (.int .i64 x2))) rfl rfl rfl (J_assign rfl (Opd.tmp rfl)) ?_
    refine RegL.nil ?_
    refine Ct.then_tr ?_
    refine Tr.weak (Γ' := [(1, (pEq (.int .i64 x2)))]) ⟨rfl, trivial⟩ ?_
    refine Tr.seq ?_
    refine Tr.seq ?_
    refine Tr.region ?_
    refine RegL.pure (p := (pEq (.int .i64 x2))) rfl rfl rfl (J_move rfl (Opd.tmp rfl)) ?_
    refine RegL.pure (p := (pEq (.bool (decide (x2 < (0 : Int)))))) rfl rfl rfl (J_bin rfl (Opd.tmp rfl) Opd.con B_lss) ?_
    refine RegL.nil ?_
    refine Ct.then_tr ?_
    refine Tr.weak (Γ' := [(1, (pEq (.int .i64 x2))), (16, (pEq (.bool (decide (x2 < (0 : Int))))))]) ⟨rfl, rfl, trivial⟩ ?_
    refine Tr.cond (Opd.tmp rfl) (fun hc => ?_) (fun hc => ?_)
    · replace h := bif_t hc h
      refine Tr.seq ?_
      refine Tr.region ?_
      refine RegL.pure (p := (pEq (.int .i64 (-1 : Int)))) rfl rfl rfl (J_assign rfl Opd.con) ?_
      refine RegL.nil ?_
      refine Ct.then_tr ?_
      refine Tr.weak (Γ' := [(4, (pEq (.int .i64 (-1 : Int))))]) ⟨rfl, trivial⟩ ?_
      refine Tr.ret ?_
      refine Ct.then_ret ?_
      replace h := Option.some.inj h; subst h
      exact Ct.ret1 rfl rfl
    · replace h := bif_f hc h
      refine Tr.skip ?_
      refine Ct.then_tr ?_
      refine Tr.weak (Γ' := [(1, (pEq (.int .i64 x2)))]) ⟨rfl, trivial⟩ ?_
      refine Tr.seq ?_
      refine Tr.region ?_
      refine RegL.pure (p := (pEq (.int .i64 x2))) rfl rfl rfl (J_move rfl (Opd.tmp rfl)) ?_
      refine RegL.pure (p := (pEq (.int .i64 x2))) rfl rfl rfl (J_assign rfl (Opd.tmp rfl)) ?_
      refine RegL.nil ?_
      refine Ct.then_tr ?_
      refine Tr.weak (Γ' := [(4, (pEq (.int .i64 x2)))]) ⟨rfl, trivial⟩ ?_
      refine Tr.ret ?_
      replace h := Option.some.inj h; subst h
      exact Ct.ret1 rfl rfl

theorem o_laws_toInt64S {a_0 : (List Int)} {r : (List Int)} (h : m_laws_toInt64S a_0 = some r) : CallO Try.prog 16 [(pSl 1 (cK .i64) a_0)] vRow (fun g : G3 => [oSl 2 1 (cK .i64) g.1 g.2.1 g.2.2 r]) := by
  unfold m_laws_toInt64S at h
  refine CallO.enter Try.func16 rfl Try.ntmps16 rfl fun W I0 => ?_
  refine Tr.weak (Γ' := [(0, (pSl 1 (cK .i64) a_0))]) ⟨rfl, trivial⟩ ?_
  refine Tr.seq ?_
  refine Tr.region ?_
  refine RegL.pure (p := (pEq (.slice none 0 0))) rfl rfl rfl (J_assign rfl Opd.con) ?_
  refine RegL.nil ?_
  refine Ct.then_tr ?_
  refine Tr.weak (Γ' := [(0, (pSl 1 (cK .i64) a_0))]) ⟨rfl, trivial⟩ ?_
  refine Tr.seq ?_
  refine Tr.region ?_
  refine RegL.pure (p := (pSl 1 (cK .i64) a_0)) rfl rfl rfl (J_move rfl (Opd.tmp rfl)) ?_
  refine RegL.pure (p := (pEq (.int .i64 (a_0.length : Int)))) rfl rfl rfl (J_len rfl Try.underlying22 (Opd.tmp rfl) rfl) ?_
  replace h := bind_some h; obtain ⟨x1, hx1, h⟩ := h
  refine RegL.step (γ := Option Addr) (p := fun a => pEq (.slice a ((a_0.length : Int)).toNat ((a_0.length : Int)).toNat)) (Ω' := fun a => oSl 2 1 (cK .i64) a ((a_0.length : Int)).toNat ((a_0.length : Int)).toNat x1 :: []) rfl rfl rfl (M_make rfl Try.underlying22 el2 (by decide) (Opd.tmp rfl) hx1) fun o3 => ?_
  refine RegL.pure (p := (pEq (.slice o3 ((a_0.length : Int)).toNat ((a_0.length : Int)).toNat))) rfl rfl rfl (J_assign rfl (Opd.tmp rfl)) ?_
  refine RegL.nil ?_
  refine Ct.then_tr ?_
  refine Tr.weak (Γ' := [(0, (pSl 1 (cK .i64) a_0)), (3, (pEq (.slice o3 ((a_0.length : Int)).toNat ((a_0.length : Int)).toNat)))]) ⟨rfl, rfl, trivial⟩ ?_
  refine Tr.seq ?_
  refine Tr.seq ?_
  refine Tr.region ?_
  refine RegL.pure (p := (pEq (.int .i64 (0 : Int)))) rfl rfl rfl (J_assign rfl Opd.con) ?_
  refine RegL.nil ?_
  refine Ct.then_tr ?_
  refine Tr.weak (Γ' := [(0, (pSl 1 (cK .i64) a_0)), (3, (pEq (.slice o3 ((a_0.length : Int)).toNat ((a_0.length : Int)).toNat))), (4, (pEq (.int .i64 (0 : Int))))]) ⟨rfl, rfl, rfl, trivial⟩ ?_
  replace h := bind_some h; obtain ⟨x4, hx4, h⟩ := h
  refine Tr.cut (γ := G3) (Γm := fun g => [(3, (pEq (.slice g.1 g.2.1 g.2.2)))]) (Ωm := fun g => [oSl 2 1 (cK .i64) g.1 g.2.1 g.2.2 x4]) ?_ (fun g11 => ?_)
  · clear h
    have h := hx4
    clear hx4
    refine Tr.block ?_
    refine Tr.weak (Γ' := [(0, (pSl 1 (cK .i64) a_0)), (3, (pEq (.slice o3 ((a_0.length : Int)).toNat ((a_0.length : Int)).toNat))), (4, (pEq (.int .i64 (0 : Int))))]) ⟨rfl, rfl, rfl, trivial⟩ ?_
    refine Tr.loop (γ := G3) (σ := (Int × (List Int))) (Γσ := fun s g => [(0, (pSl 1 (cK .i64) a_0)), (3, (pEq (.slice g.1 g.2.1 g.2.2))), (4, (pEq (.int .i64 s.1)))]) (Ωσ := fun s g => [oSl 2 1 (cK .i64) g.1 g.2.1 g.2.2 s.2]) (g := (o3, ((a_0.length : Int)).toNat, ((a_0.length : Int)).toNat)) h ?_
    clear h
    rintro ⟨v6, v7⟩ g8 t h
    replace h : m_laws_toInt64S_B5 a_0 v6 v7 = some t := h
    unfold m_laws_toInt64S_B5 at h
    refine Tr.weakO (Γ' := [(0, (pSl 1 (cK .i64) a_0)), (3, (pEq (.slice g8.1 g8.2.1 g8.2.2))), (4, (pEq (.int .i64 v6)))]) (Ω' := [oSl 2 1 (cK .i64) g8.1 g8.2.1 g8.2.2 v7]) rfl ⟨rfl, rfl, rfl, trivial⟩ ?_
    refine Tr.seq ?_
    refine Tr.seq ?_
    refine Tr.region ?_
    refine RegL.pure (p := (pEq (.int .i64 v6))) rfl rfl rfl (J_move rfl (Opd.tmp rfl)) ?_
    refine RegL.pure (p := (pSl 1 (cK .i64) a_0)) rfl rfl rfl (J_move rfl (Opd.tmp rfl)) ?_
    refine RegL.pure (p := (pEq (.int .i64 (a_0.length : Int)))) rfl rfl rfl (J_len rfl Try.underlying22 (Opd.tmp rfl) rfl) ?_
    refine RegL.pure (p := (pEq (.bool (decide (v6 < (a_0.length : Int)))))) rfl rfl rfl (J_bin rfl (Opd.tmp rfl) (Opd.tmp rfl) B_lss) ?_
    refine RegL.nil ?_
    refine Ct.then_tr ?_
    refine Tr.weak (Γ' := [(0, (pSl 1 (cK .i64) a_0)), (3, (pEq (.slice g8.1 g8.2.1 g8.2.2))), (4, (pEq (.int .i64 v6))), (11, (pEq (.bool (decide (v6 < (a_0.length : Int))))))]) ⟨rfl, rfl, rfl, rfl, trivial⟩ ?_
    refine Tr.cond (Opd.tmp rfl) (fun hc => ?_) (fun hc => ?_)
    · replace h := bif_t hc h
      refine Tr.skip ?_
      refine Ct.then_tr ?_
      refine Tr.weak (Γ' := [(0, (pSl 1 (cK .i64) a_0)), (3, (pEq (.slice g8.1 g8.2.1 g8.2.2))), (4, (pEq (.int .i64 v6)))]) ⟨rfl, rfl, rfl, trivial⟩ ?_
      refine Tr.seq ?_
      refine Tr.block ?_
      refine Tr.region ?_
      refine RegL.pure (p := (pEq (.slice g8.1 g8.2.1 g8.2.2))) rfl rfl rfl (J_move rfl (Opd.tmp rfl)) ?_
      refine RegL.pure (p := (pEq (.int .i64 v6))) rfl rfl rfl (J_move rfl (Opd.tmp rfl)) ?_
      refine RegL.pure (p := (pSl 1 (cK .i64) a_0)) rfl rfl rfl (J_move rfl (Opd.tmp rfl)) ?_
      refine RegL.pure (p := (pEq (.int .i64 v6))) rfl rfl rfl (J_move rfl (Opd.tmp rfl)) ?_
      replace h := bind_some h; obtain ⟨x9, hx9, h⟩ := h
      refine RegL.pure (p := (pPtr ((cK .i64) x9))) rfl rfl rfl (J_idx rfl Try.underlying22 sz2 (Opd.tmp rfl) (Opd.tmp rfl) hx9) ?_
      refine RegL.pure (p := (pEq (.int .i64 x9))) rfl rfl rfl (J_load rfl Try.isAgg2 (Opd.tmp rfl)) ?_
      replace h := bind_some h; obtain ⟨u10, hu10, h⟩ := h
      refine RegL.pureW (p := (pEq (.pointer (some ⟨blk g8.1, (v6).toNat * 1, none⟩)))) rfl rfl rfl (W_rowIdx (j := 0) rfl Try.underlying22 sz2 (Opd.tmp rfl) (Opd.tmp rfl) rfl (inB_some hu10)) ?_
      refine RegL.stepN (γ := Unit) (p := fun _ => pAny) (Ω' := fun _ => [oSl 2 1 (cK .i64) g8.1 g8.2.1 g8.2.2 (v7.set (v6).toNat x9)]) rfl rfl (M_rowStore rfl sz2 (fun _ => rfl) (Opd.tmp rfl) (Opd.tmp rfl) rfl OneC.int (setL_of (inB_some hu10))) fun _ => ?_
      refine RegL.nil ?_
      refine Ct.blk_normal ?_
      refine Ct.then_tr ?_
      refine Tr.weak (Γ' := [(0, (pSl 1 (cK .i64) a_0)), (3, (pEq (.slice g8.1 g8.2.1 g8.2.2))), (4, (pEq (.int .i64 v6)))]) ⟨rfl, rfl, rfl, trivial⟩ ?_
      refine Tr.region ?_
      refine RegL.pure (p := (pEq (.int .i64 v6))) rfl rfl rfl (J_move rfl (Opd.tmp rfl)) ?_
      refine RegL.pure (p := (pEq (.int .i64 (w64 (v6 + (1 : Int)))))) rfl rfl rfl (J_bin rfl (Opd.tmp rfl) Opd.con B_add) ?_
      refine RegL.pure (p := (pEq (.int .i64 (w64 (v6 + (1 : Int)))))) rfl rfl rfl (J_assign rfl (Opd.tmp rfl)) ?_
      refine RegL.nil ?_
      replace h := Option.some.inj h; subst h
      exact Ct.again (g8.1, g8.2.1, g8.2.2) rfl ⟨rfl, rfl, rfl, trivial⟩
    · replace h := bif_f hc h
      refine Tr.exit ?_
      refine Ct.then_exit ?_
      replace h := map_some h; obtain ⟨r1, h, rfl⟩ := h
      refine Ct.out_exit fun e => ?_
      subst e
      refine Ct.blk_exit ?_
      replace h := Option.some.inj h; subst h
      exact Ct.mid (g8.1, g8.2.1, g8.2.2) rfl ⟨rfl, trivial⟩
  · clear hx4
    refine Ct.then_tr ?_
    refine Tr.weak (Γ' := [(3, (pEq (.slice g11.1 g11.2.1 g11.2.2)))]) ⟨rfl, trivial⟩ ?_
    refine Tr.seq ?_
    refine Tr.region ?_
    refine RegL.pure (p := (pEq (.slice g11.1 g11.2.1 g11.2.2))) rfl rfl rfl (J_move rfl (Opd.tmp rfl)) ?_
    refine RegL.pure (p := (pEq (.slice g11.1 g11.2.1 g11.2.2))) rfl rfl rfl (J_assign rfl (Opd.tmp rfl)) ?_
    refine RegL.nil ?_
    refine Ct.then_tr ?_
    refine Tr.weak (Γ' := [(2, (pEq (.slice g11.1 g11.2.1 g11.2.2)))]) ⟨rfl, trivial⟩ ?_
    refine Tr.ret ?_
    replace h := Option.some.inj h; subst h
    exact Ct.retO1 (val := vRow) (Ωr := fun g : G3 => [oSl 2 1 (cK .i64) g.1 g.2.1 g.2.2 x4]) (g11.1, g11.2.1, g11.2.2) rfl rfl

theorem c_laws_toInt64S {a_0 : (List Int)} {r : (List Int)} (h : m_laws_toInt64S a_0 = some r) : CallJ Try.prog 16 [(pSl 1 (cK .i64) a_0)] (pSl 1 (cK .i64) r) :=
  CallO.frozen (fun _ => rfl) (o_laws_toInt64S h)

theorem c_laws_toRaster {a_0 : GRaster} {r : GRaster} (h : m_laws_toRaster a_0 = some r) : CallJ Try.prog 39 [(pAgg (cGRaster a_0))] (pAgg (cGRaster r)) := by
  unfold m_laws_toRaster at h
  refine CallJ.enter Try.func39 rfl Try.ntmps39 rfl fun W I0 => ?_
  refine Tr.weak (Γ' := [(0, (pAgg (cGRaster a_0)))]) ⟨rfl, trivial⟩ ?_
  refine Tr.seq ?_
  refine Tr.region ?_
  refine RegL.pure (p := (pPtr (cGRaster a_0))) rfl rfl rfl (J_boxA rfl (Opd.tmp rfl)) ?_
  refine RegL.step (γ := Nat) (p := fun b => pEq (.pointer (some ⟨b, 0, none⟩))) (Ω' := fun b => [oBlk b [(pEq (.int .i64 (0 : Int))), (pEq (.int .i64 (0 : Int))), (pEq (.int .i64 (0 : Int))), (pSl 1 (cK .i64) ([] : (List Int))), (pSl 1 (cK .i64) ([] : (List Int)))]]) rfl rfl rfl (M_alloc rfl zero56) fun b1 => ?_
  refine RegL.nil ?_
  refine Ct.then_tr ?_
  refine Tr.weak (Γ' := [(1, (pPtr (cGRaster a_0))), (2, (pEq (.pointer (some ⟨b1, 0, none⟩))))]) ⟨rfl, rfl, trivial⟩ ?_
  refine Tr.seq ?_
  refine Tr.region ?_
  refine RegL.step (γ := Nat) (p := fun b => pEq (.pointer (some ⟨b, 0, none⟩))) (Ω' := fun b => [oBlk b [(pEq (.int .i64 (0 : Int))), (pEq (.int .i64 (0 : Int))), (pEq (.int .i64 (0 : Int))), (pSl 1 (cK .i64) ([] : (List Int))), (pSl 1 (cK .i64) ([] : (List Int)))], oBlk b1 [(pEq (.int .i64 (0 : Int))), (pEq (.int .i64 (0 : Int))), (pEq (.int .i64 (0 : Int))), (pSl 1 (cK .i64) ([] : (List Int))), (pSl 1 (cK .i64) ([] : (List Int)))]]) rfl rfl rfl (M_alloc rfl zero56) fun b2 => ?_
  refine RegL.nil ?_
  refine Ct.then_tr ?_
  refine Tr.weak (Γ' := [(1, (pPtr (cGRaster a_0))), (2, (pEq (.pointer (some ⟨b1, 0, none⟩)))), (3, (pEq (.pointer (some ⟨b2, 0, none⟩))))]) ⟨rfl, rfl, rfl, trivial⟩ ?_
  refine Tr.seq ?_
  refine Tr.region ?_
  refine RegL.pure (p := (pPtr ((cK .i64) a_0.Step))) rfl rfl rfl (J_fieldAddr rfl Try.underlying53 rfl sz2 (by decide) (Opd.tmp rfl) rfl) ?_
  refine RegL.pure (p := (pEq (.int .i64 a_0.Step))) rfl rfl rfl (J_load rfl Try.isAgg2 (Opd.tmp rfl)) ?_
  refine RegL.pure (p := (pEq (.pointer (some ⟨b2, 0, none⟩)))) rfl rfl rfl (J_fieldAddrE rfl Try.underlying56 rfl sz2 (by decide) (Opd.tmp rfl) rfl) ?_
  refine RegL.stepN (γ := Unit) (p := fun _ => pAny) (Ω' := fun _ => [oBlk b2 [(pEq (.int .i64 a_0.Step)), (pEq (.int .i64 (0 : Int))), (pEq (.int .i64 (0 : Int))), (pSl 1 (cK .i64) ([] : (List Int))), (pSl 1 (cK .i64) ([] : (List Int)))], oBlk b1 [(pEq (.int .i64 (0 : Int))), (pEq (.int .i64 (0 : Int))), (pEq (.int .i64 (0 : Int))), (pSl 1 (cK .i64) ([] : (List Int))), (pSl 1 (cK .i64) ([] : (List Int)))]]) rfl rfl (M_store rfl sz2 (Opd.tmp rfl) (Opd.tmp rfl) OneC.int rfl rfl) fun _ => ?_
  refine RegL.nil ?_
  refine Ct.then_tr ?_
  refine Tr.weak (Γ' := [(1, (pPtr (cGRaster a_0))), (2, (pEq (.pointer (some ⟨b1, 0, none⟩)))), (3, (pEq (.pointer (some ⟨b2, 0, none⟩))))]) ⟨rfl, rfl, rfl, trivial⟩ ?_
  refine Tr.seq ?_
  refine Tr.region ?_
  refine RegL.pure (p := (pPtr ((cK .i64) a_0.Width))) rfl rfl rfl (J_fieldAddr rfl Try.underlying53 rfl sz2 (by decide) (Opd.tmp rfl) rfl) ?_
  refine RegL.pure (p := (pEq (.int .i64 a_0.Width))) rfl rfl rfl (J_load rfl Try.isAgg2 (Opd.tmp rfl)) ?_
  refine RegL.pure (p := (pEq (.pointer (some ⟨b2, 1, none⟩)))) rfl rfl rfl (J_fieldAddrE rfl Try.underlying56 rfl sz2 (by decide) (Opd.tmp rfl) rfl) ?_
  refine RegL.stepN (γ := Unit) (p := fun _ => pAny) (Ω' := fun _ => [oBlk b2 [(pEq (.int .i64 a_0.Step)), (pEq (.int .i64 a_0.Width)), (pEq (.int .i64 (0 : Int))), (pSl 1 (cK .i64) ([] : (List Int))), (pSl 1 (cK .i64) ([] : (List Int)))], oBlk b1 [(pEq (.int .i64 (0 : Int))), (pEq (.int .i64 (0 : Int))), (pEq (.int .i64 (0 : Int))), (pSl 1 (cK .i64) ([] : (List Int))), (pSl 1 (cK .i64) ([] : (List Int)))]]) rfl rfl (M_store rfl sz2 (Opd.tmp rfl) (Opd.tmp rfl) OneC.int rfl rfl) fun _ => ?_
  refine RegL.nil ?_
  refine Ct.then_tr ?_
  refine Tr.weak (Γ' := [(1, (pPtr (cGRaster a_0))), (2, (pEq (.pointer (some ⟨b1, 0, none⟩)))), (3, (pEq (.pointer (some ⟨b2, 0, none⟩))))]) ⟨rfl, rfl, rfl, trivial⟩ ?_
  refine Tr.seq ?_
  refine Tr.region ?_
  refine RegL.pure (p := (pPtr ((cK .i64) a_0.Height))) rfl rfl rfl (J_fieldAddr rfl Try.underlying53 rfl sz2 (by decide) (Opd.tmp rfl) rfl) ?_
  refine RegL.pure (p := (pEq (.int .i64 a_0.Height))) rfl rfl rfl (J_load rfl Try.isAgg2 (Opd.tmp rfl)) ?_
  refine RegL.pure (p := (pEq (.pointer (some ⟨b2, 2, none⟩)))) rfl rfl rfl (J_fieldAddrE rfl Try.underlying56 rfl sz2 (by decide) (Opd.tmp rfl) rfl) ?_
  refine RegL.stepN (γ := Unit) (p := fun _ => pAny) (Ω' := fun _ => [oBlk b2 [(pEq (.int .i64 a_0.Step)), (pEq (.int .i64 a_0.Width)), (pEq (.int .i64 a_0.Height)), (pSl 1 (cK .i64) ([] : (List Int))), (pSl 1 (cK .i64) ([] : (List Int)))], oBlk b1 [(pEq (.int .i64 (0 : Int))), (pEq (.int .i64 (0 : Int))), (pEq (.int .i64 (0 : Int))), (pSl 1 (cK .i64) ([] : (List Int))), (pSl 1 (cK .i64) ([] : (List Int)))]]) rfl rfl (M_store rfl sz2 (Opd.tmp rfl) (Opd.tmp rfl) OneC.int rfl rfl) fun _ => ?_
  refine RegL.nil ?_
  refine Ct.then_tr ?_
  refine Tr.weak (Γ' := [(1, (pPtr (cGRaster a_0))), (2, (pEq (.pointer (some ⟨b1, 0, none⟩)))), (3, (pEq (.pointer (some ⟨b2, 0, none⟩))))]) ⟨rfl, rfl, rfl, trivial⟩ ?_
  refine Tr.seq ?_
  refine Tr.region ?_
  refine RegL.pure (p := (pPtr ((cSl 1 (cK .i64)) a_0.Server))) rfl rfl rfl (J_fieldAddr rfl Try.underlying53 rfl sz22 (by decide) (Opd.tmp rfl) rfl) ?_
  refine RegL.pure (p := (pSl 1 (cK .i64) a_0.Server)) rfl rfl rfl (J_load rfl Try.isAgg22 (Opd.tmp rfl)) ?_
  replace h := bind_some h; obtain ⟨x3, hx3, h⟩ := h
  refine RegL.pure (p := (pSl 1 (cK .i64) x3)) rfl rfl rfl (J_call rfl Try.call16 (c_laws_toInt64S hx3) (Opds.cons (Opd.tmp rfl) Opds.nil)) ?_
  refine RegL.pure (p := (pEq (.pointer (some ⟨b2, 3, none⟩)))) rfl rfl rfl (J_fieldAddrE rfl Try.underlying56 rfl sz22 (by decide) (Opd.tmp rfl) rfl) ?_
  refine RegL.stepN (γ := Unit) (p := fun _ => pAny) (Ω' := fun _ => [oBlk b2 [(pEq (.int .i64 a_0.Step)), (pEq (.int .i64 a_0.Width)), (pEq (.int .i64 a_0.Height)), (pSl 1 (cK .i64) x3), (pSl 1 (cK .i64) ([] : (List Int)))], oBlk b1 [(pEq (.int .i64 (0 : Int))), (pEq (.int .i64 (0 : Int))), (pEq (.int .i64 (0 : Int))), (pSl 1 (cK .i64) ([] : (List Int))), (pSl 1 (cK .i64) ([] : (List Int)))]]) rfl rfl (M_store rfl sz22 (Opd.tmp rfl) (Opd.tmp rfl) OneC.sl rfl rfl) fun _ => ?_
  refine RegL.nil ?_
  refine Ct.then_tr ?_
  refine Tr.weak (Γ' := [(1, (pPtr (cGRaster a_0))), (2, (pEq (.pointer (some ⟨b1, 0, none⟩)))), (3, (pEq (.pointer (some ⟨b2, 0, none⟩))))]) ⟨rfl, rfl, rfl, trivial⟩ ?_
  refine Tr.seq ?_
  refine Tr.region ?_
  refine RegL.pure (p := (pPtr ((cSl 1 (cK .i64)) a_0.Level))) rfl rfl rfl (J_fieldAddr rfl Try.underlying53 rfl sz22 (by decide) (Opd.tmp rfl) rfl) ?_
  refine RegL.pure (p := (pSl 1 (cK .i64) a_0.Level)) rfl rfl rfl (J_load rfl Try.isAgg22 (Opd.tmp rfl)) ?_
  replace h := bind_some h; obtain ⟨x4, hx4, h⟩ := h
  refine RegL.pure (p := (pSl 1 (cK .i64) x4)) rfl rfl rfl (J_call rfl Try.call16 (c_laws_toInt64S hx4) (Opds.cons (Opd.tmp rfl) Opds.nil)) ?_
  refine RegL.pure (p := (pEq (.pointer (some ⟨b2, 4, none⟩)))) rfl rfl rfl (J_fieldAddrE rfl Try.underlying56 rfl sz22 (by decide) (Opd.tmp rfl) rfl) ?_
  refine RegL.stepN (γ := Unit) (p := fun _ => pAny) (Ω' := fun _ => [oBlk b2 [(pEq (.int .i64 a_0.Step)), (pEq (.int .i64 a_0.Width)), (pEq (.int .i64 a_0.Height)), (pSl 1 (cK .i64) x3), (pSl 1 (cK .i64) x4)], oBlk b1 [(pEq (.int .i64 (0 : Int))), (pEq (.int .i64 (0 : Int))), (pEq (.int .i64 (0 : Int))), (pSl 1 (cK .i64) ([] : (List Int))), (pSl 1 (cK .i64) ([] : (List Int)))]]) rfl rfl (M_store rfl sz22 (Opd.tmp rfl) (Opd.tmp rfl) OneC.sl rfl rfl) fun _ => ?_
  refine RegL.nil ?_
  refine Ct.then_tr ?_
  refine Tr.weak (Γ' := [(2, (pEq (.pointer (some ⟨b1, 0, none⟩)))), (3, (pEq (.pointer (some ⟨b2, 0, none⟩))))]) ⟨rfl, rfl, trivial⟩ ?_
  refine Tr.seq ?_
  refine Tr.region ?_
  refine RegL.pureW (p := (pAgg (cGRaster (GRaster.mk a_0.Step a_0.Width a_0.Height x3 x4)))) rfl rfl rfl (W_loadA (i := 0) rfl Try.isAgg56 sz56 (Opd.tmp rfl) rfl rfl) ?_
  refine RegL.perm perm1 ?_
  refine RegL.stepN (γ := Unit) (p := fun _ => pAny) (Ω' := fun _ => [oBlk b1 [(pEq (.int .i64 (GRaster.mk a_0.Step a_0.Width a_0.Height x3 x4).Step)), (pEq (.int .i64 (GRaster.mk a_0.Step a_0.Width a_0.Height x3 x4).Width)), (pEq (.int .i64 (GRaster.mk a_0.Step a_0.Width a_0.Height x3 x4).Height)), (pSl 1 (cK .i64) (GRaster.mk a_0.Step a_0.Width a_0.Height x3 x4).Server), (pSl 1 (cK .i64) (GRaster.mk a_0.Step a_0.Width a_0.Height x3 x4).Level)], oBlk b2 [(pEq (.int .i64 a_0.Step)), (pEq (.int .i64 a_0.Width)), (pEq (.int .i64 a_0.Height)), (pSl 1 (cK .i64) x3), (pSl 1 (cK .i64) x4)]]) rfl rfl (M_storeA rfl sz56 (Opd.tmp rfl) (Opd.tmp rfl) (fun _ _ _ h => ones_of ((OneCs.cons OneC.int (OneCs.cons OneC.int (OneCs.cons OneC.int (OneCs.cons OneC.sl (OneCs.cons OneC.sl OneCs.nil)))))) h) rfl rfl) fun _ => ?_
  refine RegL.nil ?_
  refine Ct.then_tr ?_
  refine Tr.weak (Γ' := [(2, (pEq (.pointer (some ⟨b1, 0, none⟩))))]) ⟨rfl, trivial⟩ ?_
  refine Tr.ret ?_
  replace h := Option.some.inj h; subst h
  refine Ct.perm perm1 ?_
  refine Ct.drop ?_
  exact Ct.retA rfl Try.isAgg56 sz56 rfl rfl

theorem c_laws_toPoint {a_0 : GPoint} {r : GPoint} (h : m_laws_toPoint a_0 = some r) : CallJ Try.prog 45 [(pAgg (cGPoint a_0))] (pAgg (cGPoint r)) := by
  unfold m_laws_toPoint at h
  refine CallJ.enter Try.func45 rfl Try.ntmps45 rfl fun W I0 => ?_
  refine Tr.weak (Γ' := [(0, (pAgg (cGPoint a_0)))]) ⟨rfl, trivial⟩ ?_
  refine Tr.seq ?_
  refine Tr.region ?_
  refine RegL.pure (p := (pPtr (cGPoint a_0))) rfl rfl rfl (J_boxA rfl (Opd.tmp rfl)) ?_
  refine RegL.step (γ := Nat) (p := fun b => pEq (.pointer (some ⟨b, 0, none⟩))) (Ω' := fun b => [oBlk b [(pEq (.int .i64 (0 : Int))), (pEq (.int .i64 (0 : Int)))]]) rfl rfl rfl (M_alloc rfl zero65) fun b1 => ?_
  refine RegL.nil ?_
  refine Ct.then_tr ?_
  refine Tr.weak (Γ' := [(1, (pPtr (cGPoint a_0))), (2, (pEq (.pointer (some ⟨b1, 0, none⟩))))]) ⟨rfl, rfl, trivial⟩ ?_
  refine Tr.seq ?_
  refine Tr.region ?_
  refine RegL.step (γ := Nat) (p := fun b => pEq (.pointer (some ⟨b, 0, none⟩))) (Ω' := fun b => [oBlk b [(pEq (.int .i64 (0 : Int))), (pEq (.int .i64 (0 : Int)))], oBlk b1 [(pEq (.int .i64 (0 : Int))), (pEq (.int .i64 (0 : Int)))]]) rfl rfl rfl (M_alloc rfl zero65) fun b2 => ?_
  refine RegL.nil ?_
  refine Ct.then_tr ?_
  refine Tr.weak (Γ' := [(1, (pPtr (cGPoint a_0))), (2, (pEq (.pointer (some ⟨b1, 0, none⟩)))), (3, (pEq (.pointer (some ⟨b2, 0, none⟩))))]) ⟨rfl, rfl, rfl, trivial⟩ ?_
  refine Tr.seq ?_
  refine Tr.region ?_
  refine RegL.pure (p := (pPtr ((cK .i64) a_0.X))) rfl rfl rfl (J_fieldAddr rfl Try.underlying62 rfl sz2 (by decide) (Opd.tmp rfl) rfl) ?_
  refine RegL.pure (p := (pEq (.int .i64 a_0.X))) rfl rfl rfl (J_load rfl Try.isAgg2 (Opd.tmp rfl)) ?_
  refine RegL.pure (p := (pEq (.pointer (some ⟨b2, 0, none⟩)))) rfl rfl rfl (J_fieldAddrE rfl Try.underlying65 rfl sz2 (by decide) (Opd.tmp rfl) rfl) ?_
  refine RegL.stepN (γ := Unit) (p := fun _ => pAny) (Ω' := fun _ => [oBlk b2 [(pEq (.int .i64 a_0.X)), (pEq (.int .i64 (0 : Int)))], oBlk b1 [(pEq (.int .i64 (0 : Int))), (pEq (.int .i64 (0 : Int)))]]) rfl rfl (M_store rfl sz2 (Opd.tmp rfl) (Opd.tmp rfl) OneC.int rfl rfl) fun _ => ?_
  refine RegL.nil ?_
  refine Ct.then_tr ?_
  refine Tr.weak (Γ' := [(1, (pPtr (cGPoint a_0))), (2, (pEq (.pointer (some ⟨b1, 0, none⟩)))), (3, (pEq (.pointer (some ⟨b2, 0, none⟩))))]) ⟨rfl, rfl, rfl, trivial⟩ ?_
  refine Tr.seq ?_
  refine Tr.region ?_
  refine RegL.pure (p := (pPtr ((cK .i64) a_0.Y))) rfl rfl rfl (J_fieldAddr rfl Try.underlying62 rfl sz2 (by decide) (Opd.tmp rfl) rfl) ?_
  refine RegL.pure (p := (pEq (.int .i64 a_0.Y))) rfl rfl rfl (J_load rfl Try.isAgg2 (Opd.tmp rfl)) ?_
  refine RegL.pure (p := (pEq (.pointer (some ⟨b2, 1, none⟩)))) rfl rfl rfl (J_fieldAddrE rfl Try.underlying65 rfl sz2 (by decide) (Opd.tmp rfl) rfl) ?_
  refine RegL.stepN (γ := Unit) (p := fun _ => pAny) (Ω' := fun _ => [oBlk b2 [(pEq (.int .i64 a_0.X)), (pEq (.int .i64 a_0.Y))], oBlk b1 [(pEq (.int .i64 (0 : Int))), (pEq (.int .i64 (0 : Int)))]]) rfl rfl (M_store rfl sz2 (Opd.tmp rfl) (Opd.tmp rfl) OneC.int rfl rfl) fun _ => ?_
  refine RegL.nil ?_
  refine Ct.then_tr ?_
  refine Tr.weak (Γ' := [(2, (pEq (.pointer (some ⟨b1, 0, none⟩)))), (3, (pEq (.pointer (some ⟨b2, 0, none⟩))))]) ⟨rfl, rfl, trivial⟩ ?_
  refine Tr.seq ?_
  refine Tr.region ?_
  refine RegL.pureW (p := (pAgg (cGPoint (GPoint.mk a_0.X a_0.Y)))) rfl rfl rfl (W_loadA (i := 0) rfl Try.isAgg65 sz65 (Opd.tmp rfl) rfl rfl) ?_
  refine RegL.perm perm1 ?_
  refine RegL.stepN (γ := Unit) (p := fun _ => pAny) (Ω' := fun _ => [oBlk b1 [(pEq (.int .i64 (GPoint.mk a_0.X a_0.Y).X)), (pEq (.int .i64 (GPoint.mk a_0.X a_0.Y).Y))], oBlk b2 [(pEq (.int .i64 a_0.X)), (pEq (.int .i64 a_0.Y))]]) rfl rfl (M_storeA rfl sz65 (Opd.tmp rfl) (Opd.tmp rfl) (fun _ _ _ h => ones_of ((OneCs.cons OneC.int (OneCs.cons OneC.int OneCs.nil))) h) rfl rfl) fun _ => ?_
  refine RegL.nil ?_
  refine Ct.then_tr ?_
  refine Tr.weak (Γ' := [(2, (pEq (.pointer (some ⟨b1, 0, none⟩))))]) ⟨rfl, trivial⟩ ?_
  refine Tr.ret ?_
  replace h := Option.some.inj h; subst h
  refine Ct.perm perm1 ?_
  refine Ct.drop ?_
  exact Ct.retA rfl Try.isAgg65 sz65 rfl rfl

theorem c_spec_l00In {n_0 : Int} {low_1 : Int} {high_2 : Int} {r : Bool} (h : m_spec_l00In n_0 low_1 high_2 = some r) : CallJ Try.prog 81 [(pEq (.int .i64 n_0)), (pEq (.int .i64 low_1)), (pEq (.int .i64 high_2))] (pEq (.bool r)) := by
  unfold m_spec_l00In at h
  refine CallJ.enter Try.func81 rfl Try.ntmps81 rfl fun W I0 => ?_
  refine Tr.weak (Γ' := [(0, (pEq (.int .i64 n_0))), (1, (pEq (.int .i64 low_1))), (2, (pEq (.int .i64 high_2)))]) ⟨rfl, rfl, rfl, trivial⟩ ?_
  refine Tr.seq ?_
  refine Tr.region ?_
  refine RegL.pure (p := (pEq (.bool false))) rfl rfl rfl (J_assign rfl Opd.con) ?_
  refine RegL.nil ?_
  refine Ct.then_tr ?_
  refine Tr.weak (Γ' := [(0, (pEq (.int .i64 n_0))), (1, (pEq (.int .i64 low_1))), (2, (pEq (.int .i64 high_2)))]) ⟨rfl, rfl, rfl, trivial⟩ ?_
  refine Tr.seq ?_
  replace h := bind_some h; obtain ⟨x1, hx1, h⟩ := h
  refine Tr.cut (γ := Unit) (Γm := fun g => [(6, (pEq (.bool x1)))]) (Ωm := fun g => []) ?_ (fun g3 => ?_)
  · clear h
    have h := hx1
    clear hx1
    refine Tr.region ?_
    refine RegL.pure (p := (pEq (.int .i64 n_0))) rfl rfl rfl (J_move rfl (Opd.tmp rfl)) ?_
    refine RegL.pure (p := (pEq (.int .i64 low_1))) rfl rfl rfl (J_move rfl (Opd.tmp rfl)) ?_
    refine RegL.pure (p := (pEq (.bool (decide (low_1 ≤ n_0))))) rfl rfl rfl (J_bin rfl (Opd.tmp rfl) (Opd.tmp rfl) B_geq) ?_
    refine RegL.pure (p := (pEq (.bool (decide (low_1 ≤ n_0))))) rfl rfl rfl (J_move rfl (Opd.tmp rfl)) ?_
    rcases Bool.eq_false_or_eq_true (decide (low_1 ≤ n_0)) with hc2 | hc2
    · replace h := bif_t hc2 h
      refine RegL.pureG (p := (pEq (.int .i64 n_0))) rfl rfl rfl hc2 rfl rfl (J_move rfl (Opd.tmp rfl)) ?_
      refine RegL.pureG (p := (pEq (.int .i64 high_2))) rfl rfl rfl hc2 rfl rfl (J_move rfl (Opd.tmp rfl)) ?_
      refine RegL.pureG (p := (pEq (.bool (decide (n_0 ≤ high_2))))) rfl rfl rfl hc2 rfl rfl (J_bin rfl (Opd.tmp rfl) (Opd.tmp rfl) B_leq) ?_
      refine RegL.pure (p := (pEq (.bool (decide (n_0 ≤ high_2))))) rfl rfl rfl (J_pick rfl (Opd.tmp rfl) (fun _ => (Opd.tmp rfl)) (fun hf => absurd (hc2.symm.trans hf) (by decide))) ?_
      refine RegL.pure (p := (pEq (.bool (decide (n_0 ≤ high_2))))) rfl rfl rfl (J_assign rfl (Opd.tmp rfl)) ?_
      refine RegL.nil ?_
      replace h := Option.some.inj h; subst h
      exact Ct.mid () rfl ⟨rfl, trivial⟩
    · replace h := bif_f hc2 h
      refine RegL.skipG rfl rfl rfl hc2 rfl rfl ?_
      refine RegL.skipG rfl rfl rfl hc2 rfl rfl ?_
      refine RegL.skipG rfl rfl rfl hc2 rfl rfl ?_
      refine RegL.pure (p := (pEq (.bool false))) rfl rfl rfl (J_pick rfl (Opd.tmp rfl) (fun hf => absurd (hc2.symm.trans hf) (by decide)) (fun _ => Opd.con)) ?_
      refine RegL.pure (p := (pEq (.bool false))) rfl rfl rfl (J_assign rfl (Opd.tmp rfl)) ?_
      refine RegL.nil ?_
      replace h := Option.some.inj h; subst h
      exact Ct.mid () rfl ⟨rfl, trivial⟩
  · clear hx1
    refine Ct.then_tr ?_
    refine Tr.weak (Γ' := [(6, (pEq (.bool x1)))]) ⟨rfl, trivial⟩ ?_
    refine Tr.ret ?_
    replace h := Option.some.inj h; subst h
    exact Ct.ret1 rfl rfl

theorem c_spec_l04Size {step_0 : Int} {width_1 : Int} {height_2 : Int} {r : Bool} (h : m_spec_l04Size step_0 width_1 height_2 = some r) : CallJ Try.prog 96 [(pEq (.int .i64 step_0)), (pEq (.int .i64 width_1)), (pEq (.int .i64 height_2))] (pEq (.bool r)) := by
  unfold m_spec_l04Size at h
  refine CallJ.enter Try.func96 rfl Try.ntmps96 rfl fun W I0 => ?_
  refine Tr.weak (Γ' := [(0, (pEq (.int .i64 step_0))), (1, (pEq (.int .i64 width_1))), (2, (pEq (.int .i64 height_2)))]) ⟨rfl, rfl, rfl, trivial⟩ ?_
  refine Tr.seq ?_
  refine Tr.region ?_
  refine RegL.pure (p := (pEq (.bool false))) rfl rfl rfl (J_assign rfl Opd.con) ?_
  refine RegL.nil ?_
  refine Ct.then_tr ?_
  refine Tr.weak (Γ' := [(0, (pEq (.int .i64 step_0))), (1, (pEq (.int .i64 width_1))), (2, (pEq (.int .i64 height_2)))]) ⟨rfl, rfl, rfl, trivial⟩ ?_
  refine Tr.seq ?_
  replace h := bind_some h; obtain ⟨x1, hx1, h⟩ := h
  refine Tr.cut (γ := Unit) (Γm := fun g => [(6, (pEq (.bool x1)))]) (Ωm := fun g => []) ?_ (fun g9 => ?_)
  · clear h
    have h := hx1
    clear hx1
    refine Tr.region ?_
    refine RegL.pure (p := (pEq (.int .i64 step_0))) rfl rfl rfl (J_move rfl (Opd.tmp rfl)) ?_
    replace h := bind_some h; obtain ⟨x2, hx2, h⟩ := h
    refine RegL.pure (p := (pEq (.bool x2))) rfl rfl rfl (J_call rfl Try.call81 (c_spec_l00In hx2) (Opds.cons (Opd.tmp rfl) (Opds.cons Opd.con (Opds.cons Opd.con Opds.nil)))) ?_
    refine RegL.pure (p := (pEq (.bool x2))) rfl rfl rfl (J_move rfl (Opd.tmp rfl)) ?_
    rcases Bool.eq_false_or_eq_true x2 with hc3 | hc3
    · replace h := bif_t hc3 h
      refine RegL.pureG (p := (pEq (.int .i64 width_1))) rfl rfl rfl hc3 rfl rfl (J_move rfl (Opd.tmp rfl)) ?_
      replace h := bind_some h; obtain ⟨x4, hx4, h⟩ := h
      refine RegL.pureG (p := (pEq (.bool x4))) rfl rfl rfl hc3 rfl rfl (J_call rfl Try.call81 (c_spec_l00In hx4) (Opds.cons (Opd.tmp rfl) (Opds.cons Opd.con (Opds.cons Opd.con Opds.nil)))) ?_
      refine RegL.pure (p := (pEq (.bool x4))) rfl rfl rfl (J_pick rfl (Opd.tmp rfl) (fun _ => (Opd.tmp rfl)) (fun hf => absurd (hc3.symm.trans hf) (by decide))) ?_
      refine RegL.pure (p := (pEq (.bool x4))) rfl rfl rfl (J_move rfl (Opd.tmp rfl)) ?_
      rcases Bool.eq_false_or_eq_true x4 with hc5 | hc5
      · replace h := bif_t hc5 h
        refine RegL.pureG (p := (pEq (.int .i64 height_2))) rfl rfl rfl hc5 rfl rfl (J_move rfl (Opd.tmp rfl)) ?_
        replace h := bind_some h; obtain ⟨x6, hx6, h⟩ := h
        refine RegL.pureG (p := (pEq (.bool x6))) rfl rfl rfl hc5 rfl rfl (J_call rfl Try.call81 (c_spec_l00In hx6) (Opds.cons (Opd.tmp rfl) (Opds.cons Opd.con (Opds.cons Opd.con Opds.nil)))) ?_
        refine RegL.pure (p := (pEq (.bool x6))) rfl rfl rfl (J_pick rfl (Opd.tmp rfl) (fun _ => (Opd.tmp rfl)) (fun hf => absurd (hc5.symm.trans hf) (by decide))) ?_
        refine RegL.pure (p := (pEq (.bool x6))) rfl rfl rfl (J_move rfl (Opd.tmp rfl)) ?_
        rcases Bool.eq_false_or_eq_true x6 with hc7 | hc7
        · replace h := bif_t hc7 h
          refine RegL.pureG (p := (pEq (.int .i64 width_1))) rfl rfl rfl hc7 rfl rfl (J_move rfl (Opd.tmp rfl)) ?_
          refine RegL.pureG (p := (pEq (.int .i64 (w64 (width_1 - (1 : Int)))))) rfl rfl rfl hc7 rfl rfl (J_bin rfl (Opd.tmp rfl) Opd.con B_sub) ?_
          refine RegL.pureG (p := (pEq (.int .i64 step_0))) rfl rfl rfl hc7 rfl rfl (J_move rfl (Opd.tmp rfl)) ?_
          refine RegL.pureG (p := (pEq (.int .i64 (w64 ((w64 (width_1 - (1 : Int))) * step_0))))) rfl rfl rfl hc7 rfl rfl (J_bin rfl (Opd.tmp rfl) (Opd.tmp rfl) B_mul) ?_
          refine RegL.pureG (p := (pEq (.bool (decide ((w64 ((w64 (width_1 - (1 : Int))) * step_0)) ≤ (200000 : Int)))))) rfl rfl rfl hc7 rfl rfl (J_bin rfl (Opd.tmp rfl) Opd.con B_leq) ?_
          refine RegL.pure (p := (pEq (.bool (decide ((w64 ((w64 (width_1 - (1 : Int))) * step_0)) ≤ (200000 : Int)))))) rfl rfl rfl (J_pick rfl (Opd.tmp rfl) (fun _ => (Opd.tmp rfl)) (fun hf => absurd (hc7.symm.trans hf) (by decide))) ?_
          refine RegL.pure (p := (pEq (.bool (decide ((w64 ((w64 (width_1 - (1 : Int))) * step_0)) ≤ (200000 : Int)))))) rfl rfl rfl (J_move rfl (Opd.tmp rfl)) ?_
          rcases Bool.eq_false_or_eq_true (decide ((w64 ((w64 (width_1 - (1 : Int))) * step_0)) ≤ (200000 : Int))) with hc8 | hc8
          · replace h := bif_t hc8 h
            refine RegL.pureG (p := (pEq (.int .i64 height_2))) rfl rfl rfl hc8 rfl rfl (J_move rfl (Opd.tmp rfl)) ?_
            refine RegL.pureG (p := (pEq (.int .i64 (w64 (height_2 - (1 : Int)))))) rfl rfl rfl hc8 rfl rfl (J_bin rfl (Opd.tmp rfl) Opd.con B_sub) ?_
            refine RegL.pureG (p := (pEq (.int .i64 step_0))) rfl rfl rfl hc8 rfl rfl (J_move rfl (Opd.tmp rfl)) ?_
            refine RegL.pureG (p := (pEq (.int .i64 (w64 ((w64 (height_2 - (1 : Int))) * step_0))))) rfl rfl rfl hc8 rfl rfl (J_bin rfl (Opd.tmp rfl) (Opd.tmp rfl) B_mul) ?_
            refine RegL.pureG (p := (pEq (.bool (decide ((w64 ((w64 (height_2 - (1 : Int))) * step_0)) ≤ (200000 : Int)))))) rfl rfl rfl hc8 rfl rfl (J_bin rfl (Opd.tmp rfl) Opd.con B_leq) ?_
            refine RegL.pure (p := (pEq (.bool (decide ((w64 ((w64 (height_2 - (1 : Int))) * step_0)) ≤ (200000 : Int)))))) rfl rfl rfl (J_pick rfl (Opd.tmp rfl) (fun _ => (Opd.tmp rfl)) (fun hf => absurd (hc8.symm.trans hf) (by decide))) ?_
            refine RegL.pure (p := (pEq (.bool (decide ((w64 ((w64 (height_2 - (1 : Int))) * step_0)) ≤ (200000 : Int)))))) rfl rfl rfl (J_assign rfl (Opd.tmp rfl)) ?_
            refine RegL.nil ?_
            replace h := Option.some.inj h; subst h
            exact Ct.mid () rfl ⟨rfl, trivial⟩
          · replace h := bif_f hc8 h
            refine RegL.skipG rfl rfl rfl hc8 rfl rfl ?_
            refine RegL.skipG rfl rfl rfl hc8 rfl rfl ?_
            refine RegL.skipG rfl rfl rfl hc8 rfl rfl ?_
            refine RegL.skipG rfl rfl rfl hc8 rfl rfl ?_
            refine RegL.skipG rfl rfl rfl hc8 rfl rfl ?_
            refine RegL.pure (p := (pEq (.bool false))) rfl rfl rfl (J_pick rfl (Opd.tmp rfl) (fun hf => absurd (hc8.symm.trans hf) (by decide)) (fun _ => Opd.con)) ?_
            refine RegL.pure (p := (pEq (.bool false))) rfl rfl rfl (J_assign rfl (Opd.tmp rfl)) ?_
            refine RegL.nil ?_
            replace h := Option.some.inj h; subst h
            exact Ct.mid () rfl ⟨rfl, trivial⟩
        · replace h := bif_f hc7 h
          refine RegL.skipG rfl rfl rfl hc7 rfl rfl ?_
          refine RegL.skipG rfl rfl rfl hc7 rfl rfl ?_
          refine RegL.skipG rfl rfl rfl hc7 rfl rfl ?_
          refine RegL.skipG rfl rfl rfl hc7 rfl rfl ?_
          refine RegL.skipG rfl rfl rfl hc7 rfl rfl ?_
          refine RegL.pure (p := (pEq (.bool false))) rfl rfl rfl (J_pick rfl (Opd.tmp rfl) (fun hf => absurd (hc7.symm.trans hf) (by decide)) (fun _ => Opd.con)) ?_
          refine RegL.pure (p := (pEq (.bool false))) rfl rfl rfl (J_move rfl (Opd.tmp rfl)) ?_
          refine RegL.skipG rfl rfl rfl rfl rfl rfl ?_
          refine RegL.skipG rfl rfl rfl rfl rfl rfl ?_
          refine RegL.skipG rfl rfl rfl rfl rfl rfl ?_
          refine RegL.skipG rfl rfl rfl rfl rfl rfl ?_
          refine RegL.skipG rfl rfl rfl rfl rfl rfl ?_
          refine RegL.pure (p := (pEq (.bool false))) rfl rfl rfl (J_pick rfl (Opd.tmp rfl) (fun hf => absurd hf (by decide)) (fun _ => Opd.con)) ?_
          refine RegL.pure (p := (pEq (.bool false))) rfl rfl rfl (J_assign rfl (Opd.tmp rfl)) ?_
          refine RegL.nil ?_
          replace h := Option.some.inj h; subst h
          exact Ct.mid () rfl ⟨rfl, trivial⟩
      · replace h := bif_f hc5 h
        refine RegL.skipG rfl rfl rfl hc5 rfl rfl ?_
        refine RegL.skipG rfl rfl rfl hc5 rfl rfl ?_
        refine RegL.pure (p := (pEq (.bool false))) rfl rfl rfl (J_pick rfl (Opd.tmp rfl) (fun hf => absurd (hc5.symm.trans hf) (by decide)) (fun _ => Opd.con)) ?_
        refine RegL.pure (p := (pEq (.bool false))) rfl rfl rfl (J_move rfl (Opd.tmp rfl)) ?_
        refine RegL.skipG rfl rfl rfl rfl rfl rfl ?_
        refine RegL.skipG rfl rfl rfl rfl rfl rfl ?_
        refine RegL.skipG rfl rfl rfl rfl rfl rfl ?_
        refine RegL.skipG rfl rfl rfl rfl rfl rfl ?_
        refine RegL.skipG rfl rfl rfl rfl rfl rfl ?_
        refine RegL.pure (p := (pEq (.bool false))) rfl rfl rfl (J_pick rfl (Opd.tmp rfl) (fun hf => absurd hf (by decide)) (fun _ => Opd.con)) ?_
        refine RegL.pure (p := (pEq (.bool false))) rfl rfl rfl (J_move rfl (Opd.tmp rfl)) ?_
        refine RegL.skipG rfl rfl rfl rfl rfl rfl ?_
        refine RegL.skipG rfl rfl rfl rfl rfl rfl ?_
        refine RegL.skipG rfl rfl rfl rfl rfl rfl ?_
        refine RegL.skipG rfl rfl rfl rfl rfl rfl ?_
        refine RegL.skipG rfl rfl rfl rfl rfl rfl ?_
        refine RegL.pure (p := (pEq (.bool false))) rfl rfl rfl (J_pick rfl (Opd.tmp rfl) (fun hf => absurd hf (by decide)) (fun _ => Opd.con)) ?_
        refine RegL.pure (p := (pEq (.bool false))) rfl rfl rfl (J_assign rfl (Opd.tmp rfl)) ?_
        refine RegL.nil ?_
        replace h := Option.some.inj h; subst h
        exact Ct.mid () rfl ⟨rfl, trivial⟩
    · replace h := bif_f hc3 h
      refine RegL.skipG rfl rfl rfl hc3 rfl rfl ?_
      refine RegL.skipG rfl rfl rfl hc3 rfl rfl ?_
      refine RegL.pure (p := (pEq (.bool false))) rfl rfl rfl (J_pick rfl (Opd.tmp rfl) (fun hf => absurd (hc3.symm.trans hf) (by decide)) (fun _ => Opd.con)) ?_
      refine RegL.pure (p := (pEq (.bool false))) rfl rfl rfl (J_move rfl (Opd.tmp rfl)) ?_
      refine RegL.skipG rfl rfl rfl rfl rfl rfl ?_
      refine RegL.skipG rfl rfl rfl rfl rfl rfl ?_
      refine RegL.pure (p := (pEq (.bool false))) rfl rfl rfl (J_pick rfl (Opd.tmp rfl) (fun hf => absurd hf (by decide)) (fun _ => Opd.con)) ?_
      refine RegL.pure (p := (pEq (.bool false))) rfl rfl rfl (J_move rfl (Opd.tmp rfl)) ?_
      refine RegL.skipG rfl rfl rfl rfl rfl rfl ?_
      refine RegL.skipG rfl rfl rfl rfl rfl rfl ?_
      refine RegL.skipG rfl rfl rfl rfl rfl rfl ?_
      refine RegL.skipG rfl rfl rfl rfl rfl rfl ?_
      refine RegL.skipG rfl rfl rfl rfl rfl rfl ?_
      refine RegL.pure (p := (pEq (.bool false))) rfl rfl rfl (J_pick rfl (Opd.tmp rfl) (fun hf => absurd hf (by decide)) (fun _ => Opd.con)) ?_
      refine RegL.pure (p := (pEq (.bool false))) rfl rfl rfl (J_move rfl (Opd.tmp rfl)) ?_
      refine RegL.skipG rfl rfl rfl rfl rfl rfl ?_
      refine RegL.skipG rfl rfl rfl rfl rfl rfl ?_
      refine RegL.skipG rfl rfl rfl rfl rfl rfl ?_
      refine RegL.skipG rfl rfl rfl rfl rfl rfl ?_
      refine RegL.skipG rfl rfl rfl rfl rfl rfl ?_
      refine RegL.pure (p := (pEq (.bool false))) rfl rfl rfl (J_pick rfl (Opd.tmp rfl) (fun hf => absurd hf (by decide)) (fun _ => Opd.con)) ?_
      refine RegL.pure (p := (pEq (.bool false))) rfl rfl rfl (J_assign rfl (Opd.tmp rfl)) ?_
      refine RegL.nil ?_
      replace h := Option.some.inj h; subst h
      exact Ct.mid () rfl ⟨rfl, trivial⟩
  · clear hx1
    refine Ct.then_tr ?_
    refine Tr.weak (Γ' := [(6, (pEq (.bool x1)))]) ⟨rfl, trivial⟩ ?_
    refine Tr.ret ?_
    replace h := Option.some.inj h; subst h
    exact Ct.ret1 rfl rfl

theorem c_spec_l02Level {v_0 : Int} {r : Bool} (h : m_spec_l02Level v_0 = some r) : CallJ Try.prog 97 [(pEq (.int .i64 v_0))] (pEq (.bool r)) := by
  unfold m_spec_l02Level at h
  refine CallJ.enter Try.func97 rfl Try.ntmps97 rfl fun W I0 => ?_
  refine Tr.weak (Γ' := [(0, (pEq (.int .i64 v_0)))]) ⟨rfl, trivial⟩ ?_
  refine Tr.seq ?_
  refine Tr.region ?_
  refine RegL.pure (p := (pEq (.bool false))) rfl rfl rfl (J_assign rfl Opd.con) ?_
  refine RegL.nil ?_
  refine Ct.then_tr ?_
  refine Tr.weak (Γ' := [(0, (pEq (.int .i64 v_0)))]) ⟨rfl, trivial⟩ ?_
  refine Tr.seq ?_
  refine Tr.region ?_
  refine RegL.pure (p := (pEq (.int .i64 v_0))) rfl rfl rfl (J_move rfl (Opd.tmp rfl)) ?_
  replace h := bind_some h; obtain ⟨x1, hx1, h⟩ := h
  refine RegL.pure (p := (pEq (.bool x1))) rfl rfl rfl (J_call rfl Try.call81 (c_spec_l00In hx1) (Opds.cons (Opd.tmp rfl) (Opds.cons Opd.con (Opds.cons Opd.con Opds.nil)))) ?_
  refine RegL.pure (p := (pEq (.bool x1))) rfl rfl rfl (J_assign rfl (Opd.tmp rfl)) ?_
  refine RegL.nil ?_
  refine Ct.then_tr ?_
  refine Tr.weak (Γ' := [(2, (pEq (.bool x1)))]) ⟨rfl, trivial⟩ ?_
  refine Tr.ret ?_
  replace h := Option.some.inj h; subst h
  exact Ct.ret1 rfl rfl

theorem c_spec_l20Ok {a_0 : GRaster} {r : Bool} (h : m_spec_l20Ok a_0 = some r) : CallJ Try.prog 78 [(pPtr (cGRaster a_0))] (pEq (.bool r)) := by
  unfold m_spec_l20Ok at h
  refine CallJ.enter Try.func78 rfl Try.ntmps78 rfl fun W I0 => ?_
  refine Tr.weak (Γ' := [(0, (pPtr (cGRaster a_0)))]) ⟨rfl, trivial⟩ ?_
  refine Tr.seq ?_
  refine Tr.region ?_
  refine RegL.pure (p := (pEq (.bool false))) rfl rfl rfl (J_assign rfl Opd.con) ?_
  refine RegL.nil ?_
  refine Ct.then_tr ?_
  refine Tr.weak (Γ' := [(0, (pPtr (cGRaster a_0)))]) ⟨rfl, trivial⟩ ?_
  refine Tr.seq ?_
  refine Tr.seq ?_
  replace h := bind_some h; obtain ⟨x1, hx1, h⟩ := h
  refine Tr.cut (γ := Unit) (Γm := fun g => [(0, (pPtr (cGRaster a_0))), (47, (pEq (.bool x1)))]) (Ωm := fun g => []) ?_ (fun g5 => ?_)
  · clear h
    have h := hx1
    clear hx1
    replace h := bind_some h; obtain ⟨x2, hx2, h⟩ := h
    rcases Bool.eq_false_or_eq_true (!x2) with hc3 | hc3
    · replace h := bif_t hc3 h
      refine Tr.draw (n := 97) (es := [Ent.mk [(0, (pPtr (cGRaster a_0)))] (pPtr (cGRaster a_0)) true, Ent.mk [(4, (pPtr (cGRaster a_0)))] (pPtr (cGRaster a_0)) true, Ent.mk [(5, (pPtr (cGRaster a_0)))] (pPtr ((cK .i64) a_0.Step)) true, Ent.mk [(6, (pPtr ((cK .i64) a_0.Step)))] (pEq (.int .i64 a_0.Step)) true, Ent.mk [(0, (pPtr (cGRaster a_0)))] (pPtr (cGRaster a_0)) true, Ent.mk [(8, (pPtr (cGRaster a_0)))] (pPtr (cGRaster a_0)) true, Ent.mk [(9, (pPtr (cGRaster a_0)))] (pPtr ((cK .i64) a_0.Width)) true, Ent.mk [(10, (pPtr ((cK .i64) a_0.Width)))] (pEq (.int .i64 a_0.Width)) true, Ent.mk [(0, (pPtr (cGRaster a_0)))] (pPtr (cGRaster a_0)) true, Ent.mk [(12, (pPtr (cGRaster a_0)))] (pPtr (cGRaster a_0)) true, Ent.mk [(13, (pPtr (cGRaster a_0)))] (pPtr ((cK .i64) a_0.Height)) true, Ent.mk [(14, (pPtr ((cK .i64) a_0.Height)))] (pEq (.int .i64 a_0.Height)) true, Ent.mk [(7, (pEq (.int .i64 a_0.Step))), (11, (pEq (.int .i64 a_0.Width))), (15, (pEq (.int .i64 a_0.Height)))] (pEq (.bool x2)) true, Ent.mk [(16, (pEq (.bool x2)))] (pEq (.bool (!x2))) true, Ent.mk [(17, (pEq (.bool (!x2))))] (pEq (.bool (!x2))) true, Ent.mk [] (pEq undef) false, Ent.mk [] (pEq undef) false, Ent.mk [] (pEq undef) false, Ent.mk [] (pEq undef) false, Ent.mk [] (pEq undef) false, Ent.mk [] (pEq undef) false, Ent.mk [] (pEq undef) false, Ent.mk [] (pEq undef) false, Ent.mk [] (pEq undef) false, Ent.mk [] (pEq undef) false, Ent.mk [] (pEq undef) false, Ent.mk [] (pEq undef) false, Ent.mk [] (pEq undef) false, Ent.mk [] (pEq undef) false, Ent.mk [] (pEq undef) false, Ent.mk [(18, (pEq (.bool (!x2)))), (33, (pEq undef))] (pEq (.bool true)) true, Ent.mk [(34, (pEq (.bool true)))] (pEq (.bool true)) true, Ent.mk [] (pEq undef) false, Ent.mk [] (pEq undef) false, Ent.mk [] (pEq undef) false, Ent.mk [] (pEq undef) false, Ent.mk [] (pEq undef) false, Ent.mk [] (pEq undef) false, Ent.mk [] (pEq undef) false, Ent.mk [] (pEq undef) false, Ent.mk [] (pEq undef) false, Ent.mk [] (pEq undef) false, Ent.mk [] (pEq undef) false, Ent.mk [(35, (pEq (.bool true))), (46, (pEq undef))] (pEq (.bool true)) true]) (rd := [[0], [4], [5], [6], [0], [8], [9], [10], [0], [12], [13], [14], [7, 11, 15], [16], [17], [], [], [], [], [], [], [], [], [], [], [], [], [], [], [], [18, 33], [34], [], [], [], [], [], [], [], [], [], [], [], [35, 46]]) rfl hmix rfl (by kernel_rfl) ⟨⟨(OpJ.w (J_move rfl (Opd.tmp rfl))), ⟨rfl, trivial⟩, rfl⟩, ⟨(OpJ.w (J_nilCheck rfl (Opd.tmp rfl))), ⟨rfl, trivial⟩, rfl⟩, ⟨(OpJ.w (J_fieldAddr rfl Try.underlying56 rfl sz2 (by decide) (Opd.tmp rfl) rfl)), ⟨rfl, trivial⟩, rfl⟩, ⟨(OpJ.w (J_load rfl Try.isAgg2 (Opd.tmp rfl))), ⟨rfl, trivial⟩, rfl⟩, ⟨(OpJ.w (J_move rfl (Opd.tmp rfl))), ⟨rfl, trivial⟩, rfl⟩, ⟨(OpJ.w (J_nilCheck rfl (Opd.tmp rfl))), ⟨rfl, trivial⟩, rfl⟩, ⟨(OpJ.w (J_fieldAddr rfl Try.underlying56 rfl sz2 (by decide) (Opd.tmp rfl) rfl)), ⟨rfl, trivial⟩, rfl⟩, ⟨(OpJ.w (J_load rfl Try.isAgg2 (Opd.tmp rfl))), ⟨rfl, trivial⟩, rfl⟩, ⟨(OpJ.w (J_move rfl (Opd.tmp rfl))), ⟨rfl, trivial⟩, rfl⟩, ⟨(OpJ.w (J_nilCheck rfl (Opd.tmp rfl))), ⟨rfl, trivial⟩, rfl⟩, ⟨(OpJ.w (J_fieldAddr rfl Try.underlying56 rfl sz2 (by decide) (Opd.tmp rfl) rfl)), ⟨rfl, trivial⟩, rfl⟩, ⟨(OpJ.w (J_load rfl Try.isAgg2 (Opd.tmp rfl))), ⟨rfl, trivial⟩, rfl⟩, ⟨(OpJ.w (J_call rfl Try.call96 (c_spec_l04Size hx2) (Opds.cons (Opd.tmp rfl) (Opds.cons (Opd.tmp rfl) (Opds.cons (Opd.tmp rfl) Opds.nil))))), ⟨rfl, rfl, rfl, trivial⟩, rfl⟩, ⟨(OpJ.w (J_not rfl (Opd.tmp rfl))), ⟨rfl, trivial⟩, rfl⟩, ⟨(OpJ.w (J_move rfl (Opd.tmp rfl))), ⟨rfl, trivial⟩, rfl⟩, ⟨rfl, trivial, (.inl ⟨_, rfl, by simp [hc3]⟩)⟩, ⟨rfl, trivial, (.inl ⟨_, rfl, by simp [hc3]⟩)⟩, ⟨rfl, trivial, (.inl ⟨_, rfl, by simp [hc3]⟩)⟩, ⟨rfl, trivial, (.inl ⟨_, rfl, by simp [hc3]⟩)⟩, ⟨rfl, trivial, (.inl ⟨_, rfl, by simp [hc3]⟩)⟩, ⟨rfl, trivial, (.inl ⟨_, rfl, by simp [hc3]⟩)⟩, ⟨rfl, trivial, (.inl ⟨_, rfl, by simp [hc3]⟩)⟩, ⟨rfl, trivial, (.inl ⟨_, rfl, by simp [hc3]⟩)⟩, ⟨rfl, trivial, (.inl ⟨_, rfl, by simp [hc3]⟩)⟩, ⟨rfl, trivial, (.inl ⟨_, rfl, by simp [hc3]⟩)⟩, ⟨rfl, trivial, (.inl ⟨_, rfl, by simp [hc3]⟩)⟩, ⟨rfl, trivial, (.inl ⟨_, rfl, by simp [hc3]⟩)⟩, ⟨rfl, trivial, (.inl ⟨_, rfl, by simp [hc3]⟩)⟩, ⟨rfl, trivial, (.inl ⟨_, rfl, by simp [hc3]⟩)⟩, ⟨rfl, trivial, (.inl ⟨_, rfl, by simp [hc3]⟩)⟩, ⟨(OpJ.w (J_pick rfl (Opd.tmp rfl) (fun _ => Opd.con) (fun hf => absurd (hc3.symm.trans hf) (by decide)))), ⟨rfl, rfl, trivial⟩, rfl⟩, ⟨(OpJ.w (J_move rfl (Opd.tmp rfl))), ⟨rfl, trivial⟩, rfl⟩, ⟨rfl, trivial, (.inl ⟨_, rfl, rfl⟩)⟩, ⟨rfl, trivial, (.inl ⟨_, rfl, rfl⟩)⟩, ⟨rfl, trivial, (.inl ⟨_, rfl, rfl⟩)⟩, ⟨rfl, trivial, (.inl ⟨_, rfl, rfl⟩)⟩, ⟨rfl, trivial, (.inl ⟨_, rfl, rfl⟩)⟩, ⟨rfl, trivial, (.inl ⟨_, rfl, rfl⟩)⟩, ⟨rfl, trivial, (.inl ⟨_, rfl, rfl⟩)⟩, ⟨rfl, trivial, (.inl ⟨_, rfl, rfl⟩)⟩, ⟨rfl, trivial, (.inl ⟨_, rfl, rfl⟩)⟩, ⟨rfl, trivial, (.inl ⟨_, rfl, rfl⟩)⟩, ⟨rfl, trivial, (.inl ⟨_, rfl, rfl⟩)⟩, ⟨(OpJ.w (J_pick rfl (Opd.tmp rfl) (fun _ => Opd.con) (fun hf => absurd hf (by decide)))), ⟨rfl, rfl, trivial⟩, rfl⟩, trivial⟩ ?_
      replace h := Option.some.inj h; subst h
      exact Ct.mid () rfl ⟨rfl, rfl, trivial⟩
    · replace h := bif_f hc3 h
      rcases Bool.eq_false_or_eq_true ((a_0.Server.length : Int) != (w64 (a_0.Width * a_0.Height))) with hc4 | hc4
      · replace h := bif_t hc4 h
        refine Tr.draw (n := 97) (es := [Ent.mk [(0, (pPtr (cGRaster a_0)))] (pPtr (cGRaster a_0)) true, Ent.mk [(4, (pPtr (cGRaster a_0)))] (pPtr (cGRaster a_0)) true, Ent.mk [(5, (pPtr (cGRaster a_0)))] (pPtr ((cK .i64) a_0.Step)) true, Ent.mk [(6, (pPtr ((cK .i64) a_0.Step)))] (pEq (.int .i64 a_0.Step)) true, Ent.mk [(0, (pPtr (cGRaster a_0)))] (pPtr (cGRaster a_0)) true, Ent.mk [(8, (pPtr (cGRaster a_0)))] (pPtr (cGRaster a_0)) true, Ent.mk [(9, (pPtr (cGRaster a_0)))] (pPtr ((cK .i64) a_0.Width)) true, Ent.mk [(10, (pPtr ((cK .i64) a_0.Width)))] (pEq (.int .i64 a_0.Width)) true, Ent.mk [(0, (pPtr (cGRaster a_0)))] (pPtr (cGRaster a_0)) true, Ent.mk [(12, (pPtr (cGRaster a_0)))] (pPtr (cGRaster a_0)) true, Ent.mk [(13, (pPtr (cGRaster a_0)))] (pPtr ((cK .i64) a_0.Height)) true, Ent.mk [(14, (pPtr ((cK .i64) a_0.Height)))] (pEq (.int .i64 a_0.Height)) true, Ent.mk [(7, (pEq (.int .i64 a_0.Step))), (11, (pEq (.int .i64 a_0.Width))), (15, (pEq (.int .i64 a_0.Height)))] (pEq (.bool x2)) true, Ent.mk [(16, (pEq (.bool x2)))] (pEq (.bool (!x2))) true, Ent.mk [(17, (pEq (.bool (!x2))))] (pEq (.bool (!x2))) true, Ent.mk [(0, (pPtr (cGRaster a_0)))] (pPtr (cGRaster a_0)) true, Ent.mk [(19, (pPtr (cGRaster a_0)))] (pPtr (cGRaster a_0)) true, Ent.mk [(20, (pPtr (cGRaster a_0)))] (pPtr ((cSl 1 (cK .i64)) a_0.Server)) true, Ent.mk [(21, (pPtr ((cSl 1 (cK .i64)) a_0.Server)))] (pSl 1 (cK .i64) a_0.Server) true, Ent.mk [(22, (pSl 1 (cK .i64) a_0.Server))] (pEq (.int .i64 (a_0.Server.length : Int))) true, Ent.mk [(0, (pPtr (cGRaster a_0)))] (pPtr (cGRaster a_0)) true, Ent.mk [(24, (pPtr (cGRaster a_0)))] (pPtr (cGRaster a_0)) true, Ent.mk [(25, (pPtr (cGRaster a_0)))] (pPtr ((cK .i64) a_0.Width)) true, Ent.mk [(26, (pPtr ((cK .i64) a_0.Width)))] (pEq (.int .i64 a_0.Width)) true, Ent.mk [(0, (pPtr (cGRaster a_0)))] (pPtr (cGRaster a_0)) true, Ent.mk [(28, (pPtr (cGRaster a_0)))] (pPtr (cGRaster a_0)) true, Ent.mk [(29, (pPtr (cGRaster a_0)))] (pPtr ((cK .i64) a_0.Height)) true, Ent.mk [(30, (pPtr ((cK .i64) a_0.Height)))] (pEq (.int .i64 a_0.Height)) true, Ent.mk [(27, (pEq (.int .i64 a_0.Width))), (31, (pEq (.int .i64 a_0.Height)))] (pEq (.int .i64 (w64 (a_0.Width * a_0.Height)))) true, Ent.mk [(23, (pEq (.int .i64 (a_0.Server.length : Int)))), (32, (pEq (.int .i64 (w64 (a_0.Width * a_0.Height)))))] (pEq (.bool ((a_0.Server.length : Int) != (w64 (a_0.Width * a_0.Height))))) true, Ent.mk [(18, (pEq (.bool (!x2)))), (33, (pEq (.bool ((a_0.Server.length : Int) != (w64 (a_0.Width * a_0.Height))))))] (pEq (.bool ((a_0.Server.length : Int) != (w64 (a_0.Width * a_0.Height))))) true, Ent.mk [(34, (pEq (.bool ((a_0.Server.length : Int) != (w64 (a_0.Width * a_0.Height))))))] (pEq (.bool ((a_0.Server.length : Int) != (w64 (a_0.Width * a_0.Height))))) true, Ent.mk [] (pEq undef) false, Ent.mk [] (pEq undef) false, Ent.mk [] (pEq undef) false, Ent.mk [] (pEq undef) false, Ent.mk [] (pEq undef) false, Ent.mk [] (pEq undef) false, Ent.mk [] (pEq undef) false, Ent.mk [] (pEq undef) false, Ent.mk [] (pEq undef) false, Ent.mk [] (pEq undef) false, Ent.mk [] (pEq undef) false, Ent.mk [(35, (pEq (.bool ((a_0.Server.length : Int) != (w64 (a_0.Width * a_0.Height)))))), (46, (pEq undef))] (pEq (.bool true)) true]) (rd := [[0], [4], [5], [6], [0], [8], [9], [10], [0], [12], [13], [14], [7, 11, 15], [16], [17], [0], [19], [20], [21], [22], [0], [24], [25], [26], [0], [28], [29], [30], [27, 31], [23, 32], [18, 33], [34], [], [], [], [], [], [], [], [], [], [], [], [35, 46]]) rfl hmix rfl (by kernel_rfl) ⟨⟨(OpJ.w (J_move rfl (Opd.tmp rfl))), ⟨rfl, trivial⟩, rfl⟩, ⟨(OpJ.w (J_nilCheck rfl (Opd.tmp rfl))), ⟨rfl, trivial⟩, rfl⟩, ⟨(OpJ.w (J_fieldAddr rfl Try.underlying56 rfl sz2 (by decide) (Opd.tmp rfl) rfl)), ⟨rfl, trivial⟩, rfl⟩, ⟨(OpJ.w (J_load rfl Try.isAgg2 (Opd.tmp rfl))), ⟨rfl, trivial⟩, rfl⟩, ⟨(OpJ.w (J_move rfl (Opd.tmp rfl))), ⟨rfl, trivial⟩, rfl⟩, ⟨(OpJ.w (J_nilCheck rfl (Opd.tmp rfl))), ⟨rfl, trivial⟩, rfl⟩, ⟨(OpJ.w (J_fieldAddr rfl Try.underlying56 rfl sz2 (by decide) (Opd.tmp rfl) rfl)), ⟨rfl, trivial⟩, rfl⟩, ⟨(OpJ.w (J_load rfl Try.isAgg2 (Opd.tmp rfl))), ⟨rfl, trivial⟩, rfl⟩, ⟨(OpJ.w (J_move rfl (Opd.tmp rfl))), ⟨rfl, trivial⟩, rfl⟩, ⟨(OpJ.w (J_nilCheck rfl (Opd.tmp rfl))), ⟨rfl, trivial⟩, rfl⟩, ⟨(OpJ.w (J_fieldAddr rfl Try.underlying56 rfl sz2 (by decide) (Opd.tmp rfl) rfl)), ⟨rfl, trivial⟩, rfl⟩, ⟨(OpJ.w (J_load rfl Try.isAgg2 (Opd.tmp rfl))), ⟨rfl, trivial⟩, rfl⟩, ⟨(OpJ.w (J_call rfl Try.call96 (c_spec_l04Size hx2) (Opds.cons (Opd.tmp rfl) (Opds.cons (Opd.tmp rfl) (Opds.cons (Opd.tmp rfl) Opds.nil))))), ⟨rfl, rfl, rfl, trivial⟩, rfl⟩, ⟨(OpJ.w (J_not rfl (Opd.tmp rfl))), ⟨rfl, trivial⟩, rfl⟩, ⟨(OpJ.w (J_move rfl (Opd.tmp rfl))), ⟨rfl, trivial⟩, rfl⟩, ⟨(OpJ.w (J_move rfl (Opd.tmp rfl))), ⟨rfl, trivial⟩, (.inl ⟨_, rfl, by simp [hc3]⟩)⟩, ⟨(OpJ.w (J_nilCheck rfl (Opd.tmp rfl))), ⟨rfl, trivial⟩, (.inl ⟨_, rfl, by simp [hc3]⟩)⟩, ⟨(OpJ.w (J_fieldAddr rfl Try.underlying56 rfl sz22 (by decide) (Opd.tmp rfl) rfl)), ⟨rfl, trivial⟩, (.inl ⟨_, rfl, by simp [hc3]⟩)⟩, ⟨(OpJ.w (J_load rfl Try.isAgg22 (Opd.tmp rfl))), ⟨rfl, trivial⟩, (.inl ⟨_, rfl, by simp [hc3]⟩)⟩, ⟨(OpJ.w (J_len rfl Try.underlying22 (Opd.tmp rfl) rfl)), ⟨rfl, trivial⟩, (.inl ⟨_, rfl, by simp [hc3]⟩)⟩, ⟨(OpJ.w (J_move rfl (Opd.tmp rfl))), ⟨rfl, trivial⟩, (.inl ⟨_, rfl, by simp [hc3]⟩)⟩, ⟨(OpJ.w (J_nilCheck rfl (Opd.tmp rfl))), ⟨rfl, trivial⟩, (.inl ⟨_, rfl, by simp [hc3]⟩)⟩, ⟨(OpJ.w (J_fieldAddr rfl Try.underlying56 rfl sz2 (by decide) (Opd.tmp rfl) rfl)), ⟨rfl, trivial⟩, (.inl ⟨_, rfl, by simp [hc3]⟩)⟩, ⟨(OpJ.w (J_load rfl Try.isAgg2 (Opd.tmp rfl))), ⟨rfl, trivial⟩, (.inl ⟨_, rfl, by simp [hc3]⟩)⟩, ⟨(OpJ.w (J_move rfl (Opd.tmp rfl))), ⟨rfl, trivial⟩, (.inl ⟨_, rfl, by simp [hc3]⟩)⟩, ⟨(OpJ.w (J_nilCheck rfl (Opd.tmp rfl))), ⟨rfl, trivial⟩, (.inl ⟨_, rfl, by simp [hc3]⟩)⟩, ⟨(OpJ.w (J_fieldAddr rfl Try.underlying56 rfl sz2 (by decide) (Opd.tmp rfl) rfl)), ⟨rfl, trivial⟩, (.inl ⟨_, rfl, by simp [hc3]⟩)⟩, ⟨(OpJ.w (J_load rfl Try.isAgg2 (Opd.tmp rfl))), ⟨rfl, trivial⟩, (.inl ⟨_, rfl, by simp [hc3]⟩)⟩, ⟨(OpJ.w (J_bin rfl (Opd.tmp rfl) (Opd.tmp rfl) B_mul)), ⟨rfl, rfl, trivial⟩, (.inl ⟨_, rfl, by simp [hc3]⟩)⟩, ⟨(OpJ.w (J_bin rfl (Opd.tmp rfl) (Opd.tmp rfl) B_neq)), ⟨rfl, rfl, trivial⟩, (.inl ⟨_, rfl, by simp [hc3]⟩)⟩, ⟨(OpJ.w (J_pick rfl (Opd.tmp rfl) (fun hf => absurd (hc3.symm.trans hf) (by decide)) (fun _ => (Opd.tmp rfl)))), ⟨rfl, rfl, trivial⟩, rfl⟩, ⟨(OpJ.w (J_move rfl (Opd.tmp rfl))), ⟨rfl, trivial⟩, rfl⟩, ⟨rfl, trivial, (.inl ⟨_, rfl, by simp [hc4]⟩)⟩, ⟨rfl, trivial, (.inl ⟨_, rfl, by simp [hc4]⟩)⟩, ⟨rfl, trivial, (.inl ⟨_, rfl, by simp [hc4]⟩)⟩, ⟨rfl, trivial, (.inl ⟨_, rfl, by simp [hc4]⟩)⟩, ⟨rfl, trivial, (.inl ⟨_, rfl, by simp [hc4]⟩)⟩, ⟨rfl, trivial, (.inl ⟨_, rfl, by simp [hc4]⟩)⟩, ⟨rfl, trivial, (.inl ⟨_, rfl, by simp [hc4]⟩)⟩, ⟨rfl, trivial, (.inl ⟨_, rfl, by simp [hc4]⟩)⟩, ⟨rfl, trivial, (.inl ⟨_, rfl, by simp [hc4]⟩)⟩, ⟨rfl, trivial, (.inl ⟨_, rfl, by simp [hc4]⟩)⟩, ⟨rfl, trivial, (.inl ⟨_, rfl, by simp [hc4]⟩)⟩, ⟨(OpJ.w (J_pick rfl (Opd.tmp rfl) (fun _ => Opd.con) (fun hf => absurd (hc4.symm.trans hf) (by decide)))), ⟨rfl, rfl, trivial⟩, rfl⟩, trivial⟩ ?_
        replace h := Option.some.inj h; subst h
        exact Ct.mid () rfl ⟨rfl, rfl, trivial⟩
      · replace h := bif_f hc4 h
        refine Tr.draw (n := 97) (es := [Ent.mk [(0, (pPtr (cGRaster a_0)))] (pPtr (cGRaster a_0)) true, Ent.mk [(4, (pPtr (cGRaster a_0)))] (pPtr (cGRaster a_0)) true, Ent.mk [(5, (pPtr (cGRaster a_0)))] (pPtr ((cK .i64) a_0.Step)) true, Ent.mk [(6, (pPtr ((cK .i64) a_0.Step)))] (pEq (.int .i64 a_0.Step)) true, Ent.mk [(0, (pPtr (cGRaster a_0)))] (pPtr (cGRaster a_0)) true, Ent.mk [(8, (pPtr (cGRaster a_0)))] (pPtr (cGRaster a_0)) true, Ent.mk [(9, (pPtr (cGRaster a_0)))] (pPtr ((cK .i64) a_0.Width)) true, Ent.mk [(10, (pPtr ((cK .i64) a_0.Width)))] (pEq (.int .i64 a_0.Width)) true, Ent.mk [(0, (pPtr (cGRaster a_0)))] (pPtr (cGRaster a_0)) true, Ent.mk [(12, (pPtr (cGRaster a_0)))] (pPtr (cGRaster a_0)) true, Ent.mk [(13, (pPtr (cGRaster a_0)))] (pPtr ((cK .i64) a_0.Height)) true, Ent.mk [(14, (pPtr ((cK .i64) a_0.Height)))] (pEq (.int .i64 a_0.Height)) true, Ent.mk [(7, (pEq (.int .i64 a_0.Step))), (11, (pEq (.int .i64 a_0.Width))), (15, (pEq (.int .i64 a_0.Height)))] (pEq (.bool x2)) true, Ent.mk [(16, (pEq (.bool x2)))] (pEq (.bool (!x2))) true, Ent.mk [(17, (pEq (.bool (!x2))))] (pEq (.bool (!x2))) true, Ent.mk [(0, (pPtr (cGRaster a_0)))] (pPtr (cGRaster a_0)) true, Ent.mk [(19, (pPtr (cGRaster a_0)))] (pPtr (cGRaster a_0)) true, Ent.mk [(20, (pPtr (cGRaster a_0)))] (pPtr ((cSl 1 (cK .i64)) a_0.Server)) true, Ent.mk [(21, (pPtr ((cSl 1 (cK .i64)) a_0.Server)))] (pSl 1 (cK .i64) a_0.Server) true, Ent.mk [(22, (pSl 1 (cK .i64) a_0.Server))] (pEq (.int .i64 (a_0.Server.length : Int))) true, Ent.mk [(0, (pPtr (cGRaster a_0)))] (pPtr (cGRaster a_0)) true, Ent.mk [(24, (pPtr (cGRaster a_0)))] (pPtr (cGRaster a_0)) true, Ent.mk [(25, (pPtr (cGRaster a_0)))] (pPtr ((cK .i64) a_0.Width)) true, Ent.mk [(26, (pPtr ((cK .i64) a_0.Width)))] (pEq (.int .i64 a_0.Width)) true, Ent.mk [(0, (pPtr (cGRaster a_0)))] (pPtr (cGRaster a_0)) true, Ent.mk [(28, (pPtr (cGRaster a_0)))] (pPtr (cGRaster a_0)) true, Ent.mk [(29, (pPtr (cGRaster a_0)))] (pPtr ((cK .i64) a_0.Height)) true, Ent.mk [(30, (pPtr ((cK .i64) a_0.Height)))] (pEq (.int .i64 a_0.Height)) true, Ent.mk [(27, (pEq (.int .i64 a_0.Width))), (31, (pEq (.int .i64 a_0.Height)))] (pEq (.int .i64 (w64 (a_0.Width * a_0.Height)))) true, Ent.mk [(23, (pEq (.int .i64 (a_0.Server.length : Int)))), (32, (pEq (.int .i64 (w64 (a_0.Width * a_0.Height)))))] (pEq (.bool ((a_0.Server.length : Int) != (w64 (a_0.Width * a_0.Height))))) true, Ent.mk [(18, (pEq (.bool (!x2)))), (33, (pEq (.bool ((a_0.Server.length : Int) != (w64 (a_0.Width * a_0.Height))))))] (pEq (.bool ((a_0.Server.length : Int) != (w64 (a_0.Width * a_0.Height))))) true, Ent.mk [(34, (pEq (.bool ((a_0.Server.length : Int) != (w64 (a_0.Width * a_0.Height))))))] (pEq (.bool ((a_0.Server.length : Int) != (w64 (a_0.Width * a_0.Height))))) true, Ent.mk [(0, (pPtr (cGRaster a_0)))] (pPtr (cGRaster a_0)) true, Ent.mk [(36, (pPtr (cGRaster a_0)))] (pPtr (cGRaster a_0)) true, Ent.mk [(37, (pPtr (cGRaster a_0)))] (pPtr ((cSl 1 (cK .i64)) a_0.Level)) true, Ent.mk [(38, (pPtr ((cSl 1 (cK .i64)) a_0.Level)))] (pSl 1 (cK .i64) a_0.Level) true, Ent.mk [(39, (pSl 1 (cK .i64) a_0.Level))] (pEq (.int .i64 (a_0.Level.length : Int))) true, Ent.mk [(0, (pPtr (cGRaster a_0)))] (pPtr (cGRaster a_0)) true, Ent.mk [(41, (pPtr (cGRaster a_0)))] (pPtr (cGRaster a_0)) true, Ent.mk [(42, (pPtr (cGRaster a_0)))] (pPtr ((cSl 1 (cK .i64)) a_0.Server)) true, Ent.mk [(43, (pPtr ((cSl 1 (cK .i64)) a_0.Server)))] (pSl 1 (cK .i64) a_0.Server) true, Ent.mk [(44, (pSl 1 (cK .i64) a_0.Server))] (pEq (.int .i64 (a_0.Server.length : Int))) true, Ent.mk [(40, (pEq (.int .i64 (a_0.Level.length : Int)))), (45, (pEq (.int .i64 (a_0.Server.length : Int))))] (pEq (.bool ((a_0.Level.length : Int) != (a_0.Server.length : Int)))) true, Ent.mk [(35, (pEq (.bool ((a_0.Server.length : Int) != (w64 (a_0.Width * a_0.Height)))))), (46, (pEq (.bool ((a_0.Level.length : Int) != (a_0.Server.length : Int)))))] (pEq (.bool ((a_0.Level.length : Int) != (a_0.Server.length : Int)))) true]) (rd := [[0], [4], [5], [6], [0], [8], [9], [10], [0], [12], [13], [14], [7, 11, 15], [16], [17], [0], [19], [20], [21], [22], [0], [24], [25], [26], [0], [28], [29], [30], [27, 31], [23, 32], [18, 33], [34], [0], [36], [37], [38], [39], [0], [41], [42], [43], [44], [40, 45], [35, 46]]) rfl hmix rfl (by kernel_rfl) ⟨⟨(OpJ.w (J_move rfl (Opd.tmp rfl))), ⟨rfl, trivial⟩, rfl⟩, ⟨(OpJ.w (J_nilCheck rfl (Opd.tmp rfl))), ⟨rfl, trivial⟩, rfl⟩, ⟨(OpJ.w (J_fieldAddr rfl Try.underlying56 rfl sz2 (by decide) (Opd.tmp rfl) rfl)), ⟨rfl, trivial⟩, rfl⟩, ⟨(OpJ.w (J_load rfl Try.isAgg2 (Opd.tmp rfl))), ⟨rfl, trivial⟩, rfl⟩, ⟨(OpJ.w (J_move rfl (Opd.tmp rfl))), ⟨rfl, trivial⟩, rfl⟩, ⟨(OpJ.w (J_nilCheck rfl (Opd.tmp rfl))), ⟨rfl, trivial⟩, rfl⟩, ⟨(OpJ.w (J_fieldAddr rfl Try.underlying56 rfl sz2 (by decide) (Opd.tmp rfl) rfl)), ⟨rfl, trivial⟩, rfl⟩, ⟨(OpJ.w (J_load rfl Try.isAgg2 (Opd.tmp rfl))), ⟨rfl, trivial⟩, rfl⟩, ⟨(OpJ.w (J_move rfl (Opd.tmp rfl))), ⟨rfl, trivial⟩, rfl⟩, ⟨(OpJ.w (J_nilCheck rfl (Opd.tmp rfl))), ⟨rfl, trivial⟩, rfl⟩, ⟨(OpJ.w (J_fieldAddr rfl Try.underlying56 rfl sz2 (by decide) (Opd.tmp rfl) rfl)), ⟨rfl, trivial⟩, rfl⟩, ⟨(OpJ.w (J_load rfl Try.isAgg2 (Opd.tmp rfl))), ⟨rfl, trivial⟩, rfl⟩, ⟨(OpJ.w (J_call rfl Try.call96 (c_spec_l04Size hx2) (Opds.cons (Opd.tmp rfl) (Opds.cons (Opd.tmp rfl) (Opds.cons (Opd.tmp rfl) Opds.nil))))), ⟨rfl, rfl, rfl, trivial⟩, rfl⟩, ⟨(OpJ.w (J_not rfl (Opd.tmp rfl))), ⟨rfl, trivial⟩, rfl⟩, ⟨(OpJ.w (J_move rfl (Opd.tmp rfl))), ⟨rfl, trivial⟩, rfl⟩, ⟨(OpJ.w (J_move rfl (Opd.tmp rfl))), ⟨rfl, trivial⟩, (.inl ⟨_, rfl, by simp [hc3]⟩)⟩, ⟨(OpJ.w (J_nilCheck rfl (Opd.tmp rfl))), ⟨rfl, trivial⟩, (.inl ⟨_, rfl, by simp [hc3]⟩)⟩, ⟨(OpJ.w (J_fieldAddr rfl Try.underlying56 rfl sz22 (by decide) (Opd.tmp rfl) rfl)), ⟨rfl, trivial⟩, (.inl ⟨_, rfl, by simp [hc3]⟩)⟩, ⟨(OpJ.w (J_load rfl Try.isAgg22 (Opd.tmp rfl))), ⟨rfl, trivial⟩, (.inl ⟨_, rfl, by simp [hc3]⟩)⟩, ⟨(OpJ.w (J_len rfl Try.underlying22 (Opd.tmp rfl) rfl)), ⟨rfl, trivial⟩, (.inl ⟨_, rfl, by simp [hc3]⟩)⟩, ⟨(OpJ.w (J_move rfl (Opd.tmp rfl))), ⟨rfl, trivial⟩, (.inl ⟨_, rfl, by simp [hc3]⟩)⟩, ⟨(OpJ.w (J_nilCheck rfl (Opd.tmp rfl))), ⟨rfl, trivial⟩, (.inl ⟨_, rfl, by simp [hc3]⟩)⟩, ⟨(OpJ.w (J_fieldAddr rfl Try.underlying56 rfl sz2 (by decide) (Opd.tmp rfl) rfl)), ⟨rfl, trivial⟩, (.inl ⟨_, rfl, by simp [hc3]⟩)⟩, ⟨(OpJ.w (J_load rfl Try.isAgg2 (Opd.tmp rfl))), ⟨rfl, trivial⟩, (.inl ⟨_, rfl, by simp [hc3]⟩)⟩, ⟨(OpJ.w (J_move rfl (Opd.tmp rfl))), ⟨rfl, trivial⟩, (.inl ⟨_, rfl, by simp [hc3]⟩)⟩, ⟨(OpJ.w (J_nilCheck rfl (Opd.tmp rfl))), ⟨rfl, trivial⟩, (.inl ⟨_, rfl, by simp [hc3]⟩)⟩, ⟨(OpJ.w (J_fieldAddr rfl Try.underlying56 rfl sz2 (by decide) (Opd.tmp rfl) rfl)), ⟨rfl, trivial⟩, (.inl ⟨_, rfl, by simp [hc3]⟩)⟩, ⟨(OpJ.w (J_load rfl Try.isAgg2 (Opd.tmp rfl))), ⟨rfl, trivial⟩, (.inl ⟨_, rfl, by simp [hc3]⟩)⟩, ⟨(OpJ.w (J_bin rfl (Opd.tmp rfl) (Opd.tmp rfl) B_mul)), ⟨rfl, rfl, trivial⟩, (.inl ⟨_, rfl, by simp [hc3]⟩)⟩, ⟨(OpJ.w (J_bin rfl (Opd.tmp rfl) (Opd.tmp rfl) B_neq)), ⟨rfl, rfl, trivial⟩, (.inl ⟨_, rfl, by simp [hc3]⟩)⟩, ⟨(OpJ.w (J_pick rfl (Opd.tmp rfl) (fun hf => absurd (hc3.symm.trans hf) (by decide)) (fun _ => (Opd.tmp rfl)))), ⟨rfl, rfl, trivial⟩, rfl⟩, ⟨(OpJ.w (J_move rfl (Opd.tmp rfl))), ⟨rfl, trivial⟩, rfl⟩, ⟨(OpJ.w (J_move rfl (Opd.tmp rfl))), ⟨rfl, trivial⟩, (.inl ⟨_, rfl, by simp [hc4]⟩)⟩, ⟨(OpJ.w (J_nilCheck rfl (Opd.tmp rfl))), ⟨rfl, trivial⟩, (.inl ⟨_, rfl, by simp [hc4]⟩)⟩, ⟨(OpJ.w (J_fieldAddr rfl Try.underlying56 rfl sz22 (by decide) (Opd.tmp rfl) rfl)), ⟨rfl, trivial⟩, (.inl ⟨_, rfl, by simp [hc4]⟩)⟩, ⟨(OpJ.w (J_load rfl Try.isAgg22 (Opd.tmp rfl))), ⟨rfl, trivial⟩, (.inl ⟨_, rfl, by simp [hc4]⟩)⟩, ⟨(OpJ.w (J_len rfl Try.underlying22 (Opd.tmp rfl) rfl)), ⟨rfl, trivial⟩, (.inl ⟨_, rfl, by simp [hc4]⟩)⟩, ⟨(OpJ.w (J_move rfl (Opd.tmp rfl))), ⟨rfl, trivial⟩, (.inl ⟨_, rfl, by simp [hc4]⟩)⟩, ⟨(OpJ.w (J_nilCheck rfl (Opd.tmp rfl))), ⟨rfl, trivial⟩, (.inl ⟨_, rfl, by simp [hc4]⟩)⟩, ⟨(OpJ.w (J_fieldAddr rfl Try.underlying56 rfl sz22 (by decide) (Opd.tmp rfl) rfl)), ⟨rfl, trivial⟩, (.inl ⟨_, rfl, by simp [hc4]⟩)⟩, ⟨(OpJ.w (J_load rfl Try.isAgg22 (Opd.tmp rfl))), ⟨rfl, trivial⟩, (.inl ⟨_, rfl, by simp [hc4]⟩)⟩, ⟨(OpJ.w (J_len rfl Try.underlying22 (Opd.tmp rfl) rfl)), ⟨rfl, trivial⟩, (.inl ⟨_, rfl, by simp [hc4]⟩)⟩, ⟨(OpJ.w (J_bin rfl (Opd.tmp rfl) (Opd.tmp rfl) B_neq)), ⟨rfl, rfl, trivial⟩, (.inl ⟨_, rfl, by simp [hc4]⟩)⟩, ⟨(OpJ.w (J_pick rfl (Opd.tmp rfl) (fun hf => absurd (hc4.symm.trans hf) (by decide)) (fun _ => (Opd.tmp rfl)))), ⟨rfl, rfl, trivial⟩, rfl⟩, trivial⟩ ?_
        replace h := Option.some.inj h; subst h
        exact Ct.mid () rfl ⟨rfl, rfl, trivial⟩
  · clear hx1
    refine Ct.then_tr ?_
    refine Tr.weak (Γ' := [(0, (pPtr (cGRaster a_0))), (47, (pEq (.bool x1)))]) ⟨rfl, rfl, trivial⟩ ?_
    refine Tr.cond (Opd.tmp rfl) (fun hc => ?_) (fun hc => ?_)
    · replace h := bif_t hc h
      refine Tr.seq ?_
      refine Tr.region ?_
      refine RegL.pure (p := (pEq (.bool false))) rfl rfl rfl (J_assign rfl Opd.con) ?_
      refine RegL.nil ?_
      refine Ct.then_tr ?_
      refine Tr.weak (Γ' := [(2, (pEq (.bool false)))]) ⟨rfl, trivial⟩ ?_
      refine Tr.ret ?_
      refine Ct.then_ret ?_
      replace h := Option.some.inj h; subst h
      exact Ct.ret1 rfl rfl
    · replace h := bif_f hc h
      refine Tr.skip ?_
      refine Ct.then_tr ?_
      refine Tr.weak (Γ' := [(0, (pPtr (cGRaster a_0)))]) ⟨rfl, trivial⟩ ?_
      refine Tr.seq ?_
      refine Tr.seq ?_
      refine Tr.region ?_
      refine RegL.pure (p := (pEq (.int .i64 (0 : Int)))) rfl rfl rfl (J_assign rfl Opd.con) ?_
      refine RegL.nil ?_
      refine Ct.then_tr ?_
      refine Tr.weak (Γ' := [(0, (pPtr (cGRaster a_0))), (3, (pEq (.int .i64 (0 : Int))))]) ⟨rfl, rfl, trivial⟩ ?_
      refine Tr.block ?_
      refine Tr.weak (Γ' := [(0, (pPtr (cGRaster a_0))), (3, (pEq (.int .i64 (0 : Int))))]) ⟨rfl, rfl, trivial⟩ ?_
      refine Tr.loop (γ := Unit) (σ := Int) (Γσ := fun s g => [(0, (pPtr (cGRaster a_0))), (3, (pEq (.int .i64 s)))]) (Ωσ := fun s g => []) (g := ()) h ?_
      clear h
      rintro v7 g8 t h
      replace h : m_spec_l20Ok_B6 a_0 v7 = some t := h
      unfold m_spec_l20Ok_B6 at h
      refine Tr.weakO (Γ' := [(0, (pPtr (cGRaster a_0))), (3, (pEq (.int .i64 v7)))]) (Ω' := []) rfl ⟨rfl, rfl, trivial⟩ ?_
      refine Tr.seq ?_
      refine Tr.seq ?_
      refine Tr.region ?_
      refine RegL.pure (p := (pEq (.int .i64 v7))) rfl rfl rfl (J_move rfl (Opd.tmp rfl)) ?_
      refine RegL.pure (p := (pPtr (cGRaster a_0))) rfl rfl rfl (J_move rfl (Opd.tmp rfl)) ?_
      refine RegL.pure (p := (pPtr (cGRaster a_0))) rfl rfl rfl (J_nilCheck rfl (Opd.tmp rfl)) ?_
      refine RegL.pure (p := (pPtr ((cSl 1 (cK .i64)) a_0.Server))) rfl rfl rfl (J_fieldAddr rfl Try.underlying56 rfl sz22 (by decide) (Opd.tmp rfl) rfl) ?_
      refine RegL.pure (p := (pSl 1 (cK .i64) a_0.Server)) rfl rfl rfl (J_load rfl Try.isAgg22 (Opd.tmp rfl)) ?_
      refine RegL.pure (p := (pEq (.int .i64 (a_0.Server.length : Int)))) rfl rfl rfl (J_len rfl Try.underlying22 (Opd.tmp rfl) rfl) ?_
      refine RegL.pure (p := (pEq (.bool (decide (v7 < (a_0.Server.length : Int)))))) rfl rfl rfl (J_bin rfl (Opd.tmp rfl) (Opd.tmp rfl) B_lss) ?_
      refine RegL.nil ?_
      refine Ct.then_tr ?_
      refine Tr.weak (Γ' := [(0, (pPtr (cGRaster a_0))), (3, (pEq (.int .i64 v7))), (54, (pEq (.bool (decide (v7 < (a_0.Server.length : Int))))))]) ⟨rfl, rfl, rfl, trivial⟩ ?_
      refine Tr.cond (Opd.tmp rfl) (fun hc => ?_) (fun hc => ?_)
      · replace h := bif_t hc h
        refine Tr.skip ?_
        refine Ct.then_tr ?_
        refine Tr.weak (Γ' := [(0, (pPtr (cGRaster a_0))), (3, (pEq (.int .i64 v7)))]) ⟨rfl, rfl, trivial⟩ ?_
        refine Tr.seq ?_
        refine Tr.block ?_
        refine Tr.seq ?_
        replace h := bind_some h; obtain ⟨x9, hx9, h⟩ := h
        refine Tr.cut (γ := Unit) (Γm := fun g => [(0, (pPtr (cGRaster a_0))), (3, (pEq (.int .i64 v7))), (96, (pEq (.bool x9)))]) (Ωm := fun g => []) ?_ (fun g19 => ?_)
        · clear h
          have h := hx9
          clear hx9
          refine Tr.region ?_
          refine RegL.pure (p := (pPtr (cGRaster a_0))) rfl rfl rfl (J_move rfl (Opd.tmp rfl)) ?_
          refine RegL.pure (p := (pPtr (cGRaster a_0))) rfl rfl rfl (J_nilCheck rfl (Opd.tmp rfl)) ?_
          refine RegL.pure (p := (pPtr ((cSl 1 (cK .i64)) a_0.Server))) rfl rfl rfl (J_fieldAddr rfl Try.underlying56 rfl sz22 (by decide) (Opd.tmp rfl) rfl) ?_
          refine RegL.pure (p := (pSl 1 (cK .i64) a_0.Server)) rfl rfl rfl (J_load rfl Try.isAgg22 (Opd.tmp rfl)) ?_
          refine RegL.pure (p := (pEq (.int .i64 v7))) rfl rfl rfl (J_move rfl (Opd.tmp rfl)) ?_
          replace h := bind_some h; obtain ⟨x10, hx10, h⟩ := h
          refine RegL.pure (p := (pPtr ((cK .i64) x10))) rfl rfl rfl (J_idx rfl Try.underlying22 sz2 (Opd.tmp rfl) (Opd.tmp rfl) hx10) ?_
          refine RegL.pure (p := (pEq (.int .i64 x10))) rfl rfl rfl (J_load rfl Try.isAgg2 (Opd.tmp rfl)) ?_
          replace h := bind_some h; obtain ⟨x11, hx11, h⟩ := h
          refine RegL.pure (p := (pEq (.bool x11))) rfl rfl rfl (J_call rfl Try.call81 (c_spec_l00In hx11) (Opds.cons (Opd.tmp rfl) (Opds.cons Opd.con (Opds.cons Opd.con Opds.nil)))) ?_
          refine RegL.pure (p := (pEq (.bool (!x11)))) rfl rfl rfl (J_not rfl (Opd.tmp rfl)) ?_
          refine RegL.pure (p := (pEq (.bool (!x11)))) rfl rfl rfl (J_move rfl (Opd.tmp rfl)) ?_
          rcases Bool.eq_false_or_eq_true (!x11) with hc12 | hc12
          · replace h := bif_t hc12 h
            refine RegL.skipG rfl rfl rfl hc12 rfl rfl ?_
            refine RegL.skipG rfl rfl rfl hc12 rfl rfl ?_
            refine RegL.skipG rfl rfl rfl hc12 rfl rfl ?_
            refine RegL.skipG rfl rfl rfl hc12 rfl rfl ?_
            refine RegL.skipG rfl rfl rfl hc12 rfl rfl ?_
            refine RegL.skipG rfl rfl rfl hc12 rfl rfl ?_
            refine RegL.skipG rfl rfl rfl hc12 rfl rfl ?_
            refine RegL.skipG rfl rfl rfl hc12 rfl rfl ?_
            refine RegL.skipG rfl rfl rfl hc12 rfl rfl ?_
            refine RegL.pure (p := (pEq (.bool true))) rfl rfl rfl (J_pick rfl (Opd.tmp rfl) (fun _ => Opd.con) (fun hf => absurd (hc12.symm.trans hf) (by decide))) ?_
            refine RegL.pure (p := (pEq (.bool true))) rfl rfl rfl (J_move rfl (Opd.tmp rfl)) ?_
            refine RegL.skipG rfl rfl rfl rfl rfl rfl ?_
            refine RegL.skipG rfl rfl rfl rfl rfl rfl ?_
            refine RegL.skipG rfl rfl rfl rfl rfl rfl ?_
            refine RegL.skipG rfl rfl rfl rfl rfl rfl ?_
            refine RegL.skipG rfl rfl rfl rfl rfl rfl ?_
            refine RegL.skipG rfl rfl rfl rfl rfl rfl ?_
            refine RegL.skipG rfl rfl rfl rfl rfl rfl ?_
            refine RegL.skipG rfl rfl rfl rfl rfl rfl ?_
            refine RegL.skipG rfl rfl rfl rfl rfl rfl ?_
            refine RegL.skipU rfl rfl rfl rfl rfl ?_
            refine RegL.skipU rfl rfl rfl rfl rfl ?_
            refine RegL.skipU rfl rfl rfl rfl rfl ?_
            refine RegL.skipU rfl rfl rfl rfl rfl ?_
            refine RegL.skipU rfl rfl rfl rfl rfl ?_
            refine RegL.skipU rfl rfl rfl rfl rfl ?_
            refine RegL.skipU rfl rfl rfl rfl rfl ?_
            refine RegL.skipU rfl rfl rfl rfl rfl ?_
            refine RegL.skipG rfl rfl rfl rfl rfl rfl ?_
            refine RegL.pure (p := (pEq (.bool true))) rfl rfl rfl (J_pick rfl (Opd.tmp rfl) (fun _ => Opd.con) (fun hf => absurd hf (by decide))) ?_
            refine RegL.nil ?_
            replace h := Option.some.inj h; subst h
            exact Ct.mid () rfl ⟨rfl, rfl, rfl, trivial⟩
          · replace h := bif_f hc12 h
            refine RegL.pureG (p := (pPtr (cGRaster a_0))) rfl rfl rfl hc12 rfl rfl (J_move rfl (Opd.tmp rfl)) ?_
            refine RegL.pureG (p := (pPtr (cGRaster a_0))) rfl rfl rfl hc12 rfl rfl (J_nilCheck rfl (Opd.tmp rfl)) ?_
            refine RegL.pureG (p := (pPtr ((cSl 1 (cK .i64)) a_0.Level))) rfl rfl rfl hc12 rfl rfl (J_fieldAddr rfl Try.underlying56 rfl sz22 (by decide) (Opd.tmp rfl) rfl) ?_
            refine RegL.pureG (p := (pSl 1 (cK .i64) a_0.Level)) rfl rfl rfl hc12 rfl rfl (J_load rfl Try.isAgg22 (Opd.tmp rfl)) ?_
            refine RegL.pureG (p := (pEq (.int .i64 v7))) rfl rfl rfl hc12 rfl rfl (J_move rfl (Opd.tmp rfl)) ?_
            replace h := bind_some h; obtain ⟨x13, hx13, h⟩ := h
            refine RegL.pureG (p := (pPtr ((cK .i64) x13))) rfl rfl rfl hc12 rfl rfl (J_idx rfl Try.underlying22 sz2 (Opd.tmp rfl) (Opd.tmp rfl) hx13) ?_
            refine RegL.pureG (p := (pEq (.int .i64 x13))) rfl rfl rfl hc12 rfl rfl (J_load rfl Try.isAgg2 (Opd.tmp rfl)) ?_
            replace h := bind_some h; obtain ⟨x14, hx14, h⟩ := h
            refine RegL.pureG (p := (pEq (.bool x14))) rfl rfl rfl hc12 rfl rfl (J_call rfl Try.call97 (c_spec_l02Level hx14) (Opds.cons (Opd.tmp rfl) Opds.nil)) ?_
            refine RegL.pureG (p := (pEq (.bool (!x14)))) rfl rfl rfl hc12 rfl rfl (J_not rfl (Opd.tmp rfl)) ?_
            refine RegL.pure (p := (pEq (.bool (!x14)))) rfl rfl rfl (J_pick rfl (Opd.tmp rfl) (fun hf => absurd (hc12.symm.trans hf) (by decide)) (fun _ => (Opd.tmp rfl))) ?_
            refine RegL.pure (p := (pEq (.bool (!x14)))) rfl rfl rfl (J_move rfl (Opd.tmp rfl)) ?_
            rcases Bool.eq_false_or_eq_true (!x14) with hc15 | hc15
            · replace h := bif_t hc15 h
              refine RegL.skipG rfl rfl rfl hc15 rfl rfl ?_
              refine RegL.skipG rfl rfl rfl hc15 rfl rfl ?_
              refine RegL.skipG rfl rfl rfl hc15 rfl rfl ?_
              refine RegL.skipG rfl rfl rfl hc15 rfl rfl ?_
              refine RegL.skipG rfl rfl rfl hc15 rfl rfl ?_
              refine RegL.skipG rfl rfl rfl hc15 rfl rfl ?_
              refine RegL.skipG rfl rfl rfl hc15 rfl rfl ?_
              refine RegL.skipG rfl rfl rfl hc15 rfl rfl ?_
              refine RegL.skipG rfl rfl rfl hc15 rfl rfl ?_
              refine RegL.skipU rfl rfl rfl rfl rfl ?_
              refine RegL.skipU rfl rfl rfl rfl rfl ?_
              refine RegL.skipU rfl rfl rfl rfl rfl ?_
              refine RegL.skipU rfl rfl rfl rfl rfl ?_
              refine RegL.skipU rfl rfl rfl rfl rfl ?_
              refine RegL.skipU rfl rfl rfl rfl rfl ?_
              refine RegL.skipU rfl rfl rfl rfl rfl ?_
              refine RegL.skipU rfl rfl rfl rfl rfl ?_
              refine RegL.skipG rfl rfl rfl hc15 rfl rfl ?_
              refine RegL.pure (p := (pEq (.bool true))) rfl rfl rfl (J_pick rfl (Opd.tmp rfl) (fun _ => Opd.con) (fun hf => absurd (hc15.symm.trans hf) (by decide))) ?_
              refine RegL.nil ?_
              replace h := Option.some.inj h; subst h
              exact Ct.mid () rfl ⟨rfl, rfl, rfl, trivial⟩
            · replace h := bif_f hc15 h
              refine RegL.pureG (p := (pPtr (cGRaster a_0))) rfl rfl rfl hc15 rfl rfl (J_move rfl (Opd.tmp rfl)) ?_
              refine RegL.pureG (p := (pPtr (cGRaster a_0))) rfl rfl rfl hc15 rfl rfl (J_nilCheck rfl (Opd.tmp rfl)) ?_
              refine RegL.pureG (p := (pPtr ((cSl 1 (cK .i64)) a_0.Server))) rfl rfl rfl hc15 rfl rfl (J_fieldAddr rfl Try.underlying56 rfl sz22 (by decide) (Opd.tmp rfl) rfl) ?_
              refine RegL.pureG (p := (pSl 1 (cK .i64) a_0.Server)) rfl rfl rfl hc15 rfl rfl (J_load rfl Try.isAgg22 (Opd.tmp rfl)) ?_
              refine RegL.pureG (p := (pEq (.int .i64 v7))) rfl rfl rfl hc15 rfl rfl (J_move rfl (Opd.tmp rfl)) ?_
              replace h := bind_some h; obtain ⟨x16, hx16, h⟩ := h
              refine RegL.pureG (p := (pPtr ((cK .i64) x16))) rfl rfl rfl hc15 rfl rfl (J_idx rfl Try.underlying22 sz2 (Opd.tmp rfl) (Opd.tmp rfl) hx16) ?_
              refine RegL.pureG (p := (pEq (.int .i64 x16))) rfl rfl rfl hc15 rfl rfl (J_load rfl Try.isAgg2 (Opd.tmp rfl)) ?_
              refine RegL.pureG (p := (pEq (.bool (decide (x16 < (0 : Int)))))) rfl rfl rfl hc15 rfl rfl (J_bin rfl (Opd.tmp rfl) Opd.con B_lss) ?_
              refine RegL.pureG (p := (pEq (.bool (decide (x16 < (0 : Int)))))) rfl rfl rfl hc15 rfl rfl (J_move rfl (Opd.tmp rfl)) ?_
              rcases Bool.eq_false_or_eq_true (decide (x16 < (0 : Int))) with hc17 | hc17
              · replace h := bif_t hc17 h
                refine RegL.pureG (p := (pPtr (cGRaster a_0))) rfl rfl rfl hc17 rfl rfl (J_move rfl (Opd.tmp rfl)) ?_
                refine RegL.pureG (p := (pPtr (cGRaster a_0))) rfl rfl rfl hc17 rfl rfl (J_nilCheck rfl (Opd.tmp rfl)) ?_
                refine RegL.pureG (p := (pPtr ((cSl 1 (cK .i64)) a_0.Level))) rfl rfl rfl hc17 rfl rfl (J_fieldAddr rfl Try.underlying56 rfl sz22 (by decide) (Opd.tmp rfl) rfl) ?_
                refine RegL.pureG (p := (pSl 1 (cK .i64) a_0.Level)) rfl rfl rfl hc17 rfl rfl (J_load rfl Try.isAgg22 (Opd.tmp rfl)) ?_
                refine RegL.pureG (p := (pEq (.int .i64 v7))) rfl rfl rfl hc17 rfl rfl (J_move rfl (Opd.tmp rfl)) ?_
                replace h := bind_some h; obtain ⟨x18, hx18, h⟩ := h
                refine RegL.pureG (p := (pPtr ((cK .i64) x18))) rfl rfl rfl hc17 rfl rfl (J_idx rfl Try.underlying22 sz2 (Opd.tmp rfl) (Opd.tmp rfl) hx18) ?_
                refine RegL.pureG (p := (pEq (.int .i64 x18))) rfl rfl rfl hc17 rfl rfl (J_load rfl Try.isAgg2 (Opd.tmp rfl)) ?_
                refine RegL.pureG (p := (pEq (.bool (x18 != (-300000 : Int))))) rfl rfl rfl hc17 rfl rfl (J_bin rfl (Opd.tmp rfl) Opd.con B_neq) ?_
                refine RegL.pureG (p := (pEq (.bool (x18 != (-300000 : Int))))) rfl rfl rfl hc15 rfl rfl (J_pick rfl (Opd.tmp rfl) (fun _ => (Opd.tmp rfl)) (fun hf => absurd (hc17.symm.trans hf) (by decide))) ?_
                refine RegL.pure (p := (pEq (.bool (x18 != (-300000 : Int))))) rfl rfl rfl (J_pick rfl (Opd.tmp rfl) (fun hf => absurd (hc15.symm.trans hf) (by decide)) (fun _ => (Opd.tmp rfl))) ?_
                refine RegL.nil ?_
                replace h := Option.some.inj h; subst h
                exact Ct.mid () rfl ⟨rfl, rfl, rfl, trivial⟩
              · replace h := bif_f hc17 h
                refine RegL.skipG rfl rfl rfl hc17 rfl rfl ?_
                refine RegL.skipG rfl rfl rfl hc17 rfl rfl ?_
                refine RegL.skipG rfl rfl rfl hc17 rfl rfl ?_
                refine RegL.skipG rfl rfl rfl hc17 rfl rfl ?_
                refine RegL.skipG rfl rfl rfl hc17 rfl rfl ?_
                refine RegL.skipG rfl rfl rfl hc17 rfl rfl ?_
                refine RegL.skipG rfl rfl rfl hc17 rfl rfl ?_
                refine RegL.skipG rfl rfl rfl hc17 rfl rfl ?_
                refine RegL.pureG (p := (pEq (.bool false))) rfl rfl rfl hc15 rfl rfl (J_pick rfl (Opd.tmp rfl) (fun hf => absurd (hc17.symm.trans hf) (by decide)) (fun _ => Opd.con)) ?_
                refine RegL.pure (p := (pEq (.bool false))) rfl rfl rfl (J_pick rfl (Opd.tmp rfl) (fun hf => absurd (hc15.symm.trans hf) (by decide)) (fun _ => (Opd.tmp rfl))) ?_
                refine RegL.nil ?_
                replace h := Option.some.inj h; subst h
                exact Ct.mid () rfl ⟨rfl, rfl, rfl, trivial⟩
        · clear hx9
          refine Ct.then_tr ?_
          refine Tr.weak (Γ' := [(0, (pPtr (cGRaster a_0))), (3, (pEq (.int .i64 v7))), (96, (pEq (.bool x9)))]) ⟨rfl, rfl, rfl, trivial⟩ ?_
          refine Tr.cond (Opd.tmp rfl) (fun hc => ?_) (fun hc => ?_)
          · replace h := bif_t hc h
            refine Tr.seq ?_
            refine Tr.region ?_
            refine RegL.pure (p := (pEq (.bool false))) rfl rfl rfl (J_assign rfl Opd.con) ?_
            refine RegL.nil ?_
            refine Ct.then_tr ?_
            refine Tr.weak (Γ' := [(2, (pEq (.bool false)))]) ⟨rfl, trivial⟩ ?_
            refine Tr.ret ?_
            refine Ct.blk_ret ?_
            refine Ct.then_ret ?_
            replace h := map_some h; obtain ⟨r1, h, rfl⟩ := h
            refine Ct.out_ret fun e => ?_
            subst e
            refine Ct.blk_ret ?_
            refine Ct.then_ret ?_
            replace h := Option.some.inj h; subst h
            exact Ct.ret1 rfl rfl
          · replace h := bif_f hc h
            refine Tr.skip ?_
            refine Ct.blk_normal ?_
            refine Ct.then_tr ?_
            refine Tr.weak (Γ' := [(0, (pPtr (cGRaster a_0))), (3, (pEq (.int .i64 v7)))]) ⟨rfl, rfl, trivial⟩ ?_
            refine Tr.region ?_
            refine RegL.pure (p := (pEq (.int .i64 v7))) rfl rfl rfl (J_move rfl (Opd.tmp rfl)) ?_
            refine RegL.pure (p := (pEq (.int .i64 (w64 (v7 + (1 : Int)))))) rfl rfl rfl (J_bin rfl (Opd.tmp rfl) Opd.con B_add) ?_
            refine RegL.pure (p := (pEq (.int .i64 (w64 (v7 + (1 : Int)))))) rfl rfl rfl (J_assign rfl (Opd.tmp rfl)) ?_
            refine RegL.nil ?_
            replace h := Option.some.inj h; subst h
            exact Ct.again () rfl ⟨rfl, rfl, trivial⟩
      · replace h := bif_f hc h
        refine Tr.exit ?_
        refine Ct.then_exit ?_
        replace h := map_some h; obtain ⟨r1, h, rfl⟩ := h
        refine Ct.out_exit fun e => ?_
        subst e
        refine Ct.blk_exit ?_
        refine Ct.then_tr ?_
        refine Tr.weak (Γ' := []) trivial ?_
        refine Tr.seq ?_
        refine Tr.region ?_
        refine RegL.pure (p := (pEq (.bool true))) rfl rfl rfl (J_assign rfl Opd.con) ?_
        refine RegL.nil ?_
        refine Ct.then_tr ?_
        refine Tr.weak (Γ' := [(2, (pEq (.bool true)))]) ⟨rfl, trivial⟩ ?_
        refine Tr.ret ?_
        replace h := Option.some.inj h; subst h
        exact Ct.ret1 rfl rfl

theorem c_spec_ServerAt {a_0 : GRaster} {a_1 : GPoint} {r : (Int × Int × Int)} (h : m_spec_ServerAt a_0 a_1 = some r) : CallJ Try.prog 44 [(pAgg (cGRaster a_0)), (pAgg (cGPoint a_1))] (pTup [(pEq (.int .i64 r.1)), (pEq (.int .i64 r.2.1)), (pEq (.int .i64 r.2.2))]) := by
  unfold m_spec_ServerAt at h
  refine CallJ.enter Try.func44 rfl Try.ntmps44 rfl fun W I0 => ?_
  refine Tr.weak (Γ' := [(0, (pAgg (cGRaster a_0))), (1, (pAgg (cGPoint a_1)))]) ⟨rfl, rfl, trivial⟩ ?_
  refine Tr.seq ?_
  refine Tr.region ?_
  refine RegL.pure (p := (pPtr (cGRaster a_0))) rfl rfl rfl (J_boxA rfl (Opd.tmp rfl)) ?_
  refine RegL.pure (p := (pPtr (cGPoint a_1))) rfl rfl rfl (J_boxA rfl (Opd.tmp rfl)) ?_
  refine RegL.pure (p := (pEq (.int .i64 (0 : Int)))) rfl rfl rfl (J_assign rfl Opd.con) ?_
  refine RegL.pure (p := (pEq (.int .i64 (0 : Int)))) rfl rfl rfl (J_assign rfl Opd.con) ?_
  refine RegL.pure (p := (pEq (.int .i64 (0 : Int)))) rfl rfl rfl (J_assign rfl Opd.con) ?_
  refine RegL.nil ?_
  refine Ct.then_tr ?_
  refine Tr.weak (Γ' := [(2, (pPtr (cGRaster a_0))), (3, (pPtr (cGPoint a_1)))]) ⟨rfl, rfl, trivial⟩ ?_
  refine Tr.seq ?_
  refine Tr.seq ?_
  refine Tr.region ?_
  replace h := bind_some h; obtain ⟨x1, hx1, h⟩ := h
  refine RegL.pure (p := (pEq (.bool x1))) rfl rfl rfl (J_call rfl Try.call78 (c_spec_l20Ok hx1) (Opds.cons (Opd.tmp rfl) Opds.nil)) ?_
  refine RegL.pure (p := (pEq (.bool (!x1)))) rfl rfl rfl (J_not rfl (Opd.tmp rfl)) ?_
  refine RegL.nil ?_
  refine Ct.then_tr ?_
  refine Tr.weak (Γ' := [(2, (pPtr (cGRaster a_0))), (3, (pPtr (cGPoint a_1))), (9, (pEq (.bool (!x1))))]) ⟨rfl, rfl, rfl, trivial⟩ ?_
  refine Tr.cond (Opd.tmp rfl) (fun hc => ?_) (fun hc => ?_)
  · replace h := bif_t hc h
    refine Tr.seq ?_
    refine Tr.region ?_
    refine RegL.pure (p := (pEq (.int .i64 (0 : Int)))) rfl rfl rfl (J_assign rfl Opd.con) ?_
    refine RegL.pure (p := (pEq (.int .i64 (0 : Int)))) rfl rfl rfl (J_assign rfl Opd.con) ?_
    refine RegL.pure (p := (pEq (.int .i64 (1 : Int)))) rfl rfl rfl (J_assign rfl Opd.con) ?_
    refine RegL.nil ?_
    refine Ct.then_tr ?_
    refine Tr.weak (Γ' := [(4, (pEq (.int .i64 (0 : Int)))), (5, (pEq (.int .i64 (0 : Int)))), (6, (pEq (.int .i64 (1 : Int))))]) ⟨rfl, rfl, rfl, trivial⟩ ?_
    refine Tr.ret ?_
    refine Ct.then_ret ?_
    replace h := Option.some.inj h; subst h
    exact Ct.ret3 rfl rfl rfl rfl
  · replace h := bif_f hc h
    refine Tr.skip ?_
    refine Ct.then_tr ?_
    refine Tr.weak (Γ' := [(2, (pPtr (cGRaster a_0))), (3, (pPtr (cGPoint a_1)))]) ⟨rfl, rfl, trivial⟩ ?_
    refine Tr.seq ?_
    refine Tr.seq ?_
    replace h := bind_some h; obtain ⟨x2, hx2, h⟩ := h
    refine Tr.cut (γ := Unit) (Γm := fun g => [(2, (pPtr (cGRaster a_0))), (3, (pPtr (cGPoint a_1))), (31, (pEq (.bool x2)))]) (Ωm := fun g => []) ?_ (fun g6 => ?_)
    · clear h
      have h := hx2
      clear hx2
      refine Tr.region ?_
      refine RegL.pure (p := (pPtr ((cK .i64) a_1.X))) rfl rfl rfl (J_fieldAddr rfl Try.underlying65 rfl sz2 (by decide) (Opd.tmp rfl) rfl) ?_
      refine RegL.pure (p := (pEq (.int .i64 a_1.X))) rfl rfl rfl (J_load rfl Try.isAgg2 (Opd.tmp rfl)) ?_
      refine RegL.pure (p := (pPtr ((cK .i64) a_0.Width))) rfl rfl rfl (J_fieldAddr rfl Try.underlying56 rfl sz2 (by decide) (Opd.tmp rfl) rfl) ?_
      refine RegL.pure (p := (pEq (.int .i64 a_0.Width))) rfl rfl rfl (J_load rfl Try.isAgg2 (Opd.tmp rfl)) ?_
      refine RegL.pure (p := (pEq (.int .i64 (w64 (a_0.Width - (1 : Int)))))) rfl rfl rfl (J_bin rfl (Opd.tmp rfl) Opd.con B_sub) ?_
      refine RegL.pure (p := (pPtr ((cK .i64) a_0.Step))) rfl rfl rfl (J_fieldAddr rfl Try.underlying56 rfl sz2 (by decide) (Opd.tmp rfl) rfl) ?_
      refine RegL.pure (p := (pEq (.int .i64 a_0.Step))) rfl rfl rfl (J_load rfl Try.isAgg2 (Opd.tmp rfl)) ?_
      refine RegL.pure (p := (pEq (.int .i64 (w64 ((w64 (a_0.Width - (1 : Int))) * a_0.Step))))) rfl rfl rfl (J_bin rfl (Opd.tmp rfl) (Opd.tmp rfl) B_mul) ?_
      replace h := bind_some h; obtain ⟨x3, hx3, h⟩ := h
      refine RegL.pure (p := (pEq (.bool x3))) rfl rfl rfl (J_call rfl Try.call81 (c_spec_l00In hx3) (Opds.cons (Opd.tmp rfl) (Opds.cons Opd.con (Opds.cons (Opd.tmp rfl) Opds.nil)))) ?_
      refine RegL.pure (p := (pEq (.bool (!x3)))) rfl rfl rfl (J_not rfl (Opd.tmp rfl)) ?_
      refine RegL.pure (p := (pEq (.bool (!x3)))) rfl rfl rfl (J_move rfl (Opd.tmp rfl)) ?_
      rcases Bool.eq_false_or_eq_true (!x3) with hc4 | hc4
      · replace h := bif_t hc4 h
        refine RegL.skipG rfl rfl rfl hc4 rfl rfl ?_
        refine RegL.skipG rfl rfl rfl hc4 rfl rfl ?_
        refine RegL.skipG rfl rfl rfl hc4 rfl rfl ?_
        refine RegL.skipG rfl rfl rfl hc4 rfl rfl ?_
        refine RegL.skipG rfl rfl rfl hc4 rfl rfl ?_
        refine RegL.skipG rfl rfl rfl hc4 rfl rfl ?_
        refine RegL.skipG rfl rfl rfl hc4 rfl rfl ?_
        refine RegL.skipG rfl rfl rfl hc4 rfl rfl ?_
        refine RegL.skipG rfl rfl rfl hc4 rfl rfl ?_
        refine RegL.skipG rfl rfl rfl hc4 rfl rfl ?_
        refine RegL.pure (p := (pEq (.bool true))) rfl rfl rfl (J_pick rfl (Opd.tmp rfl) (fun _ => Opd.con) (fun hf => absurd (hc4.symm.trans hf) (by decide))) ?_
        refine RegL.nil ?_
        replace h := Option.some.inj h; subst h
        exact Ct.mid () rfl ⟨rfl, rfl, rfl, trivial⟩
      · replace h := bif_f hc4 h
        refine RegL.pureG (p := (pPtr ((cK .i64) a_1.Y))) rfl rfl rfl hc4 rfl rfl (J_fieldAddr rfl Try.underlying65 rfl sz2 (by decide) (Opd.tmp rfl) rfl) ?_
        refine RegL.pureG (p := (pEq (.int .i64 a_1.Y))) rfl rfl rfl hc4 rfl rfl (J_load rfl Try.isAgg2 (Opd.tmp rfl)) ?_
        refine RegL.pureG (p := (pPtr ((cK .i64) a_0.Height))) rfl rfl rfl hc4 rfl rfl (J_fieldAddr rfl Try.underlying56 rfl sz2 (by decide) (Opd.tmp rfl) rfl) ?_
        refine RegL.pureG (p := (pEq (.int .i64 a_0.Height))) rfl rfl rfl hc4 rfl rfl (J_load rfl Try.isAgg2 (Opd.tmp rfl)) ?_
        refine RegL.pureG (p := (pEq (.int .i64 (w64 (a_0.Height - (1 : Int)))))) rfl rfl rfl hc4 rfl rfl (J_bin rfl (Opd.tmp rfl) Opd.con B_sub) ?_
        refine RegL.pureG (p := (pPtr ((cK .i64) a_0.Step))) rfl rfl rfl hc4 rfl rfl (J_fieldAddr rfl Try.underlying56 rfl sz2 (by decide) (Opd.tmp rfl) rfl) ?_
        refine RegL.pureG (p := (pEq (.int .i64 a_0.Step))) rfl rfl rfl hc4 rfl rfl (J_load rfl Try.isAgg2 (Opd.tmp rfl)) ?_
        refine RegL.pureG (p := (pEq (.int .i64 (w64 ((w64 (a_0.Height - (1 : Int))) * a_0.Step))))) rfl rfl rfl hc4 rfl rfl (J_bin rfl (Opd.tmp rfl) (Opd.tmp rfl) B_mul) ?_
        replace h := bind_some h; obtain ⟨x5, hx5, h⟩ := h
        refine RegL.pureG (p := (pEq (.bool x5))) rfl rfl rfl hc4 rfl rfl (J_call rfl Try.call81 (c_spec_l00In hx5) (Opds.cons (Opd.tmp rfl) (Opds.cons Opd.con (Opds.cons (Opd.tmp rfl) Opds.nil)))) ?_
        refine RegL.pureG (p := (pEq (.bool (!x5)))) rfl rfl rfl hc4 rfl rfl (J_not rfl (Opd.tmp rfl)) ?_
        refine RegL.pure (p := (pEq (.bool (!x5)))) rfl rfl rfl (J_pick rfl (Opd.tmp rfl) (fun hf => absurd (hc4.symm.trans hf) (by decide)) (fun _ => (Opd.tmp rfl))) ?_
        refine RegL.nil ?_
        replace h := Option.some.inj h; subst h
        exact Ct.mid () rfl ⟨rfl, rfl, rfl, trivial⟩
    · clear hx2
      refine Ct.then_tr ?_
      refine Tr.weak (Γ' := [(2, (pPtr (cGRaster a_0))), (3, (pPtr (cGPoint a_1))), (31, (pEq (.bool x2)))]) ⟨rfl, rfl, rfl, trivial⟩ ?_
      refine Tr.cond (Opd.tmp rfl) (fun hc => ?_) (fun hc => ?_)
      · replace h := bif_t hc h
        refine Tr.seq ?_
        refine Tr.region ?_
        refine RegL.pure (p := (pEq (.int .i64 (0 : Int)))) rfl rfl rfl (J_assign rfl Opd.con) ?_
        refine RegL.pure (p := (pEq (.int .i64 (0 : Int)))) rfl rfl rfl (J_assign rfl Opd.con) ?_
        refine RegL.pure (p := (pEq (.int .i64 (2 : Int)))) rfl rfl rfl (J_assign rfl Opd.con) ?_
        refine RegL.nil ?_
        refine Ct.then_tr ?_
        refine Tr.weak (Γ' := [(4, (pEq (.int .i64 (0 : Int)))), (5, (pEq (.int .i64 (0 : Int)))), (6, (pEq (.int .i64 (2 : Int))))]) ⟨rfl, rfl, rfl, trivial⟩ ?_
        refine Tr.ret ?_
        refine Ct.then_ret ?_
        replace h := Option.some.inj h; subst h
        exact Ct.ret3 rfl rfl rfl rfl
      · replace h := bif_f hc h
        refine Tr.skip ?_
        refine Ct.then_tr ?_
        refine Tr.weak (Γ' := [(2, (pPtr (cGRaster a_0))), (3, (pPtr (cGPoint a_1)))]) ⟨rfl, rfl, trivial⟩ ?_
        refine Tr.seq ?_
        replace h := bind_some h; obtain ⟨x7, hx7, h⟩ := h
        replace h := bind_some h; obtain ⟨x8, hx8, h⟩ := h
        refine Tr.draw (n := 66) (es := [Ent.mk [(3, (pPtr (cGPoint a_1)))] (pPtr ((cK .i64) a_1.Y)) true, Ent.mk [(32, (pPtr ((cK .i64) a_1.Y)))] (pEq (.int .i64 a_1.Y)) true, Ent.mk [(33, (pEq (.int .i64 a_1.Y)))] (pEq (.int .i64 (w64 ((2 : Int) * a_1.Y)))) true, Ent.mk [(2, (pPtr (cGRaster a_0)))] (pPtr ((cK .i64) a_0.Step)) true, Ent.mk [(35, (pPtr ((cK .i64) a_0.Step)))] (pEq (.int .i64 a_0.Step)) true, Ent.mk [(34, (pEq (.int .i64 (w64 ((2 : Int) * a_1.Y))))), (36, (pEq (.int .i64 a_0.Step)))] (pEq (.int .i64 (w64 ((w64 ((2 : Int) * a_1.Y)) + a_0.Step)))) true, Ent.mk [(2, (pPtr (cGRaster a_0)))] (pPtr ((cK .i64) a_0.Step)) true, Ent.mk [(38, (pPtr ((cK .i64) a_0.Step)))] (pEq (.int .i64 a_0.Step)) true, Ent.mk [(39, (pEq (.int .i64 a_0.Step)))] (pEq (.int .i64 (w64 ((2 : Int) * a_0.Step)))) true, Ent.mk [(37, (pEq (.int .i64 (w64 ((w64 ((2 : Int) * a_1.Y)) + a_0.Step))))), (40, (pEq (.int .i64 (w64 ((2 : Int) * a_0.Step)))))] (pEq (.int .i64 x7)) true, Ent.mk [(2, (pPtr (cGRaster a_0)))] (pPtr ((cK .i64) a_0.Width)) true, Ent.mk [(42, (pPtr ((cK .i64) a_0.Width)))] (pEq (.int .i64 a_0.Width)) true, Ent.mk [(41, (pEq (.int .i64 x7))), (43, (pEq (.int .i64 a_0.Width)))] (pEq (.int .i64 (w64 (x7 * a_0.Width)))) true, Ent.mk [(3, (pPtr (cGPoint a_1)))] (pPtr ((cK .i64) a_1.X)) true, Ent.mk [(45, (pPtr ((cK .i64) a_1.X)))] (pEq (.int .i64 a_1.X)) true, Ent.mk [(46, (pEq (.int .i64 a_1.X)))] (pEq (.int .i64 (w64 ((2 : Int) * a_1.X)))) true, Ent.mk [(2, (pPtr (cGRaster a_0)))] (pPtr ((cK .i64) a_0.Step)) true, Ent.mk [(48, (pPtr ((cK .i64) a_0.Step)))] (pEq (.int .i64 a_0.Step)) true, Ent.mk [(47, (pEq (.int .i64 (w64 ((2 : Int) * a_1.X))))), (49, (pEq (.int .i64 a_0.Step)))] (pEq (.int .i64 (w64 ((w64 ((2 : Int) * a_1.X)) + a_0.Step)))) true, Ent.mk [(2, (pPtr (cGRaster a_0)))] (pPtr ((cK .i64) a_0.Step)) true, Ent.mk [(51, (pPtr ((cK .i64) a_0.Step)))] (pEq (.int .i64 a_0.Step)) true, Ent.mk [(52, (pEq (.int .i64 a_0.Step)))] (pEq (.int .i64 (w64 ((2 : Int) * a_0.Step)))) true, Ent.mk [(50, (pEq (.int .i64 (w64 ((w64 ((2 : Int) * a_1.X)) + a_0.Step))))), (53, (pEq (.int .i64 (w64 ((2 : Int) * a_0.Step)))))] (pEq (.int .i64 x8)) true, Ent.mk [(44, (pEq (.int .i64 (w64 (x7 * a_0.Width))))), (54, (pEq (.int .i64 x8)))] (pEq (.int .i64 (w64 ((w64 (x7 * a_0.Width)) + x8)))) true, Ent.mk [(55, (pEq (.int .i64 (w64 ((w64 (x7 * a_0.Width)) + x8)))))] (pEq (.int .i64 (w64 ((w64 (x7 * a_0.Width)) + x8)))) true]) (rd := [[3], [32], [33], [2], [35], [34, 36], [2], [38], [39], [37, 40], [2], [42], [41, 43], [3], [45], [46], [2], [48], [47, 49], [2], [51], [52], [50, 53], [44, 54], [55]]) rfl hmix rfl (by kernel_rfl) ⟨⟨(OpJ.w (J_fieldAddr rfl Try.underlying65 rfl sz2 (by decide) (Opd.tmp rfl) rfl)), ⟨rfl, trivial⟩, rfl⟩, ⟨(OpJ.w (J_load rfl Try.isAgg2 (Opd.tmp rfl))), ⟨rfl, trivial⟩, rfl⟩, ⟨(OpJ.w (J_bin rfl Opd.con (Opd.tmp rfl) B_mul)), ⟨rfl, trivial⟩, rfl⟩, ⟨(OpJ.w (J_fieldAddr rfl Try.underlying56 rfl sz2 (by decide) (Opd.tmp rfl) rfl)), ⟨rfl, trivial⟩, rfl⟩, ⟨(OpJ.w (J_load rfl Try.isAgg2 (Opd.tmp rfl))), ⟨rfl, trivial⟩, rfl⟩, ⟨(OpJ.w (J_bin rfl (Opd.tmp rfl) (Opd.tmp rfl) B_add)), ⟨rfl, rfl, trivial⟩, rfl⟩, ⟨(OpJ.w (J_fieldAddr rfl Try.underlying56 rfl sz2 (by decide) (Opd.tmp rfl) rfl)), ⟨rfl, trivial⟩, rfl⟩, ⟨(OpJ.w (J_load rfl Try.isAgg2 (Opd.tmp rfl))), ⟨rfl, trivial⟩, rfl⟩, ⟨(OpJ.w (J_bin rfl Opd.con (Opd.tmp rfl) B_mul)), ⟨rfl, trivial⟩, rfl⟩, ⟨(OpJ.w (J_bin rfl (Opd.tmp rfl) (Opd.tmp rfl) (B_qdiv hx7))), ⟨rfl, rfl, trivial⟩, rfl⟩, ⟨(OpJ.w (J_fieldAddr rfl Try.underlying56 rfl sz2 (by decide) (Opd.tmp rfl) rfl)), ⟨rfl, trivial⟩, rfl⟩, ⟨(OpJ.w (J_load rfl Try.isAgg2 (Opd.tmp rfl))), ⟨rfl, trivial⟩, rfl⟩, ⟨(OpJ.w (J_bin rfl (Opd.tmp rfl) (Opd.tmp rfl) B_mul)), ⟨rfl, rfl, trivial⟩, rfl⟩, ⟨(OpJ.w (J_fieldAddr rfl Try.underlying65 rfl sz2 (by decide) (Opd.tmp rfl) rfl)), ⟨rfl, trivial⟩, rfl⟩, ⟨(OpJ.w (J_load rfl Try.isAgg2 (Opd.tmp rfl))), ⟨rfl, trivial⟩, rfl⟩, ⟨(OpJ.w (J_bin rfl Opd.con (Opd.tmp rfl) B_mul)), ⟨rfl, trivial⟩, rfl⟩, ⟨(OpJ.w (J_fieldAddr rfl Try.underlying56 rfl sz2 (by decide) (Opd.tmp rfl) rfl)), ⟨rfl, trivial⟩, rfl⟩, ⟨(OpJ.w (J_load rfl Try.isAgg2 (Opd.tmp rfl))), ⟨rfl, trivial⟩, rfl⟩, ⟨(OpJ.w (J_bin rfl (Opd.tmp rfl) (Opd.tmp rfl) B_add)), ⟨rfl, rfl, trivial⟩, rfl⟩, ⟨(OpJ.w (J_fieldAddr rfl Try.underlying56 rfl sz2 (by decide) (Opd.tmp rfl) rfl)), ⟨rfl, trivial⟩, rfl⟩, ⟨(OpJ.w (J_load rfl Try.isAgg2 (Opd.tmp rfl))), ⟨rfl, trivial⟩, rfl⟩, ⟨(OpJ.w (J_bin rfl Opd.con (Opd.tmp rfl) B_mul)), ⟨rfl, trivial⟩, rfl⟩, ⟨(OpJ.w (J_bin rfl (Opd.tmp rfl) (Opd.tmp rfl) (B_qdiv hx8))), ⟨rfl, rfl, trivial⟩, rfl⟩, ⟨(OpJ.w (J_bin rfl (Opd.tmp rfl) (Opd.tmp rfl) B_add)), ⟨rfl, rfl, trivial⟩, rfl⟩, ⟨(OpJ.w (J_assign rfl (Opd.tmp rfl))), ⟨rfl, trivial⟩, rfl⟩, trivial⟩ ?_
        refine Ct.then_tr ?_
        refine Tr.weak (Γ' := [(2, (pPtr (cGRaster a_0))), (7, (pEq (.int .i64 (w64 ((w64 (x7 * a_0.Width)) + x8)))))]) ⟨rfl, rfl, trivial⟩ ?_
        refine Tr.seq ?_
        replace h := bind_some h; obtain ⟨x9, hx9, h⟩ := h
        replace h := bind_some h; obtain ⟨x10, hx10, h⟩ := h
        refine Tr.draw (n := 66) (es := [Ent.mk [(2, (pPtr (cGRaster a_0)))] (pPtr ((cSl 1 (cK .i64)) a_0.Server)) true, Ent.mk [(56, (pPtr ((cSl 1 (cK .i64)) a_0.Server)))] (pSl 1 (cK .i64) a_0.Server) true, Ent.mk [(7, (pEq (.int .i64 (w64 ((w64 (x7 * a_0.Width)) + x8)))))] (pEq (.int .i64 (w64 ((w64 (x7 * a_0.Width)) + x8)))) true, Ent.mk [(57, (pSl 1 (cK .i64) a_0.Server)), (58, (pEq (.int .i64 (w64 ((w64 (x7 * a_0.Width)) + x8)))))] (pPtr ((cK .i64) x9)) true, Ent.mk [(59, (pPtr ((cK .i64) x9)))] (pEq (.int .i64 x9)) true, Ent.mk [(2, (pPtr (cGRaster a_0)))] (pPtr ((cSl 1 (cK .i64)) a_0.Level)) true, Ent.mk [(61, (pPtr ((cSl 1 (cK .i64)) a_0.Level)))] (pSl 1 (cK .i64) a_0.Level) true, Ent.mk [(7, (pEq (.int .i64 (w64 ((w64 (x7 * a_0.Width)) + x8)))))] (pEq (.int .i64 (w64 ((w64 (x7 * a_0.Width)) + x8)))) true, Ent.mk [(62, (pSl 1 (cK .i64) a_0.Level)), (63, (pEq (.int .i64 (w64 ((w64 (x7 * a_0.Width)) + x8)))))] (pPtr ((cK .i64) x10)) true, Ent.mk [(64, (pPtr ((cK .i64) x10)))] (pEq (.int .i64 x10)) true, Ent.mk [(60, (pEq (.int .i64 x9)))] (pEq (.int .i64 x9)) true, Ent.mk [(65, (pEq (.int .i64 x10)))] (pEq (.int .i64 x10)) true, Ent.mk [] (pEq (.int .i64 (0 : Int))) true]) (rd := [[2], [56], [7], [57, 58], [59], [2], [61], [7], [62, 63], [64], [60], [65], []]) rfl hmix rfl (by kernel_rfl) ⟨⟨(OpJ.w (J_fieldAddr rfl Try.underlying56 rfl sz22 (by decide) (Opd.tmp rfl) rfl)), ⟨rfl, trivial⟩, rfl⟩, ⟨(OpJ.w (J_load rfl Try.isAgg22 (Opd.tmp rfl))), ⟨rfl, trivial⟩, rfl⟩, ⟨(OpJ.w (J_move rfl (Opd.tmp rfl))), ⟨rfl, trivial⟩, rfl⟩, ⟨(OpJ.w (J_idx rfl Try.underlying22 sz2 (Opd.tmp rfl) (Opd.tmp rfl) hx9)), ⟨rfl, rfl, trivial⟩, rfl⟩, ⟨(OpJ.w (J_load rfl Try.isAgg2 (Opd.tmp rfl))), ⟨rfl, trivial⟩, rfl⟩, ⟨(OpJ.w (J_fieldAddr rfl Try.underlying56 rfl sz22 (by decide) (Opd.tmp rfl) rfl)), ⟨rfl, trivial⟩, rfl⟩, ⟨(OpJ.w (J_load rfl Try.isAgg22 (Opd.tmp rfl))), ⟨rfl, trivial⟩, rfl⟩, ⟨(OpJ.w (J_move rfl (Opd.tmp rfl))), ⟨rfl, trivial⟩, rfl⟩, ⟨(OpJ.w (J_idx rfl Try.underlying22 sz2 (Opd.tmp rfl) (Opd.tmp rfl) hx10)), ⟨rfl, rfl, trivial⟩, rfl⟩, ⟨(OpJ.w (J_load rfl Try.isAgg2 (Opd.tmp rfl))), ⟨rfl, trivial⟩, rfl⟩, ⟨(OpJ.w (J_assign rfl (Opd.tmp rfl))), ⟨rfl, trivial⟩, rfl⟩, ⟨(OpJ.w (J_assign rfl (Opd.tmp rfl))), ⟨rfl, trivial⟩, rfl⟩, ⟨(OpJ.w (J_assign rfl Opd.con)), trivial, rfl⟩, trivial⟩ ?_
        refine Ct.then_tr ?_
        refine Tr.weak (Γ' := [(4, (pEq (.int .i64 x9))), (5, (pEq (.int .i64 x10))), (6, (pEq (.int .i64 (0 : Int))))]) ⟨rfl, rfl, rfl, trivial⟩ ?_
        refine Tr.ret ?_
        replace h := Option.some.inj h; subst h
        exact Ct.ret3 rfl rfl rfl rfl

theorem c_impl_within {n_0 : Int} {low_1 : Int} {high_2 : Int} {r : Bool} (h : m_impl_within n_0 low_1 high_2 = some r) : CallJ Try.prog 82 [(pEq (.int .i64 n_0)), (pEq (.int .i64 low_1)), (pEq (.int .i64 high_2))] (pEq (.bool r)) := by
  unfold m_impl_within at h
  refine CallJ.enter Try.func82 rfl Try.ntmps82 rfl fun W I0 => ?_
  refine Tr.weak (Γ' := [(0, (pEq (.int .i64 n_0))), (1, (pEq (.int .i64 low_1))), (2, (pEq (.int .i64 high_2)))]) ⟨rfl, rfl, rfl, trivial⟩ ?_
  refine Tr.seq ?_
  refine Tr.region ?_
  refine RegL.pure (p := (pEq (.bool false))) rfl rfl rfl (J_assign rfl Opd.con) ?_
  refine RegL.nil ?_
  refine Ct.then_tr ?_
  refine Tr.weak (Γ' := [(0, (pEq (.int .i64 n_0))), (1, (pEq (.int .i64 low_1))), (2, (pEq (.int .i64 high_2)))]) ⟨rfl, rfl, rfl, trivial⟩ ?_
  refine Tr.seq ?_
  replace h := bind_some h; obtain ⟨x1, hx1, h⟩ := h
  refine Tr.cut (γ := Unit) (Γm := fun g => [(6, (pEq (.bool x1)))]) (Ωm := fun g => []) ?_ (fun g3 => ?_)
  · clear h
    have h := hx1
    clear hx1
    refine Tr.region ?_
    refine RegL.pure (p := (pEq (.int .i64 n_0))) rfl rfl rfl (J_move rfl (Opd.tmp rfl)) ?_
    refine RegL.pure (p := (pEq (.int .i64 low_1))) rfl rfl rfl (J_move rfl (Opd.tmp rfl)) ?_
    refine RegL.pure (p := (pEq (.bool (decide (low_1 ≤ n_0))))) rfl rfl rfl (J_bin rfl (Opd.tmp rfl) (Opd.tmp rfl) B_geq) ?_
    refine RegL.pure (p := (pEq (.bool (decide (low_1 ≤ n_0))))) rfl rfl rfl (J_move rfl (Opd.tmp rfl)) ?_
    rcases Bool.eq_false_or_eq_true (decide (low_1 ≤ n_0)) with hc2 | hc2
    · replace h := bif_t hc2 h
      refine RegL.pureG (p := (pEq (.int .i64 n_0))) rfl rfl rfl hc2 rfl rfl (J_move rfl (Opd.tmp rfl)) ?_
      refine RegL.pureG (p := (pEq (.int .i64 high_2))) rfl rfl rfl hc2 rfl rfl (J_move rfl (Opd.tmp rfl)) ?_
      refine RegL.pureG (p := (pEq (.bool (decide (n_0 ≤ high_2))))) rfl rfl rfl hc2 rfl rfl (J_bin rfl (Opd.tmp rfl) (Opd.tmp rfl) B_leq) ?_
      refine RegL.pure (p := (pEq (.bool (decide (n_0 ≤ high_2))))) rfl rfl rfl (J_pick rfl (Opd.tmp rfl) (fun _ => (Opd.tmp rfl)) (fun hf => absurd (hc2.symm.trans hf) (by decide))) ?_
      refine RegL.pure (p := (pEq (.bool (decide (n_0 ≤ high_2))))) rfl rfl rfl (J_assign rfl (Opd.tmp rfl)) ?_
      refine RegL.nil ?_
      replace h := Option.some.inj h; subst h
      exact Ct.mid () rfl ⟨rfl, trivial⟩
    · replace h := bif_f hc2 h
      refine RegL.skipG rfl rfl rfl hc2 rfl rfl ?_
      refine RegL.skipG rfl rfl rfl hc2 rfl rfl ?_
      refine RegL.skipG rfl rfl rfl hc2 rfl rfl ?_
      refine RegL.pure (p := (pEq (.bool false))) rfl rfl rfl (J_pick rfl (Opd.tmp rfl) (fun hf => absurd (hc2.symm.trans hf) (by decide)) (fun _ => Opd.con)) ?_
      refine RegL.pure (p := (pEq (.bool false))) rfl rfl rfl (J_assign rfl (Opd.tmp rfl)) ?_
      refine RegL.nil ?_
      replace h := Option.some.inj h; subst h
      exact Ct.mid () rfl ⟨rfl, trivial⟩
  · clear hx1
    refine Ct.then_tr ?_
    refine Tr.weak (Γ' := [(6, (pEq (.bool x1)))]) ⟨rfl, trivial⟩ ?_
    refine Tr.ret ?_
    replace h := Option.some.inj h; subst h
    exact Ct.ret1 rfl rfl

theorem c_impl_sizeOk {step_0 : Int} {width_1 : Int} {height_2 : Int} {r : Bool} (h : m_impl_sizeOk step_0 width_1 height_2 = some r) : CallJ Try.prog 79 [(pEq (.int .i64 step_0)), (pEq (.int .i64 width_1)), (pEq (.int .i64 height_2))] (pEq (.bool r)) := by
  unfold m_impl_sizeOk at h
  refine CallJ.enter Try.func79 rfl Try.ntmps79 rfl fun W I0 => ?_
  refine Tr.weak (Γ' := [(0, (pEq (.int .i64 step_0))), (1, (pEq (.int .i64 width_1))), (2, (pEq (.int .i64 height_2)))]) ⟨rfl, rfl, rfl, trivial⟩ ?_
  refine Tr.seq ?_
  refine Tr.region ?_
  refine RegL.pure (p := (pEq (.bool false))) rfl rfl rfl (J_assign rfl Opd.con) ?_
  refine RegL.nil ?_
  refine Ct.then_tr ?_
  refine Tr.weak (Γ' := [(0, (pEq (.int .i64 step_0))), (1, (pEq (.int .i64 width_1))), (2, (pEq (.int .i64 height_2)))]) ⟨rfl, rfl, rfl, trivial⟩ ?_
  refine Tr.seq ?_
  replace h := bind_some h; obtain ⟨x1, hx1, h⟩ := h
  refine Tr.cut (γ := Unit) (Γm := fun g => [(6, (pEq (.bool x1)))]) (Ωm := fun g => []) ?_ (fun g8 => ?_)
  · clear h
    have h := hx1
    clear hx1
    refine Tr.region ?_
    refine RegL.pure (p := (pEq (.int .i64 step_0))) rfl rfl rfl (J_move rfl (Opd.tmp rfl)) ?_
    replace h := bind_some h; obtain ⟨x2, hx2, h⟩ := h
    refine RegL.pure (p := (pEq (.bool x2))) rfl rfl rfl (J_call rfl Try.call82 (c_impl_within hx2) (Opds.cons (Opd.tmp rfl) (Opds.cons Opd.con (Opds.cons Opd.con Opds.nil)))) ?_
    refine RegL.pure (p := (pEq (.bool x2))) rfl rfl rfl (J_move rfl (Opd.tmp rfl)) ?_
    rcases Bool.eq_false_or_eq_true x2 with hc3 | hc3
    · replace h := bif_t hc3 h
      refine RegL.pureG (p := (pEq (.int .i64 width_1))) rfl rfl rfl hc3 rfl rfl (J_move rfl (Opd.tmp rfl)) ?_
      replace h := bind_some h; obtain ⟨x4, hx4, h⟩ := h
      refine RegL.pureG (p := (pEq (.bool x4))) rfl rfl rfl hc3 rfl rfl (J_call rfl Try.call82 (c_impl_within hx4) (Opds.cons (Opd.tmp rfl) (Opds.cons Opd.con (Opds.cons Opd.con Opds.nil)))) ?_
      refine RegL.pure (p := (pEq (.bool x4))) rfl rfl rfl (J_pick rfl (Opd.tmp rfl) (fun _ => (Opd.tmp rfl)) (fun hf => absurd (hc3.symm.trans hf) (by decide))) ?_
      refine RegL.pure (p := (pEq (.bool x4))) rfl rfl rfl (J_move rfl (Opd.tmp rfl)) ?_
      rcases Bool.eq_false_or_eq_true x4 with hc5 | hc5
      · replace h := bif_t hc5 h
        refine RegL.pureG (p := (pEq (.int .i64 height_2))) rfl rfl rfl hc5 rfl rfl (J_move rfl (Opd.tmp rfl)) ?_
        replace h := bind_some h; obtain ⟨x6, hx6, h⟩ := h
        refine RegL.pureG (p := (pEq (.bool x6))) rfl rfl rfl hc5 rfl rfl (J_call rfl Try.call82 (c_impl_within hx6) (Opds.cons (Opd.tmp rfl) (Opds.cons Opd.con (Opds.cons Opd.con Opds.nil)))) ?_
        refine RegL.pure (p := (pEq (.bool x6))) rfl rfl rfl (J_pick rfl (Opd.tmp rfl) (fun _ => (Opd.tmp rfl)) (fun hf => absurd (hc5.symm.trans hf) (by decide))) ?_
        refine RegL.pure (p := (pEq (.bool x6))) rfl rfl rfl (J_move rfl (Opd.tmp rfl)) ?_
        rcases Bool.eq_false_or_eq_true x6 with hc7 | hc7
        · replace h := bif_t hc7 h
          refine RegL.pureG (p := (pEq (.int .i64 width_1))) rfl rfl rfl hc7 rfl rfl (J_move rfl (Opd.tmp rfl)) ?_
          refine RegL.pureG (p := (pEq (.int .i64 (w64 (width_1 - (1 : Int)))))) rfl rfl rfl hc7 rfl rfl (J_bin rfl (Opd.tmp rfl) Opd.con B_sub) ?_
          refine RegL.pureG (p := (pEq (.int .i64 height_2))) rfl rfl rfl hc7 rfl rfl (J_move rfl (Opd.tmp rfl)) ?_
          refine RegL.pureG (p := (pEq (.int .i64 (w64 (height_2 - (1 : Int)))))) rfl rfl rfl hc7 rfl rfl (J_bin rfl (Opd.tmp rfl) Opd.con B_sub) ?_
          refine RegL.pureG (p := (pEq (.int .i64 (if (w64 (height_2 - (1 : Int))) > (w64 (width_1 - (1 : Int))) then (w64 (height_2 - (1 : Int))) else (w64 (width_1 - (1 : Int))))))) rfl rfl rfl hc7 rfl rfl (J_max2 rfl (Opd.tmp rfl) (Opd.tmp rfl)) ?_
          refine RegL.pureG (p := (pEq (.int .i64 step_0))) rfl rfl rfl hc7 rfl rfl (J_move rfl (Opd.tmp rfl)) ?_
          refine RegL.pureG (p := (pEq (.int .i64 (w64 ((if (w64 (height_2 - (1 : Int))) > (w64 (width_1 - (1 : Int))) then (w64 (height_2 - (1 : Int))) else (w64 (width_1 - (1 : Int)))) * step_0))))) rfl rfl rfl hc7 rfl rfl (J_bin rfl (Opd.tmp rfl) (Opd.tmp rfl) B_mul) ?_
          refine RegL.pureG (p := (pEq (.bool (decide ((w64 ((if (w64 (height_2 - (1 : Int))) > (w64 (width_1 - (1 : Int))) then (w64 (height_2 - (1 : Int))) else (w64 (width_1 - (1 : Int)))) * step_0)) ≤ (200000 : Int)))))) rfl rfl rfl hc7 rfl rfl (J_bin rfl (Opd.tmp rfl) Opd.con B_leq) ?_
          refine RegL.pure (p := (pEq (.bool (decide ((w64 ((if (w64 (height_2 - (1 : Int))) > (w64 (width_1 - (1 : Int))) then (w64 (height_2 - (1 : Int))) else (w64 (width_1 - (1 : Int)))) * step_0)) ≤ (200000 : Int)))))) rfl rfl rfl (J_pick rfl (Opd.tmp rfl) (fun _ => (Opd.tmp rfl)) (fun hf => absurd (hc7.symm.trans hf) (by decide))) ?_
          refine RegL.pure (p := (pEq (.bool (decide ((w64 ((if (w64 (height_2 - (1 : Int))) > (w64 (width_1 - (1 : Int))) then (w64 (height_2 - (1 : Int))) else (w64 (width_1 - (1 : Int)))) * step_0)) ≤ (200000 : Int)))))) rfl rfl rfl (J_assign rfl (Opd.tmp rfl)) ?_
          refine RegL.nil ?_
          replace h := Option.some.inj h; subst h
          exact Ct.mid () rfl ⟨rfl, trivial⟩
        · replace h := bif_f hc7 h
          refine RegL.skipG rfl rfl rfl hc7 rfl rfl ?_
          refine RegL.skipG rfl rfl rfl hc7 rfl rfl ?_
          refine RegL.skipG rfl rfl rfl hc7 rfl rfl ?_
          refine RegL.skipG rfl rfl rfl hc7 rfl rfl ?_
          refine RegL.skipG rfl rfl rfl hc7 rfl rfl ?_
          refine RegL.skipG rfl rfl rfl hc7 rfl rfl ?_
          refine RegL.skipG rfl rfl rfl hc7 rfl rfl ?_
          refine RegL.skipG rfl rfl rfl hc7 rfl rfl ?_
          refine RegL.pure (p := (pEq (.bool false))) rfl rfl rfl (J_pick rfl (Opd.tmp rfl) (fun hf => absurd (hc7.symm.trans hf) (by decide)) (fun _ => Opd.con)) ?_
          refine RegL.pure (p := (pEq (.bool false))) rfl rfl rfl (J_assign rfl (Opd.tmp rfl)) ?_
          refine RegL.nil ?_
          replace h := Option.some.inj h; subst h
          exact Ct.mid () rfl ⟨rfl, trivial⟩
      · replace h := bif_f hc5 h
        refine RegL.skipG rfl rfl rfl hc5 rfl rfl ?_
        refine RegL.skipG rfl rfl rfl hc5 rfl rfl ?_
        refine RegL.pure (p := (pEq (.bool false))) rfl rfl rfl (J_pick rfl (Opd.tmp rfl) (fun hf => absurd (hc5.symm.trans hf) (by decide)) (fun _ => Opd.con)) ?_
        refine RegL.pure (p := (pEq (.bool false))) rfl rfl rfl (J_move rfl (Opd.tmp rfl)) ?_
        refine RegL.skipG rfl rfl rfl rfl rfl rfl ?_
        refine RegL.skipG rfl rfl rfl rfl rfl rfl ?_
        refine RegL.skipG rfl rfl rfl rfl rfl rfl ?_
        refine RegL.skipG rfl rfl rfl rfl rfl rfl ?_
        refine RegL.skipG rfl rfl rfl rfl rfl rfl ?_
        refine RegL.skipG rfl rfl rfl rfl rfl rfl ?_
        refine RegL.skipG rfl rfl rfl rfl rfl rfl ?_
        refine RegL.skipG rfl rfl rfl rfl rfl rfl ?_
        refine RegL.pure (p := (pEq (.bool false))) rfl rfl rfl (J_pick rfl (Opd.tmp rfl) (fun hf => absurd hf (by decide)) (fun _ => Opd.con)) ?_
        refine RegL.pure (p := (pEq (.bool false))) rfl rfl rfl (J_assign rfl (Opd.tmp rfl)) ?_
        refine RegL.nil ?_
        replace h := Option.some.inj h; subst h
        exact Ct.mid () rfl ⟨rfl, trivial⟩
    · replace h := bif_f hc3 h
      refine RegL.skipG rfl rfl rfl hc3 rfl rfl ?_
      refine RegL.skipG rfl rfl rfl hc3 rfl rfl ?_
      refine RegL.pure (p := (pEq (.bool false))) rfl rfl rfl (J_pick rfl (Opd.tmp rfl) (fun hf => absurd (hc3.symm.trans hf) (by decide)) (fun _ => Opd.con)) ?_
      refine RegL.pure (p := (pEq (.bool false))) rfl rfl rfl (J_move rfl (Opd.tmp rfl)) ?_
      refine RegL.skipG rfl rfl rfl rfl rfl rfl ?_
      refine RegL.skipG rfl rfl rfl rfl rfl rfl ?_
      refine RegL.pure (p := (pEq (.bool false))) rfl rfl rfl (J_pick rfl (Opd.tmp rfl) (fun hf => absurd hf (by decide)) (fun _ => Opd.con)) ?_
      refine RegL.pure (p := (pEq (.bool false))) rfl rfl rfl (J_move rfl (Opd.tmp rfl)) ?_
      refine RegL.skipG rfl rfl rfl rfl rfl rfl ?_
      refine RegL.skipG rfl rfl rfl rfl rfl rfl ?_
      refine RegL.skipG rfl rfl rfl rfl rfl rfl ?_
      refine RegL.skipG rfl rfl rfl rfl rfl rfl ?_
      refine RegL.skipG rfl rfl rfl rfl rfl rfl ?_
      refine RegL.skipG rfl rfl rfl rfl rfl rfl ?_
      refine RegL.skipG rfl rfl rfl rfl rfl rfl ?_
      refine RegL.skipG rfl rfl rfl rfl rfl rfl ?_
      refine RegL.pure (p := (pEq (.bool false))) rfl rfl rfl (J_pick rfl (Opd.tmp rfl) (fun hf => absurd hf (by decide)) (fun _ => Opd.con)) ?_
      refine RegL.pure (p := (pEq (.bool false))) rfl rfl rfl (J_assign rfl (Opd.tmp rfl)) ?_
      refine RegL.nil ?_
      replace h := Option.some.inj h; subst h
      exact Ct.mid () rfl ⟨rfl, trivial⟩
  · clear hx1
    refine Ct.then_tr ?_
    refine Tr.weak (Γ' := [(6, (pEq (.bool x1)))]) ⟨rfl, trivial⟩ ?_
    refine Tr.ret ?_
    replace h := Option.some.inj h; subst h
    exact Ct.ret1 rfl rfl

theorem c_impl_allWithin_1 {n_0 : Int} {a_1 : Int} {a_2 : Int} {r : Bool} (h : m_impl_allWithin_1 n_0 a_1 a_2 = some r) : CallJ Try.prog 99 [(pEq (.int .i64 n_0)), (pPtr ((cK .i64) a_1)), (pPtr ((cK .i64) a_2))] (pEq (.bool r)) := by
  unfold m_impl_allWithin_1 at h
  refine CallJ.enter Try.func99 rfl Try.ntmps99 rfl fun W I0 => ?_
  refine Tr.weak (Γ' := [(0, (pEq (.int .i64 n_0))), (1, (pPtr ((cK .i64) a_1))), (2, (pPtr ((cK .i64) a_2)))]) ⟨rfl, rfl, rfl, trivial⟩ ?_
  refine Tr.seq ?_
  refine Tr.region ?_
  refine RegL.pure (p := (pEq (.bool false))) rfl rfl rfl (J_assign rfl Opd.con) ?_
  refine RegL.nil ?_
  refine Ct.then_tr ?_
  refine Tr.weak (Γ' := [(0, (pEq (.int .i64 n_0))), (1, (pPtr ((cK .i64) a_1))), (2, (pPtr ((cK .i64) a_2)))]) ⟨rfl, rfl, rfl, trivial⟩ ?_
  refine Tr.seq ?_
  refine Tr.region ?_
  refine RegL.pure (p := (pEq (.int .i64 n_0))) rfl rfl rfl (J_move rfl (Opd.tmp rfl)) ?_
  refine RegL.pure (p := (pEq (.int .i64 a_1))) rfl rfl rfl (J_load rfl Try.isAgg2 (Opd.tmp rfl)) ?_
  refine RegL.pure (p := (pEq (.int .i64 a_2))) rfl rfl rfl (J_load rfl Try.isAgg2 (Opd.tmp rfl)) ?_
  replace h := bind_some h; obtain ⟨x1, hx1, h⟩ := h
  refine RegL.pure (p := (pEq (.bool x1))) rfl rfl rfl (J_call rfl Try.call82 (c_impl_within hx1) (Opds.cons (Opd.tmp rfl) (Opds.cons (Opd.tmp rfl) (Opds.cons (Opd.tmp rfl) Opds.nil)))) ?_
  refine RegL.pure (p := (pEq (.bool (!x1)))) rfl rfl rfl (J_not rfl (Opd.tmp rfl)) ?_
  refine RegL.pure (p := (pEq (.bool (!x1)))) rfl rfl rfl (J_assign rfl (Opd.tmp rfl)) ?_
  refine RegL.nil ?_
  refine Ct.then_tr ?_
  refine Tr.weak (Γ' := [(4, (pEq (.bool (!x1))))]) ⟨rfl, trivial⟩ ?_
  refine Tr.ret ?_
  replace h := Option.some.inj h; subst h
  exact Ct.ret1 rfl rfl

theorem c_slices_IndexFunc_int64_int64 {s_0 : (List Int)} {f_1 : (Int → Option Bool)} {r : Int} (h : m_slices_IndexFunc_int64_int64 s_0 f_1 = some r) : CallJ Try.prog 108 [(pSl 1 (cK .i64) s_0), (pFn Try.prog (fun x => [(pEq (.int .i64 x))]) f_1 (fun y => (pEq (.bool y))))] (pEq (.int .i64 r)) := by
  unfold m_slices_IndexFunc_int64_int64 at h
  refine CallJ.enter Try.func108 rfl Try.ntmps108 rfl fun W I0 => ?_
  refine Tr.weak (Γ' := [(0, (pSl 1 (cK .i64) s_0)), (1, (pFn Try.prog (fun x => [(pEq (.int .i64 x))]) f_1 (fun y => (pEq (.bool y)))))]) ⟨rfl, rfl, trivial⟩ ?_
  refine Tr.seq ?_
  refine Tr.region ?_
  refine RegL.pure (p := (pEq (.int .i64 (0 : Int)))) rfl rfl rfl (J_assign rfl Opd.con) ?_
  refine RegL.nil ?_
  refine Ct.then_tr ?_
  refine Tr.weak (Γ' := [(0, (pSl 1 (cK .i64) s_0)), (1, (pFn Try.prog (fun x => [(pEq (.int .i64 x))]) f_1 (fun y => (pEq (.bool y)))))]) ⟨rfl, rfl, trivial⟩ ?_
  refine Tr.seq ?_
  refine Tr.seq ?_
  refine Tr.region ?_
  refine RegL.pure (p := (pSl 1 (cK .i64) s_0)) rfl rfl rfl (J_move rfl (Opd.tmp rfl)) ?_
  refine RegL.pure (p := (pEq (.int .i64 (s_0.length : Int)))) rfl rfl rfl (J_len rfl Try.underlying22 (Opd.tmp rfl) rfl) ?_
  refine RegL.pure (p := (pEq (.int .i64 (0 : Int)))) rfl rfl rfl (J_move rfl Opd.con) ?_
  refine RegL.nil ?_
  refine Ct.then_tr ?_
  refine Tr.weak (Γ' := [(0, (pSl 1 (cK .i64) s_0)), (1, (pFn Try.prog (fun x => [(pEq (.int .i64 x))]) f_1 (fun y => (pEq (.bool y))))), (7, (pEq (.int .i64 (s_0.length : Int)))), (8, (pEq (.int .i64 (0 : Int))))]) ⟨rfl, rfl, rfl, rfl, trivial⟩ ?_
  refine Tr.block ?_
  refine Tr.weak (Γ' := [(0, (pSl 1 (cK .i64) s_0)), (1, (pFn Try.prog (fun x => [(pEq (.int .i64 x))]) f_1 (fun y => (pEq (.bool y))))), (7, (pEq (.int .i64 (s_0.length : Int)))), (8, (pEq (.int .i64 (0 : Int))))]) ⟨rfl, rfl, rfl, rfl, trivial⟩ ?_
  refine Tr.loop (γ := Unit) (σ := Int) (Γσ := fun s g => [(0, (pSl 1 (cK .i64) s_0)), (1, (pFn Try.prog (fun x => [(pEq (.int .i64 x))]) f_1 (fun y => (pEq (.bool y))))), (7, (pEq (.int .i64 (s_0.length : Int)))), (8, (pEq (.int .i64 s)))]) (Ωσ := fun s g => []) (g := ()) h ?_
  clear h
  rintro v2 g3 t h
  replace h : m_slices_IndexFunc_int64_int64_B1 s_0 f_1 v2 = some t := h
  unfold m_slices_IndexFunc_int64_int64_B1 at h
  refine Tr.weakO (Γ' := [(0, (pSl 1 (cK .i64) s_0)), (1, (pFn Try.prog (fun x => [(pEq (.int .i64 x))]) f_1 (fun y => (pEq (.bool y))))), (7, (pEq (.int .i64 (s_0.length : Int)))), (8, (pEq (.int .i64 v2)))]) (Ω' := []) rfl ⟨rfl, rfl, rfl, rfl, trivial⟩ ?_
  refine Tr.seq ?_
  refine Tr.region ?_
  refine RegL.pure (p := (pEq (.bool (decide (v2 < (s_0.length : Int)))))) rfl rfl rfl (J_bin rfl (Opd.tmp rfl) (Opd.tmp rfl) B_lss) ?_
  refine RegL.nil ?_
  refine Ct.then_tr ?_
  refine Tr.weak (Γ' := [(0, (pSl 1 (cK .i64) s_0)), (1, (pFn Try.prog (fun x => [(pEq (.int .i64 x))]) f_1 (fun y => (pEq (.bool y))))), (7, (pEq (.int .i64 (s_0.length : Int)))), (8, (pEq (.int .i64 v2))), (9, (pEq (.bool (decide (v2 < (s_0.length : Int))))))]) ⟨rfl, rfl, rfl, rfl, rfl, trivial⟩ ?_
  refine Tr.seq ?_
  refine Tr.cond (Opd.tmp rfl) (fun hc => ?_) (fun hc => ?_)
  · replace h := bif_t hc h
    refine Tr.skip ?_
    refine Ct.then_tr ?_
    refine Tr.weak (Γ' := [(0, (pSl 1 (cK .i64) s_0)), (1, (pFn Try.prog (fun x => [(pEq (.int .i64 x))]) f_1 (fun y => (pEq (.bool y))))), (7, (pEq (.int .i64 (s_0.length : Int)))), (8, (pEq (.int .i64 v2)))]) ⟨rfl, rfl, rfl, rfl, trivial⟩ ?_
    refine Tr.seq ?_
    refine Tr.block ?_
    refine Tr.seq ?_
    refine Tr.region ?_
    refine RegL.pure (p := (pEq (.int .i64 v2))) rfl rfl rfl (J_move rfl (Opd.tmp rfl)) ?_
    refine RegL.pure (p := (pEq (.int .i64 v2))) rfl rfl rfl (J_assign rfl (Opd.tmp rfl)) ?_
    refine RegL.nil ?_
    refine Ct.then_tr ?_
    refine Tr.weak (Γ' := [(0, (pSl 1 (cK .i64) s_0)), (1, (pFn Try.prog (fun x => [(pEq (.int .i64 x))]) f_1 (fun y => (pEq (.bool y))))), (5, (pEq (.int .i64 v2))), (7, (pEq (.int .i64 (s_0.length : Int)))), (8, (pEq (.int .i64 v2)))]) ⟨rfl, rfl, rfl, rfl, rfl, trivial⟩ ?_
    refine Tr.seq ?_
    refine Tr.region ?_
    refine RegL.pure (p := (pFn Try.prog (fun x => [(pEq (.int .i64 x))]) f_1 (fun y => (pEq (.bool y))))) rfl rfl rfl (J_move rfl (Opd.tmp rfl)) ?_
    refine RegL.pure (p := (pSl 1 (cK .i64) s_0)) rfl rfl rfl (J_move rfl (Opd.tmp rfl)) ?_
    refine RegL.pure (p := (pEq (.int .i64 v2))) rfl rfl rfl (J_move rfl (Opd.tmp rfl)) ?_
    replace h := bind_some h; obtain ⟨x4, hx4, h⟩ := h
    refine RegL.pure (p := (pPtr ((cK .i64) x4))) rfl rfl rfl (J_idx rfl Try.underlying22 sz2 (Opd.tmp rfl) (Opd.tmp rfl) hx4) ?_
    refine RegL.pure (p := (pEq (.int .i64 x4))) rfl rfl rfl (J_load rfl Try.isAgg2 (Opd.tmp rfl)) ?_
    replace h := bind_some h; obtain ⟨x5, hx5, h⟩ := h
    refine RegL.pure (p := (pEq (.bool x5))) rfl rfl rfl (J_callv (x := x4) rfl (Opd.tmp rfl) rfl (Opds.cons (Opd.tmp rfl) Opds.nil) hx5 rfl) ?_
    refine RegL.nil ?_
    refine Ct.then_tr ?_
    refine Tr.weak (Γ' := [(0, (pSl 1 (cK .i64) s_0)), (1, (pFn Try.prog (fun x => [(pEq (.int .i64 x))]) f_1 (fun y => (pEq (.bool y))))), (5, (pEq (.int .i64 v2))), (7, (pEq (.int .i64 (s_0.length : Int)))), (8, (pEq (.int .i64 v2))), (16, (pEq (.bool x5)))]) ⟨rfl, rfl, rfl, rfl, rfl, rfl, trivial⟩ ?_
    refine Tr.cond (Opd.tmp rfl) (fun hc => ?_) (fun hc => ?_)
    · replace h := bif_t hc h
      refine Tr.seq ?_
      refine Tr.region ?_
      refine RegL.pure (p := (pEq (.int .i64 v2))) rfl rfl rfl (J_move rfl (Opd.tmp rfl)) ?_
      refine RegL.pure (p := (pEq (.int .i64 v2))) rfl rfl rfl (J_assign rfl (Opd.tmp rfl)) ?_
      refine RegL.nil ?_
      refine Ct.then_tr ?_
      refine Tr.weak (Γ' := [(4, (pEq (.int .i64 v2)))]) ⟨rfl, trivial⟩ ?_
      refine Tr.ret ?_
      refine Ct.blk_ret ?_
      refine Ct.then_ret ?_
      replace h := map_some h; obtain ⟨r1, h, rfl⟩ := h
      refine Ct.out_ret fun e => ?_
      subst e
      refine Ct.blk_ret ?_
      refine Ct.then_ret ?_
      replace h := Option.some.inj h; subst h
      exact Ct.ret1 rfl rfl
    · replace h := bif_f hc h
      refine Tr.skip ?_
      refine Ct.blk_normal ?_
      refine Ct.then_tr ?_
      refine Tr.weak (Γ' := [(0, (pSl 1 (cK .i64) s_0)), (1, (pFn Try.prog (fun x => [(pEq (.int .i64 x))]) f_1 (fun y => (pEq (.bool y))))), (7, (pEq (.int .i64 (s_0.length : Int)))), (8, (pEq (.int .i64 v2)))]) ⟨rfl, rfl, rfl, rfl, trivial⟩ ?_
      refine Tr.region ?_
      refine RegL.pure (p := (pEq (.int .i64 (w64 (v2 + (1 : Int)))))) rfl rfl rfl (J_bin rfl (Opd.tmp rfl) Opd.con B_add) ?_
      refine RegL.pure (p := (pEq (.int .i64 (w64 (v2 + (1 : Int)))))) rfl rfl rfl (J_move rfl (Opd.tmp rfl)) ?_
      refine RegL.nil ?_
      replace h := Option.some.inj h; subst h
      exact Ct.again () rfl ⟨rfl, rfl, rfl, rfl, trivial⟩
  · replace h := bif_f hc h
    refine Tr.exit ?_
    refine Ct.then_exit ?_
    replace h := map_some h; obtain ⟨r1, h, rfl⟩ := h
    refine Ct.out_exit fun e => ?_
    subst e
    refine Ct.blk_exit ?_
    refine Ct.then_tr ?_
    refine Tr.weak (Γ' := []) trivial ?_
    refine Tr.seq ?_
    refine Tr.region ?_
    refine RegL.pure (p := (pEq (.int .i64 (-1 : Int)))) rfl rfl rfl (J_assign rfl Opd.con) ?_
    refine RegL.nil ?_
    refine Ct.then_tr ?_
    refine Tr.weak (Γ' := [(4, (pEq (.int .i64 (-1 : Int))))]) ⟨rfl, trivial⟩ ?_
    refine Tr.ret ?_
    replace h := Option.some.inj h; subst h
    exact Ct.ret1 rfl rfl

theorem c_slices_ContainsFunc_int64_int64 {s_0 : (List Int)} {f_1 : (Int → Option Bool)} {r : Bool} (h : m_slices_ContainsFunc_int64_int64 s_0 f_1 = some r) : CallJ Try.prog 98 [(pSl 1 (cK .i64) s_0), (pFn Try.prog (fun x => [(pEq (.int .i64 x))]) f_1 (fun y => (pEq (.bool y))))] (pEq (.bool r)) := by
  unfold m_slices_ContainsFunc_int64_int64 at h
  refine CallJ.enter Try.func98 rfl Try.ntmps98 rfl fun W I0 => ?_
  refine Tr.weak (Γ' := [(0, (pSl 1 (cK .i64) s_0)), (1, (pFn Try.prog (fun x => [(pEq (.int .i64 x))]) f_1 (fun y => (pEq (.bool y)))))]) ⟨rfl, rfl, trivial⟩ ?_
  refine Tr.seq ?_
  refine Tr.region ?_
  refine RegL.pure (p := (pEq (.bool false))) rfl rfl rfl (J_assign rfl Opd.con) ?_
  refine RegL.nil ?_
  refine Ct.then_tr ?_
  refine Tr.weak (Γ' := [(0, (pSl 1 (cK .i64) s_0)), (1, (pFn Try.prog (fun x => [(pEq (.int .i64 x))]) f_1 (fun y => (pEq (.bool y)))))]) ⟨rfl, rfl, trivial⟩ ?_
  refine Tr.seq ?_
  refine Tr.region ?_
  refine RegL.pure (p := (pSl 1 (cK .i64) s_0)) rfl rfl rfl (J_move rfl (Opd.tmp rfl)) ?_
  refine RegL.pure (p := (pFn Try.prog (fun x => [(pEq (.int .i64 x))]) f_1 (fun y => (pEq (.bool y))))) rfl rfl rfl (J_move rfl (Opd.tmp rfl)) ?_
  replace h := bind_some h; obtain ⟨x1, hx1, h⟩ := h
  refine RegL.pure (p := (pEq (.int .i64 x1))) rfl rfl rfl (J_call rfl Try.call108 (c_slices_IndexFunc_int64_int64 hx1) (Opds.cons (Opd.tmp rfl) (Opds.cons (Opd.tmp rfl) Opds.nil))) ?_
  refine RegL.pure (p := (pEq (.bool (decide ((0 : Int) ≤ x1))))) rfl rfl rfl (J_bin rfl (Opd.tmp rfl) Opd.con B_geq) ?_
  refine RegL.pure (p := (pEq (.bool (decide ((0 : Int) ≤ x1))))) rfl rfl rfl (J_assign rfl (Opd.tmp rfl)) ?_
  refine RegL.nil ?_
  refine Ct.then_tr ?_
  refine Tr.weak (Γ' := [(4, (pEq (.bool (decide ((0 : Int) ≤ x1)))))]) ⟨rfl, trivial⟩ ?_
  refine Tr.ret ?_
  replace h := Option.some.inj h; subst h
  exact Ct.ret1 rfl rfl

theorem c_impl_allWithin {list_0 : (List Int)} {low_1 : Int} {high_2 : Int} {r : Bool} (h : m_impl_allWithin list_0 low_1 high_2 = some r) : CallJ Try.prog 80 [(pSl 1 (cK .i64) list_0), (pEq (.int .i64 low_1)), (pEq (.int .i64 high_2))] (pEq (.bool r)) := by
  unfold m_impl_allWithin at h
  refine CallJ.enter Try.func80 rfl Try.ntmps80 rfl fun W I0 => ?_
  refine Tr.weak (Γ' := [(0, (pSl 1 (cK .i64) list_0)), (1, (pEq (.int .i64 low_1))), (2, (pEq (.int .i64 high_2)))]) ⟨rfl, rfl, rfl, trivial⟩ ?_
  refine Tr.seq ?_
  refine Tr.region ?_
  refine RegL.pure (p := (pPtr ((cK .i64) low_1))) rfl rfl rfl (J_box rfl (Opd.tmp rfl) OneC.int) ?_
  refine RegL.pure (p := (pPtr ((cK .i64) high_2))) rfl rfl rfl (J_box rfl (Opd.tmp rfl) OneC.int) ?_
  refine RegL.pure (p := (pEq (.bool false))) rfl rfl rfl (J_assign rfl Opd.con) ?_
  refine RegL.nil ?_
  refine Ct.then_tr ?_
  refine Tr.weak (Γ' := [(0, (pSl 1 (cK .i64) list_0)), (4, (pPtr ((cK .i64) low_1))), (5, (pPtr ((cK .i64) high_2)))]) ⟨rfl, rfl, rfl, trivial⟩ ?_
  refine Tr.seq ?_
  refine Tr.region ?_
  refine RegL.pure (p := (pSl 1 (cK .i64) list_0)) rfl rfl rfl (J_move rfl (Opd.tmp rfl)) ?_
  refine RegL.pure (p := (pFn Try.prog (fun x => [(pEq (.int .i64 x))]) (fun x => m_impl_allWithin_1 x low_1 high_2) (fun y => (pEq (.bool y))))) rfl rfl rfl (J_makeFn rfl Try.call99 (Opds.cons (Opd.tmp rfl) (Opds.cons (Opd.tmp rfl) Opds.nil)) (fun _ _ h => c_impl_allWithin_1 h)) ?_
  replace h := bind_some h; obtain ⟨x1, hx1, h⟩ := h
  refine RegL.pure (p := (pEq (.bool x1))) rfl rfl rfl (J_call rfl Try.call98 (c_slices_ContainsFunc_int64_int64 hx1) (Opds.cons (Opd.tmp rfl) (Opds.cons (Opd.tmp rfl) Opds.nil))) ?_
  refine RegL.pure (p := (pEq (.bool (!x1)))) rfl rfl rfl (J_not rfl (Opd.tmp rfl)) ?_
  refine RegL.pure (p := (pEq (.bool (!x1)))) rfl rfl rfl (J_assign rfl (Opd.tmp rfl)) ?_
  refine RegL.nil ?_
  refine Ct.then_tr ?_
  refine Tr.weak (Γ' := [(6, (pEq (.bool (!x1))))]) ⟨rfl, trivial⟩ ?_
  refine Tr.ret ?_
  replace h := Option.some.inj h; subst h
  exact Ct.ret1 rfl rfl

theorem c_impl_ValidRaster {r_0 : GRaster} {r : Bool} (h : m_impl_ValidRaster r_0 = some r) : CallJ Try.prog 43 [(pAgg (cGRaster r_0))] (pEq (.bool r)) := by
  unfold m_impl_ValidRaster at h
  refine CallJ.enter Try.func43 rfl Try.ntmps43 rfl fun W I0 => ?_
  refine Tr.weak (Γ' := [(0, (pAgg (cGRaster r_0)))]) ⟨rfl, trivial⟩ ?_
  refine Tr.seq ?_
  refine Tr.region ?_
  refine RegL.pure (p := (pPtr (cGRaster r_0))) rfl rfl rfl (J_boxA rfl (Opd.tmp rfl)) ?_
  refine RegL.pure (p := (pEq (.bool false))) rfl rfl rfl (J_assign rfl Opd.con) ?_
  refine RegL.nil ?_
  refine Ct.then_tr ?_
  refine Tr.weak (Γ' := [(1, (pPtr (cGRaster r_0)))]) ⟨rfl, trivial⟩ ?_
  refine Tr.seq ?_
  refine Tr.seq ?_
  replace h := bind_some h; obtain ⟨x1, hx1, h⟩ := h
  refine Tr.cut (γ := Unit) (Γm := fun g => [(1, (pPtr (cGRaster r_0))), (44, (pEq (.bool x1)))]) (Ωm := fun g => []) ?_ (fun g9 => ?_)
  · clear h
    have h := hx1
    clear hx1
    refine Tr.region ?_
    refine RegL.pure (p := (pPtr ((cK .i64) r_0.Step))) rfl rfl rfl (J_fieldAddr rfl Try.underlying56 rfl sz2 (by decide) (Opd.tmp rfl) rfl) ?_
    refine RegL.pure (p := (pEq (.int .i64 r_0.Step))) rfl rfl rfl (J_load rfl Try.isAgg2 (Opd.tmp rfl)) ?_
    refine RegL.pure (p := (pPtr ((cK .i64) r_0.Width))) rfl rfl rfl (J_fieldAddr rfl Try.underlying56 rfl sz2 (by decide) (Opd.tmp rfl) rfl) ?_
    refine RegL.pure (p := (pEq (.int .i64 r_0.Width))) rfl rfl rfl (J_load rfl Try.isAgg2 (Opd.tmp rfl)) ?_
    refine RegL.pure (p := (pPtr ((cK .i64) r_0.Height))) rfl rfl rfl (J_fieldAddr rfl Try.underlying56 rfl sz2 (by decide) (Opd.tmp rfl) rfl) ?_
    refine RegL.pure (p := (pEq (.int .i64 r_0.Height))) rfl rfl rfl (J_load rfl Try.isAgg2 (Opd.tmp rfl)) ?_
    replace h := bind_some h; obtain ⟨x2, hx2, h⟩ := h
    refine RegL.pure (p := (pEq (.bool x2))) rfl rfl rfl (J_call rfl Try.call79 (c_impl_sizeOk hx2) (Opds.cons (Opd.tmp rfl) (Opds.cons (Opd.tmp rfl) (Opds.cons (Opd.tmp rfl) Opds.nil)))) ?_
    refine RegL.pure (p := (pEq (.bool (!x2)))) rfl rfl rfl (J_not rfl (Opd.tmp rfl)) ?_
    refine RegL.pure (p := (pEq (.bool (!x2)))) rfl rfl rfl (J_move rfl (Opd.tmp rfl)) ?_
    rcases Bool.eq_false_or_eq_true (!x2) with hc3 | hc3
    · replace h := bif_t hc3 h
      refine RegL.skipG rfl rfl rfl hc3 rfl rfl ?_
      refine RegL.skipG rfl rfl rfl hc3 rfl rfl ?_
      refine RegL.skipG rfl rfl rfl hc3 rfl rfl ?_
      refine RegL.skipG rfl rfl rfl hc3 rfl rfl ?_
      refine RegL.skipG rfl rfl rfl hc3 rfl rfl ?_
      refine RegL.skipG rfl rfl rfl hc3 rfl rfl ?_
      refine RegL.skipG rfl rfl rfl hc3 rfl rfl ?_
      refine RegL.skipG rfl rfl rfl hc3 rfl rfl ?_
      refine RegL.skipG rfl rfl rfl hc3 rfl rfl ?_
      refine RegL.pure (p := (pEq (.bool true))) rfl rfl rfl (J_pick rfl (Opd.tmp rfl) (fun _ => Opd.con) (fun hf => absurd (hc3.symm.trans hf) (by decide))) ?_
      refine RegL.pure (p := (pEq (.bool true))) rfl rfl rfl (J_move rfl (Opd.tmp rfl)) ?_
      refine RegL.skipG rfl rfl rfl rfl rfl rfl ?_
      refine RegL.skipG rfl rfl rfl rfl rfl rfl ?_
      refine RegL.skipG rfl rfl rfl rfl rfl rfl ?_
      refine RegL.skipG rfl rfl rfl rfl rfl rfl ?_
      refine RegL.skipG rfl rfl rfl rfl rfl rfl ?_
      refine RegL.skipG rfl rfl rfl rfl rfl rfl ?_
      refine RegL.skipG rfl rfl rfl rfl rfl rfl ?_
      refine RegL.pure (p := (pEq (.bool true))) rfl rfl rfl (J_pick rfl (Opd.tmp rfl) (fun _ => Opd.con) (fun hf => absurd hf (by decide))) ?_
      refine RegL.pure (p := (pEq (.bool true))) rfl rfl rfl (J_move rfl (Opd.tmp rfl)) ?_
      refine RegL.skipG rfl rfl rfl rfl rfl rfl ?_
      refine RegL.skipG rfl rfl rfl rfl rfl rfl ?_
      refine RegL.skipG rfl rfl rfl rfl rfl rfl ?_
      refine RegL.skipG rfl rfl rfl rfl rfl rfl ?_
      refine RegL.pure (p := (pEq (.bool true))) rfl rfl rfl (J_pick rfl (Opd.tmp rfl) (fun _ => Opd.con) (fun hf => absurd hf (by decide))) ?_
      refine RegL.pure (p := (pEq (.bool true))) rfl rfl rfl (J_move rfl (Opd.tmp rfl)) ?_
      refine RegL.skipG rfl rfl rfl rfl rfl rfl ?_
      refine RegL.skipG rfl rfl rfl rfl rfl rfl ?_
      refine RegL.skipG rfl rfl rfl rfl rfl rfl ?_
      refine RegL.skipG rfl rfl rfl rfl rfl rfl ?_
      refine RegL.pure (p := (pEq (.bool true))) rfl rfl rfl (J_pick rfl (Opd.tmp rfl) (fun _ => Opd.con) (fun hf => absurd hf (by decide))) ?_
      refine RegL.nil ?_
      replace h := Option.some.inj h; subst h
      exact Ct.mid () rfl ⟨rfl, rfl, trivial⟩
    · replace h := bif_f hc3 h
      refine RegL.pureG (p := (pPtr ((cSl 1 (cK .i64)) r_0.Server))) rfl rfl rfl hc3 rfl rfl (J_fieldAddr rfl Try.underlying56 rfl sz22 (by decide) (Opd.tmp rfl) rfl) ?_
      refine RegL.pureG (p := (pSl 1 (cK .i64) r_0.Server)) rfl rfl rfl hc3 rfl rfl (J_load rfl Try.isAgg22 (Opd.tmp rfl)) ?_
      refine RegL.pureG (p := (pEq (.int .i64 (r_0.Server.length : Int)))) rfl rfl rfl hc3 rfl rfl (J_len rfl Try.underlying22 (Opd.tmp rfl) rfl) ?_
      refine RegL.pureG (p := (pPtr ((cK .i64) r_0.Width))) rfl rfl rfl hc3 rfl rfl (J_fieldAddr rfl Try.underlying56 rfl sz2 (by decide) (Opd.tmp rfl) rfl) ?_
      refine RegL.pureG (p := (pEq (.int .i64 r_0.Width))) rfl rfl rfl hc3 rfl rfl (J_load rfl Try.isAgg2 (Opd.tmp rfl)) ?_
      refine RegL.pureG (p := (pPtr ((cK .i64) r_0.Height))) rfl rfl rfl hc3 rfl rfl (J_fieldAddr rfl Try.underlying56 rfl sz2 (by decide) (Opd.tmp rfl) rfl) ?_
      refine RegL.pureG (p := (pEq (.int .i64 r_0.Height))) rfl rfl rfl hc3 rfl rfl (J_load rfl Try.isAgg2 (Opd.tmp rfl)) ?_
      refine RegL.pureG (p := (pEq (.int .i64 (w64 (r_0.Width * r_0.Height))))) rfl rfl rfl hc3 rfl rfl (J_bin rfl (Opd.tmp rfl) (Opd.tmp rfl) B_mul) ?_
      refine RegL.pureG (p := (pEq (.bool ((r_0.Server.length : Int) != (w64 (r_0.Width * r_0.Height)))))) rfl rfl rfl hc3 rfl rfl (J_bin rfl (Opd.tmp rfl) (Opd.tmp rfl) B_neq) ?_
      refine RegL.pure (p := (pEq (.bool ((r_0.Server.length : Int) != (w64 (r_0.Width * r_0.Height)))))) rfl rfl rfl (J_pick rfl (Opd.tmp rfl) (fun hf => absurd (hc3.symm.trans hf) (by decide)) (fun _ => (Opd.tmp rfl))) ?_
      refine RegL.pure (p := (pEq (.bool ((r_0.Server.length : Int) != (w64 (r_0.Width * r_0.Height)))))) rfl rfl rfl (J_move rfl (Opd.tmp rfl)) ?_
      rcases Bool.eq_false_or_eq_true ((r_0.Server.length : Int) != (w64 (r_0.Width * r_0.Height))) with hc4 | hc4
      · replace h := bif_t hc4 h
        refine RegL.skipG rfl rfl rfl hc4 rfl rfl ?_
        refine RegL.skipG rfl rfl rfl hc4 rfl rfl ?_
        refine RegL.skipG rfl rfl rfl hc4 rfl rfl ?_
        refine RegL.skipG rfl rfl rfl hc4 rfl rfl ?_
        refine RegL.skipG rfl rfl rfl hc4 rfl rfl ?_
        refine RegL.skipG rfl rfl rfl hc4 rfl rfl ?_
        refine RegL.skipG rfl rfl rfl hc4 rfl rfl ?_
        refine RegL.pure (p := (pEq (.bool true))) rfl rfl rfl (J_pick rfl (Opd.tmp rfl) (fun _ => Opd.con) (fun hf => absurd (hc4.symm.trans hf) (by decide))) ?_
        refine RegL.pure (p := (pEq (.bool true))) rfl rfl rfl (J_move rfl (Opd.tmp rfl)) ?_
        refine RegL.skipG rfl rfl rfl rfl rfl rfl ?_
        refine RegL.skipG rfl rfl rfl rfl rfl rfl ?_
        refine RegL.skipG rfl rfl rfl rfl rfl rfl ?_
        refine RegL.skipG rfl rfl rfl rfl rfl rfl ?_
        refine RegL.pure (p := (pEq (.bool true))) rfl rfl rfl (J_pick rfl (Opd.tmp rfl) (fun _ => Opd.con) (fun hf => absurd hf (by decide))) ?_
        refine RegL.pure (p := (pEq (.bool true))) rfl rfl rfl (J_move rfl (Opd.tmp rfl)) ?_
        refine RegL.skipG rfl rfl rfl rfl rfl rfl ?_
        refine RegL.skipG rfl rfl rfl rfl rfl rfl ?_
        refine RegL.skipG rfl rfl rfl rfl rfl rfl ?_
        refine RegL.skipG rfl rfl rfl rfl rfl rfl ?_
        refine RegL.pure (p := (pEq (.bool true))) rfl rfl rfl (J_pick rfl (Opd.tmp rfl) (fun _ => Opd.con) (fun hf => absurd hf (by decide))) ?_
        refine RegL.nil ?_
        replace h := Option.some.inj h; subst h
        exact Ct.mid () rfl ⟨rfl, rfl, trivial⟩
      · replace h := bif_f hc4 h
        refine RegL.pureG (p := (pPtr ((cSl 1 (cK .i64)) r_0.Level))) rfl rfl rfl hc4 rfl rfl (J_fieldAddr rfl Try.underlying56 rfl sz22 (by decide) (Opd.tmp rfl) rfl) ?_
        refine RegL.pureG (p := (pSl 1 (cK .i64) r_0.Level)) rfl rfl rfl hc4 rfl rfl (J_load rfl Try.isAgg22 (Opd.tmp rfl)) ?_
        refine RegL.pureG (p := (pEq (.int .i64 (r_0.Level.length : Int)))) rfl rfl rfl hc4 rfl rfl (J_len rfl Try.underlying22 (Opd.tmp rfl) rfl) ?_
        refine RegL.pureG (p := (pPtr ((cSl 1 (cK .i64)) r_0.Server))) rfl rfl rfl hc4 rfl rfl (J_fieldAddr rfl Try.underlying56 rfl sz22 (by decide) (Opd.tmp rfl) rfl) ?_
        refine RegL.pureG (p := (pSl 1 (cK .i64) r_0.Server)) rfl rfl rfl hc4 rfl rfl (J_load rfl Try.isAgg22 (Opd.tmp rfl)) ?_
        refine RegL.pureG (p := (pEq (.int .i64 (r_0.Server.length : Int)))) rfl rfl rfl hc4 rfl rfl (J_len rfl Try.underlying22 (Opd.tmp rfl) rfl) ?_
        refine RegL.pureG (p := (pEq (.bool ((r_0.Level.length : Int) != (r_0.Server.length : Int))))) rfl rfl rfl hc4 rfl rfl (J_bin rfl (Opd.tmp rfl) (Opd.tmp rfl) B_neq) ?_
        refine RegL.pure (p := (pEq (.bool ((r_0.Level.length : Int) != (r_0.Server.length : Int))))) rfl rfl rfl (J_pick rfl (Opd.tmp rfl) (fun hf => absurd (hc4.symm.trans hf) (by decide)) (fun _ => (Opd.tmp rfl))) ?_
        refine RegL.pure (p := (pEq (.bool ((r_0.Level.length : Int) != (r_0.Server.length : Int))))) rfl rfl rfl (J_move rfl (Opd.tmp rfl)) ?_
        rcases Bool.eq_false_or_eq_true ((r_0.Level.length : Int) != (r_0.Server.length : Int)) with hc5 | hc5
        · replace h := bif_t hc5 h
          refine RegL.skipG rfl rfl rfl hc5 rfl rfl ?_
          refine RegL.skipG rfl rfl rfl hc5 rfl rfl ?_
          refine RegL.skipG rfl rfl rfl hc5 rfl rfl ?_
          refine RegL.skipG rfl rfl rfl hc5 rfl rfl ?_
          refine RegL.pure (p := (pEq (.bool true))) rfl rfl rfl (J_pick rfl (Opd.tmp rfl) (fun _ => Opd.con) (fun hf => absurd (hc5.symm.trans hf) (by decide))) ?_
          refine RegL.pure (p := (pEq (.bool true))) rfl rfl rfl (J_move rfl (Opd.tmp rfl)) ?_
          refine RegL.skipG rfl rfl rfl rfl rfl rfl ?_
          refine RegL.skipG rfl rfl rfl rfl rfl rfl ?_
          refine RegL.skipG rfl rfl rfl rfl rfl rfl ?_
          refine RegL.skipG rfl rfl rfl rfl rfl rfl ?_
          refine RegL.pure (p := (pEq (.bool true))) rfl rfl rfl (J_pick rfl (Opd.tmp rfl) (fun _ => Opd.con) (fun hf => absurd hf (by decide))) ?_
          refine RegL.nil ?_
          replace h := Option.some.inj h; subst h
          exact Ct.mid () rfl ⟨rfl, rfl, trivial⟩
        · replace h := bif_f hc5 h
          refine RegL.pureG (p := (pPtr ((cSl 1 (cK .i64)) r_0.Server))) rfl rfl rfl hc5 rfl rfl (J_fieldAddr rfl Try.underlying56 rfl sz22 (by decide) (Opd.tmp rfl) rfl) ?_
          refine RegL.pureG (p := (pSl 1 (cK .i64) r_0.Server)) rfl rfl rfl hc5 rfl rfl (J_load rfl Try.isAgg22 (Opd.tmp rfl)) ?_
          replace h := bind_some h; obtain ⟨x6, hx6, h⟩ := h
          refine RegL.pureG (p := (pEq (.bool x6))) rfl rfl rfl hc5 rfl rfl (J_call rfl Try.call80 (c_impl_allWithin hx6) (Opds.cons (Opd.tmp rfl) (Opds.cons Opd.con (Opds.cons Opd.con Opds.nil)))) ?_
          refine RegL.pureG (p := (pEq (.bool (!x6)))) rfl rfl rfl hc5 rfl rfl (J_not rfl (Opd.tmp rfl)) ?_
          refine RegL.pure (p := (pEq (.bool (!x6)))) rfl rfl rfl (J_pick rfl (Opd.tmp rfl) (fun hf => absurd (hc5.symm.trans hf) (by decide)) (fun _ => (Opd.tmp rfl))) ?_
          refine RegL.pure (p := (pEq (.bool (!x6)))) rfl rfl rfl (J_move rfl (Opd.tmp rfl)) ?_
          rcases Bool.eq_false_or_eq_true (!x6) with hc7 | hc7
          · replace h := bif_t hc7 h
            refine RegL.skipG rfl rfl rfl hc7 rfl rfl ?_
            refine RegL.skipG rfl rfl rfl hc7 rfl rfl ?_
            refine RegL.skipG rfl rfl rfl hc7 rfl rfl ?_
            refine RegL.skipG rfl rfl rfl hc7 rfl rfl ?_
            refine RegL.pure (p := (pEq (.bool true))) rfl rfl rfl (J_pick rfl (Opd.tmp rfl) (fun _ => Opd.con) (fun hf => absurd (hc7.symm.trans hf) (by decide))) ?_
            refine RegL.nil ?_
            replace h := Option.some.inj h; subst h
            exact Ct.mid () rfl ⟨rfl, rfl, trivial⟩
          · replace h := bif_f hc7 h
            refine RegL.pureG (p := (pPtr ((cSl 1 (cK .i64)) r_0.Level))) rfl rfl rfl hc7 rfl rfl (J_fieldAddr rfl Try.underlying56 rfl sz22 (by decide) (Opd.tmp rfl) rfl) ?_
            refine RegL.pureG (p := (pSl 1 (cK .i64) r_0.Level)) rfl rfl rfl hc7 rfl rfl (J_load rfl Try.isAgg22 (Opd.tmp rfl)) ?_
            replace h := bind_some h; obtain ⟨x8, hx8, h⟩ := h
            refine RegL.pureG (p := (pEq (.bool x8))) rfl rfl rfl hc7 rfl rfl (J_call rfl Try.call80 (c_impl_allWithin hx8) (Opds.cons (Opd.tmp rfl) (Opds.cons Opd.con (Opds.cons Opd.con Opds.nil)))) ?_
            refine RegL.pureG (p := (pEq (.bool (!x8)))) rfl rfl rfl hc7 rfl rfl (J_not rfl (Opd.tmp rfl)) ?_
            refine RegL.pure (p := (pEq (.bool (!x8)))) rfl rfl rfl (J_pick rfl (Opd.tmp rfl) (fun hf => absurd (hc7.symm.trans hf) (by decide)) (fun _ => (Opd.tmp rfl))) ?_
            refine RegL.nil ?_
            replace h := Option.some.inj h; subst h
            exact Ct.mid () rfl ⟨rfl, rfl, trivial⟩
  · clear hx1
    refine Ct.then_tr ?_
    refine Tr.weak (Γ' := [(1, (pPtr (cGRaster r_0))), (44, (pEq (.bool x1)))]) ⟨rfl, rfl, trivial⟩ ?_
    refine Tr.cond (Opd.tmp rfl) (fun hc => ?_) (fun hc => ?_)
    · replace h := bif_t hc h
      refine Tr.seq ?_
      refine Tr.region ?_
      refine RegL.pure (p := (pEq (.bool false))) rfl rfl rfl (J_assign rfl Opd.con) ?_
      refine RegL.nil ?_
      refine Ct.then_tr ?_
      refine Tr.weak (Γ' := [(2, (pEq (.bool false)))]) ⟨rfl, trivial⟩ ?_
      refine Tr.ret ?_
      refine Ct.then_ret ?_
      replace h := Option.some.inj h; subst h
      exact Ct.ret1 rfl rfl
    · replace h := bif_f hc h
      refine Tr.skip ?_
      refine Ct.then_tr ?_
      refine Tr.weak (Γ' := [(1, (pPtr (cGRaster r_0)))]) ⟨rfl, trivial⟩ ?_
      refine Tr.seq ?_
      refine Tr.seq ?_
      refine Tr.region ?_
      refine RegL.pure (p := (pPtr ((cSl 1 (cK .i64)) r_0.Server))) rfl rfl rfl (J_fieldAddr rfl Try.underlying56 rfl sz22 (by decide) (Opd.tmp rfl) rfl) ?_
      refine RegL.pure (p := (pSl 1 (cK .i64) r_0.Server)) rfl rfl rfl (J_load rfl Try.isAgg22 (Opd.tmp rfl)) ?_
      refine RegL.pure (p := (pEq (.int .i64 (r_0.Server.length : Int)))) rfl rfl rfl (J_len rfl Try.underlying22 (Opd.tmp rfl) rfl) ?_
      refine RegL.pure (p := (pEq (.int .i64 (0 : Int)))) rfl rfl rfl (J_move rfl Opd.con) ?_
      refine RegL.nil ?_
      refine Ct.then_tr ?_
      refine Tr.weak (Γ' := [(1, (pPtr (cGRaster r_0))), (46, (pSl 1 (cK .i64) r_0.Server)), (47, (pEq (.int .i64 (r_0.Server.length : Int)))), (48, (pEq (.int .i64 (0 : Int))))]) ⟨rfl, rfl, rfl, rfl, trivial⟩ ?_
      refine Tr.block ?_
      refine Tr.weak (Γ' := [(1, (pPtr (cGRaster r_0))), (46, (pSl 1 (cK .i64) r_0.Server)), (47, (pEq (.int .i64 (r_0.Server.length : Int)))), (48, (pEq (.int .i64 (0 : Int))))]) ⟨rfl, rfl, rfl, rfl, trivial⟩ ?_
      refine Tr.loop (γ := Unit) (σ := Int) (Γσ := fun s g => [(1, (pPtr (cGRaster r_0))), (46, (pSl 1 (cK .i64) r_0.Server)), (47, (pEq (.int .i64 (r_0.Server.length : Int)))), (48, (pEq (.int .i64 s)))]) (Ωσ := fun s g => []) (g := ()) h ?_
      clear h
      rintro v11 g12 t h
      replace h : m_impl_ValidRaster_B10 r_0 v11 = some t := h
      unfold m_impl_ValidRaster_B10 at h
      refine Tr.weakO (Γ' := [(1, (pPtr (cGRaster r_0))), (46, (pSl 1 (cK .i64) r_0.Server)), (47, (pEq (.int .i64 (r_0.Server.length : Int)))), (48, (pEq (.int .i64 v11)))]) (Ω' := []) rfl ⟨rfl, rfl, rfl, rfl, trivial⟩ ?_
      refine Tr.seq ?_
      refine Tr.region ?_
      refine RegL.pure (p := (pEq (.bool (decide (v11 < (r_0.Server.length : Int)))))) rfl rfl rfl (J_bin rfl (Opd.tmp rfl) (Opd.tmp rfl) B_lss) ?_
      refine RegL.nil ?_
      refine Ct.then_tr ?_
      refine Tr.weak (Γ' := [(1, (pPtr (cGRaster r_0))), (46, (pSl 1 (cK .i64) r_0.Server)), (47, (pEq (.int .i64 (r_0.Server.length : Int)))), (48, (pEq (.int .i64 v11))), (49, (pEq (.bool (decide (v11 < (r_0.Server.length : Int))))))]) ⟨rfl, rfl, rfl, rfl, rfl, trivial⟩ ?_
      refine Tr.seq ?_
      refine Tr.cond (Opd.tmp rfl) (fun hc => ?_) (fun hc => ?_)
      · replace h := bif_t hc h
        refine Tr.skip ?_
        refine Ct.then_tr ?_
        refine Tr.weak (Γ' := [(1, (pPtr (cGRaster r_0))), (46, (pSl 1 (cK .i64) r_0.Server)), (47, (pEq (.int .i64 (r_0.Server.length : Int)))), (48, (pEq (.int .i64 v11)))]) ⟨rfl, rfl, rfl, rfl, trivial⟩ ?_
        refine Tr.seq ?_
        refine Tr.block ?_
        refine Tr.seq ?_
        refine Tr.region ?_
        refine RegL.pure (p := (pEq (.int .i64 v11))) rfl rfl rfl (J_move rfl (Opd.tmp rfl)) ?_
        replace h := bind_some h; obtain ⟨x13, hx13, h⟩ := h
        refine RegL.pure (p := (pPtr ((cK .i64) x13))) rfl rfl rfl (J_idx rfl Try.underlying22 sz2 (Opd.tmp rfl) (Opd.tmp rfl) hx13) ?_
        refine RegL.pure (p := (pEq (.int .i64 x13))) rfl rfl rfl (J_load rfl Try.isAgg2 (Opd.tmp rfl)) ?_
        refine RegL.pure (p := (pEq (.int .i64 v11))) rfl rfl rfl (J_assign rfl (Opd.tmp rfl)) ?_
        refine RegL.pure (p := (pEq (.int .i64 x13))) rfl rfl rfl (J_assign rfl (Opd.tmp rfl)) ?_
        refine RegL.nil ?_
        refine Ct.then_tr ?_
        refine Tr.weak (Γ' := [(1, (pPtr (cGRaster r_0))), (3, (pEq (.int .i64 v11))), (4, (pEq (.int .i64 x13))), (46, (pSl 1 (cK .i64) r_0.Server)), (47, (pEq (.int .i64 (r_0.Server.length : Int)))), (48, (pEq (.int .i64 v11)))]) ⟨rfl, rfl, rfl, rfl, rfl, rfl, trivial⟩ ?_
        refine Tr.seq ?_
        replace h := bind_some h; obtain ⟨x14, hx14, h⟩ := h
        refine Tr.cut (γ := Unit) (Γm := fun g => [(1, (pPtr (cGRaster r_0))), (46, (pSl 1 (cK .i64) r_0.Server)), (47, (pEq (.int .i64 (r_0.Server.length : Int)))), (48, (pEq (.int .i64 v11))), (62, (pEq (.bool x14)))]) (Ωm := fun g => []) ?_ (fun g17 => ?_)
        · clear h
          have h := hx14
          clear hx14
          refine Tr.region ?_
          refine RegL.pure (p := (pEq (.int .i64 x13))) rfl rfl rfl (J_move rfl (Opd.tmp rfl)) ?_
          refine RegL.pure (p := (pEq (.bool (decide (x13 < (0 : Int)))))) rfl rfl rfl (J_bin rfl (Opd.tmp rfl) Opd.con B_lss) ?_
          refine RegL.pure (p := (pEq (.bool (decide (x13 < (0 : Int)))))) rfl rfl rfl (J_move rfl (Opd.tmp rfl)) ?_
          rcases Bool.eq_false_or_eq_true (decide (x13 < (0 : Int))) with hc15 | hc15
          · replace h := bif_t hc15 h
            refine RegL.pureG (p := (pPtr ((cSl 1 (cK .i64)) r_0.Level))) rfl rfl rfl hc15 rfl rfl (J_fieldAddr rfl Try.underlying56 rfl sz22 (by decide) (Opd.tmp rfl) rfl) ?_
            refine RegL.pureG (p := (pSl 1 (cK .i64) r_0.Level)) rfl rfl rfl hc15 rfl rfl (J_load rfl Try.isAgg22 (Opd.tmp rfl)) ?_
            refine RegL.pureG (p := (pEq (.int .i64 v11))) rfl rfl rfl hc15 rfl rfl (J_move rfl (Opd.tmp rfl)) ?_
            replace h := bind_some h; obtain ⟨x16, hx16, h⟩ := h
            refine RegL.pureG (p := (pPtr ((cK .i64) x16))) rfl rfl rfl hc15 rfl rfl (J_idx rfl Try.underlying22 sz2 (Opd.tmp rfl) (Opd.tmp rfl) hx16) ?_
            refine RegL.pureG (p := (pEq (.int .i64 x16))) rfl rfl rfl hc15 rfl rfl (J_load rfl Try.isAgg2 (Opd.tmp rfl)) ?_
            refine RegL.pureG (p := (pEq (.bool (x16 != (-300000 : Int))))) rfl rfl rfl hc15 rfl rfl (J_bin rfl (Opd.tmp rfl) Opd.con B_neq) ?_
            refine RegL.pure (p := (pEq (.bool (x16 != (-300000 : Int))))) rfl rfl rfl (J_pick rfl (Opd.tmp rfl) (fun _ => (Opd.tmp rfl)) (fun hf => absurd (hc15.symm.trans hf) (by decide))) ?_
            refine RegL.nil ?_
            replace h := Option.some.inj h; subst h
            exact Ct.mid () rfl ⟨rfl, rfl, rfl, rfl, rfl, trivial⟩
          · replace h := bif_f hc15 h
            refine RegL.skipG rfl rfl rfl hc15 rfl rfl ?_
            refine RegL.skipG rfl rfl rfl hc15 rfl rfl ?_
            refine RegL.skipG rfl rfl rfl hc15 rfl rfl ?_
            refine RegL.skipG rfl rfl rfl hc15 rfl rfl ?_
            refine RegL.skipG rfl rfl rfl hc15 rfl rfl ?_
            refine RegL.skipG rfl rfl rfl hc15 rfl rfl ?_
            refine RegL.pure (p := (pEq (.bool false))) rfl rfl rfl (J_pick rfl (Opd.tmp rfl) (fun hf => absurd (hc15.symm.trans hf) (by decide)) (fun _ => Opd.con)) ?_
            refine RegL.nil ?_
            replace h := Option.some.inj h; subst h
            exact Ct.mid () rfl ⟨rfl, rfl, rfl, rfl, rfl, trivial⟩
        · clear hx14
          refine Ct.then_tr ?_
          refine Tr.weak (Γ' := [(1, (pPtr (cGRaster r_0))), (46, (pSl 1 (cK .i64) r_0.Server)), (47, (pEq (.int .i64 (r_0.Server.length : Int)))), (48, (pEq (.int .i64 v11))), (62, (pEq (.bool x14)))]) ⟨rfl, rfl, rfl, rfl, rfl, trivial⟩ ?_
          refine Tr.cond (Opd.tmp rfl) (fun hc => ?_) (fun hc => ?_)
          · replace h := bif_t hc h
            refine Tr.seq ?_
            refine Tr.region ?_
            refine RegL.pure (p := (pEq (.bool false))) rfl rfl rfl (J_assign rfl Opd.con) ?_
            refine RegL.nil ?_
            refine Ct.then_tr ?_
            refine Tr.weak (Γ' := [(2, (pEq (.bool false)))]) ⟨rfl, trivial⟩ ?_
            refine Tr.ret ?_
            refine Ct.blk_ret ?_
            refine Ct.then_ret ?_
            replace h := map_some h; obtain ⟨r1, h, rfl⟩ := h
            refine Ct.out_ret fun e => ?_
            subst e
            refine Ct.blk_ret ?_
            refine Ct.then_ret ?_
            replace h := Option.some.inj h; subst h
            exact Ct.ret1 rfl rfl
          · replace h := bif_f hc h
            refine Tr.skip ?_
            refine Ct.blk_normal ?_
            refine Ct.then_tr ?_
            refine Tr.weak (Γ' := [(1, (pPtr (cGRaster r_0))), (46, (pSl 1 (cK .i64) r_0.Server)), (47, (pEq (.int .i64 (r_0.Server.length : Int)))), (48, (pEq (.int .i64 v11)))]) ⟨rfl, rfl, rfl, rfl, trivial⟩ ?_
            refine Tr.region ?_
            refine RegL.pure (p := (pEq (.int .i64 (w64 (v11 + (1 : Int)))))) rfl rfl rfl (J_bin rfl (Opd.tmp rfl) Opd.con B_add) ?_
            refine RegL.pure (p := (pEq (.int .i64 (w64 (v11 + (1 : Int)))))) rfl rfl rfl (J_move rfl (Opd.tmp rfl)) ?_
            refine RegL.nil ?_
            replace h := Option.some.inj h; subst h
            exact Ct.again () rfl ⟨rfl, rfl, rfl, rfl, trivial⟩
      · replace h := bif_f hc h
        refine Tr.exit ?_
        refine Ct.then_exit ?_
        replace h := map_some h; obtain ⟨r1, h, rfl⟩ := h
        refine Ct.out_exit fun e => ?_
        subst e
        refine Ct.blk_exit ?_
        refine Ct.then_tr ?_
        refine Tr.weak (Γ' := []) trivial ?_
        refine Tr.seq ?_
        refine Tr.region ?_
        refine RegL.pure (p := (pEq (.bool true))) rfl rfl rfl (J_assign rfl Opd.con) ?_
        refine RegL.nil ?_
        refine Ct.then_tr ?_
        refine Tr.weak (Γ' := [(2, (pEq (.bool true)))]) ⟨rfl, trivial⟩ ?_
        refine Tr.ret ?_
        replace h := Option.some.inj h; subst h
        exact Ct.ret1 rfl rfl

theorem c_impl_ServerAt {a_0 : GRaster} {a_1 : GPoint} {r : (Int × Int × Int)} (h : m_impl_ServerAt a_0 a_1 = some r) : CallJ Try.prog 46 [(pAgg (cGRaster a_0)), (pAgg (cGPoint a_1))] (pTup [(pEq (.int .i64 r.1)), (pEq (.int .i64 r.2.1)), (pEq (.int .i64 r.2.2))]) := by
  unfold m_impl_ServerAt at h
  refine CallJ.enter Try.func46 rfl Try.ntmps46 rfl fun W I0 => ?_
  refine Tr.weak (Γ' := [(0, (pAgg (cGRaster a_0))), (1, (pAgg (cGPoint a_1)))]) ⟨rfl, rfl, trivial⟩ ?_
  refine Tr.seq ?_
  refine Tr.region ?_
  refine RegL.pure (p := (pPtr (cGRaster a_0))) rfl rfl rfl (J_boxA rfl (Opd.tmp rfl)) ?_
  refine RegL.pure (p := (pPtr (cGPoint a_1))) rfl rfl rfl (J_boxA rfl (Opd.tmp rfl)) ?_
  refine RegL.pure (p := (pEq (.int .i64 (0 : Int)))) rfl rfl rfl (J_assign rfl Opd.con) ?_
  refine RegL.pure (p := (pEq (.int .i64 (0 : Int)))) rfl rfl rfl (J_assign rfl Opd.con) ?_
  refine RegL.pure (p := (pEq (.int .i64 (0 : Int)))) rfl rfl rfl (J_assign rfl Opd.con) ?_
  refine RegL.nil ?_
  refine Ct.then_tr ?_
  refine Tr.weak (Γ' := [(2, (pPtr (cGRaster a_0))), (3, (pPtr (cGPoint a_1)))]) ⟨rfl, rfl, trivial⟩ ?_
  refine Tr.seq ?_
  refine Tr.block ?_
  refine Tr.seq ?_
  refine Tr.region ?_
  refine RegL.pure (p := (pAgg (cGRaster a_0))) rfl rfl rfl (J_loadA rfl Try.isAgg56 sz56 (Opd.tmp rfl) rfl) ?_
  replace h := bind_some h; obtain ⟨x1, hx1, h⟩ := h
  refine RegL.pure (p := (pEq (.bool x1))) rfl rfl rfl (J_call rfl Try.call43 (c_impl_ValidRaster hx1) (Opds.cons (Opd.tmp rfl) Opds.nil)) ?_
  refine RegL.pure (p := (pEq (.bool (!x1)))) rfl rfl rfl (J_not rfl (Opd.tmp rfl)) ?_
  refine RegL.pure (p := (pEq (.bool (!x1)))) rfl rfl rfl (J_assign rfl (Opd.tmp rfl)) ?_
  refine RegL.nil ?_
  refine Ct.then_tr ?_
  refine Tr.weak (Γ' := [(2, (pPtr (cGRaster a_0))), (3, (pPtr (cGPoint a_1))), (8, (pEq (.bool (!x1))))]) ⟨rfl, rfl, rfl, trivial⟩ ?_
  refine Tr.cond (Opd.tmp rfl) (fun hc => ?_) (fun hc => ?_)
  · replace h := bif_t hc h
    refine Tr.seq ?_
    refine Tr.region ?_
    refine RegL.pure (p := (pEq (.int .i64 (0 : Int)))) rfl rfl rfl (J_assign rfl Opd.con) ?_
    refine RegL.pure (p := (pEq (.int .i64 (0 : Int)))) rfl rfl rfl (J_assign rfl Opd.con) ?_
    refine RegL.pure (p := (pEq (.int .i64 (1 : Int)))) rfl rfl rfl (J_assign rfl Opd.con) ?_
    refine RegL.nil ?_
    refine Ct.then_tr ?_
    refine Tr.weak (Γ' := [(4, (pEq (.int .i64 (0 : Int)))), (5, (pEq (.int .i64 (0 : Int)))), (6, (pEq (.int .i64 (1 : Int))))]) ⟨rfl, rfl, rfl, trivial⟩ ?_
    refine Tr.ret ?_
    refine Ct.blk_ret ?_
    refine Ct.then_ret ?_
    replace h := Option.some.inj h; subst h
    exact Ct.ret3 rfl rfl rfl rfl
  · replace h := bif_f hc h
    refine Tr.seq ?_
    replace h := bind_some h; obtain ⟨x2, hx2, h⟩ := h
    refine Tr.cut (γ := Unit) (Γm := fun g => [(2, (pPtr (cGRaster a_0))), (3, (pPtr (cGPoint a_1))), (12, (pEq (.bool x2)))]) (Ωm := fun g => []) ?_ (fun g6 => ?_)
    · clear h
      have h := hx2
      clear hx2
      refine Tr.region ?_
      refine RegL.pure (p := (pPtr ((cK .i64) a_1.X))) rfl rfl rfl (J_fieldAddr rfl Try.underlying65 rfl sz2 (by decide) (Opd.tmp rfl) rfl) ?_
      refine RegL.pure (p := (pEq (.int .i64 a_1.X))) rfl rfl rfl (J_load rfl Try.isAgg2 (Opd.tmp rfl)) ?_
      refine RegL.pure (p := (pPtr ((cK .i64) a_0.Width))) rfl rfl rfl (J_fieldAddr rfl Try.underlying56 rfl sz2 (by decide) (Opd.tmp rfl) rfl) ?_
      refine RegL.pure (p := (pEq (.int .i64 a_0.Width))) rfl rfl rfl (J_load rfl Try.isAgg2 (Opd.tmp rfl)) ?_
      refine RegL.pure (p := (pEq (.int .i64 (w64 (a_0.Width - (1 : Int)))))) rfl rfl rfl (J_bin rfl (Opd.tmp rfl) Opd.con B_sub) ?_
      refine RegL.pure (p := (pPtr ((cK .i64) a_0.Step))) rfl rfl rfl (J_fieldAddr rfl Try.underlying56 rfl sz2 (by decide) (Opd.tmp rfl) rfl) ?_
      refine RegL.pure (p := (pEq (.int .i64 a_0.Step))) rfl rfl rfl (J_load rfl Try.isAgg2 (Opd.tmp rfl)) ?_
      refine RegL.pure (p := (pEq (.int .i64 (w64 ((w64 (a_0.Width - (1 : Int))) * a_0.Step))))) rfl rfl rfl (J_bin rfl (Opd.tmp rfl) (Opd.tmp rfl) B_mul) ?_
      replace h := bind_some h; obtain ⟨x3, hx3, h⟩ := h
      refine RegL.pure (p := (pEq (.bool x3))) rfl rfl rfl (J_call rfl Try.call82 (c_impl_within hx3) (Opds.cons (Opd.tmp rfl) (Opds.cons Opd.con (Opds.cons (Opd.tmp rfl) Opds.nil)))) ?_
      refine RegL.pure (p := (pEq (.bool (!x3)))) rfl rfl rfl (J_not rfl (Opd.tmp rfl)) ?_
      refine RegL.pure (p := (pEq (.bool (!x3)))) rfl rfl rfl (J_move rfl (Opd.tmp rfl)) ?_
      rcases Bool.eq_false_or_eq_true (!x3) with hc4 | hc4
      · replace h := bif_t hc4 h
        refine RegL.skipG rfl rfl rfl hc4 rfl rfl ?_
        refine RegL.skipG rfl rfl rfl hc4 rfl rfl ?_
        refine RegL.skipG rfl rfl rfl hc4 rfl rfl ?_
        refine RegL.skipG rfl rfl rfl hc4 rfl rfl ?_
        refine RegL.skipG rfl rfl rfl hc4 rfl rfl ?_
        refine RegL.skipG rfl rfl rfl hc4 rfl rfl ?_
        refine RegL.skipG rfl rfl rfl hc4 rfl rfl ?_
        refine RegL.skipG rfl rfl rfl hc4 rfl rfl ?_
        refine RegL.skipG rfl rfl rfl hc4 rfl rfl ?_
        refine RegL.skipG rfl rfl rfl hc4 rfl rfl ?_
        refine RegL.pure (p := (pEq (.bool true))) rfl rfl rfl (J_pick rfl (Opd.tmp rfl) (fun _ => Opd.con) (fun hf => absurd (hc4.symm.trans hf) (by decide))) ?_
        refine RegL.pure (p := (pEq (.bool true))) rfl rfl rfl (J_assign rfl (Opd.tmp rfl)) ?_
        refine RegL.nil ?_
        replace h := Option.some.inj h; subst h
        exact Ct.mid () rfl ⟨rfl, rfl, rfl, trivial⟩
      · replace h := bif_f hc4 h
        refine RegL.pureG (p := (pPtr ((cK .i64) a_1.Y))) rfl rfl rfl hc4 rfl rfl (J_fieldAddr rfl Try.underlying65 rfl sz2 (by decide) (Opd.tmp rfl) rfl) ?_
        refine RegL.pureG (p := (pEq (.int .i64 a_1.Y))) rfl rfl rfl hc4 rfl rfl (J_load rfl Try.isAgg2 (Opd.tmp rfl)) ?_
        refine RegL.pureG (p := (pPtr ((cK .i64) a_0.Height))) rfl rfl rfl hc4 rfl rfl (J_fieldAddr rfl Try.underlying56 rfl sz2 (by decide) (Opd.tmp rfl) rfl) ?_
        refine RegL.pureG (p := (pEq (.int .i64 a_0.Height))) rfl rfl rfl hc4 rfl rfl (J_load rfl Try.isAgg2 (Opd.tmp rfl)) ?_
        refine RegL.pureG (p := (pEq (.int .i64 (w64 (a_0.Height - (1 : Int)))))) rfl rfl rfl hc4 rfl rfl (J_bin rfl (Opd.tmp rfl) Opd.con B_sub) ?_
        refine RegL.pureG (p := (pPtr ((cK .i64) a_0.Step))) rfl rfl rfl hc4 rfl rfl (J_fieldAddr rfl Try.underlying56 rfl sz2 (by decide) (Opd.tmp rfl) rfl) ?_
        refine RegL.pureG (p := (pEq (.int .i64 a_0.Step))) rfl rfl rfl hc4 rfl rfl (J_load rfl Try.isAgg2 (Opd.tmp rfl)) ?_
        refine RegL.pureG (p := (pEq (.int .i64 (w64 ((w64 (a_0.Height - (1 : Int))) * a_0.Step))))) rfl rfl rfl hc4 rfl rfl (J_bin rfl (Opd.tmp rfl) (Opd.tmp rfl) B_mul) ?_
        replace h := bind_some h; obtain ⟨x5, hx5, h⟩ := h
        refine RegL.pureG (p := (pEq (.bool x5))) rfl rfl rfl hc4 rfl rfl (J_call rfl Try.call82 (c_impl_within hx5) (Opds.cons (Opd.tmp rfl) (Opds.cons Opd.con (Opds.cons (Opd.tmp rfl) Opds.nil)))) ?_
        refine RegL.pureG (p := (pEq (.bool (!x5)))) rfl rfl rfl hc4 rfl rfl (J_not rfl (Opd.tmp rfl)) ?_
        refine RegL.pure (p := (pEq (.bool (!x5)))) rfl rfl rfl (J_pick rfl (Opd.tmp rfl) (fun hf => absurd (hc4.symm.trans hf) (by decide)) (fun _ => (Opd.tmp rfl))) ?_
        refine RegL.pure (p := (pEq (.bool (!x5)))) rfl rfl rfl (J_assign rfl (Opd.tmp rfl)) ?_
        refine RegL.nil ?_
        replace h := Option.some.inj h; subst h
        exact Ct.mid () rfl ⟨rfl, rfl, rfl, trivial⟩
    · clear hx2
      refine Ct.then_tr ?_
      refine Tr.weak (Γ' := [(2, (pPtr (cGRaster a_0))), (3, (pPtr (cGPoint a_1))), (12, (pEq (.bool x2)))]) ⟨rfl, rfl, rfl, trivial⟩ ?_
      refine Tr.cond (Opd.tmp rfl) (fun hc => ?_) (fun hc => ?_)
      · replace h := bif_t hc h
        refine Tr.seq ?_
        refine Tr.region ?_
        refine RegL.pure (p := (pEq (.int .i64 (0 : Int)))) rfl rfl rfl (J_assign rfl Opd.con) ?_
        refine RegL.pure (p := (pEq (.int .i64 (0 : Int)))) rfl rfl rfl (J_assign rfl Opd.con) ?_
        refine RegL.pure (p := (pEq (.int .i64 (2 : Int)))) rfl rfl rfl (J_assign rfl Opd.con) ?_
        refine RegL.nil ?_
        refine Ct.then_tr ?_
        refine Tr.weak (Γ' := [(4, (pEq (.int .i64 (0 : Int)))), (5, (pEq (.int .i64 (0 : Int)))), (6, (pEq (.int .i64 (2 : Int))))]) ⟨rfl, rfl, rfl, trivial⟩ ?_
        refine Tr.ret ?_
        refine Ct.blk_ret ?_
        refine Ct.then_ret ?_
        replace h := Option.some.inj h; subst h
        exact Ct.ret3 rfl rfl rfl rfl
      · replace h := bif_f hc h
        refine Tr.skip ?_
        refine Ct.blk_normal ?_
        refine Ct.then_tr ?_
        refine Tr.weak (Γ' := [(2, (pPtr (cGRaster a_0))), (3, (pPtr (cGPoint a_1)))]) ⟨rfl, rfl, trivial⟩ ?_
        refine Tr.seq ?_
        replace h := bind_some h; obtain ⟨x7, hx7, h⟩ := h
        replace h := bind_some h; obtain ⟨x8, hx8, h⟩ := h
        refine Tr.draw (n := 69) (es := [Ent.mk [(3, (pPtr (cGPoint a_1)))] (pPtr ((cK .i64) a_1.Y)) true, Ent.mk [(35, (pPtr ((cK .i64) a_1.Y)))] (pEq (.int .i64 a_1.Y)) true, Ent.mk [(36, (pEq (.int .i64 a_1.Y)))] (pEq (.int .i64 (w64 ((2 : Int) * a_1.Y)))) true, Ent.mk [(2, (pPtr (cGRaster a_0)))] (pPtr ((cK .i64) a_0.Step)) true, Ent.mk [(38, (pPtr ((cK .i64) a_0.Step)))] (pEq (.int .i64 a_0.Step)) true, Ent.mk [(37, (pEq (.int .i64 (w64 ((2 : Int) * a_1.Y))))), (39, (pEq (.int .i64 a_0.Step)))] (pEq (.int .i64 (w64 ((w64 ((2 : Int) * a_1.Y)) + a_0.Step)))) true, Ent.mk [(2, (pPtr (cGRaster a_0)))] (pPtr ((cK .i64) a_0.Step)) true, Ent.mk [(41, (pPtr ((cK .i64) a_0.Step)))] (pEq (.int .i64 a_0.Step)) true, Ent.mk [(42, (pEq (.int .i64 a_0.Step)))] (pEq (.int .i64 (w64 ((2 : Int) * a_0.Step)))) true, Ent.mk [(40, (pEq (.int .i64 (w64 ((w64 ((2 : Int) * a_1.Y)) + a_0.Step))))), (43, (pEq (.int .i64 (w64 ((2 : Int) * a_0.Step)))))] (pEq (.int .i64 x7)) true, Ent.mk [(2, (pPtr (cGRaster a_0)))] (pPtr ((cK .i64) a_0.Width)) true, Ent.mk [(45, (pPtr ((cK .i64) a_0.Width)))] (pEq (.int .i64 a_0.Width)) true, Ent.mk [(44, (pEq (.int .i64 x7))), (46, (pEq (.int .i64 a_0.Width)))] (pEq (.int .i64 (w64 (x7 * a_0.Width)))) true, Ent.mk [(3, (pPtr (cGPoint a_1)))] (pPtr ((cK .i64) a_1.X)) true, Ent.mk [(48, (pPtr ((cK .i64) a_1.X)))] (pEq (.int .i64 a_1.X)) true, Ent.mk [(49, (pEq (.int .i64 a_1.X)))] (pEq (.int .i64 (w64 ((2 : Int) * a_1.X)))) true, Ent.mk [(2, (pPtr (cGRaster a_0)))] (pPtr ((cK .i64) a_0.Step)) true, Ent.mk [(51, (pPtr ((cK .i64) a_0.Step)))] (pEq (.int .i64 a_0.Step)) true, Ent.mk [(50, (pEq (.int .i64 (w64 ((2 : Int) * a_1.X))))), (52, (pEq (.int .i64 a_0.Step)))] (pEq (.int .i64 (w64 ((w64 ((2 : Int) * a_1.X)) + a_0.Step)))) true, Ent.mk [(2, (pPtr (cGRaster a_0)))] (pPtr ((cK .i64) a_0.Step)) true, Ent.mk [(54, (pPtr ((cK .i64) a_0.Step)))] (pEq (.int .i64 a_0.Step)) true, Ent.mk [(55, (pEq (.int .i64 a_0.Step)))] (pEq (.int .i64 (w64 ((2 : Int) * a_0.Step)))) true, Ent.mk [(53, (pEq (.int .i64 (w64 ((w64 ((2 : Int) * a_1.X)) + a_0.Step))))), (56, (pEq (.int .i64 (w64 ((2 : Int) * a_0.Step)))))] (pEq (.int .i64 x8)) true, Ent.mk [(47, (pEq (.int .i64 (w64 (x7 * a_0.Width))))), (57, (pEq (.int .i64 x8)))] (pEq (.int .i64 (w64 ((w64 (x7 * a_0.Width)) + x8)))) true, Ent.mk [(58, (pEq (.int .i64 (w64 ((w64 (x7 * a_0.Width)) + x8)))))] (pEq (.int .i64 (w64 ((w64 (x7 * a_0.Width)) + x8)))) true]) (rd := [[3], [35], [36], [2], [38], [37, 39], [2], [41], [42], [40, 43], [2], [45], [44, 46], [3], [48], [49], [2], [51], [50, 52], [2], [54], [55], [53, 56], [47, 57], [58]]) rfl hmix rfl (by kernel_rfl) ⟨⟨(OpJ.w (J_fieldAddr rfl Try.underlying65 rfl sz2 (by decide) (Opd.tmp rfl) rfl)), ⟨rfl, trivial⟩, rfl⟩, ⟨(OpJ.w (J_load rfl Try.isAgg2 (Opd.tmp rfl))), ⟨rfl, trivial⟩, rfl⟩, ⟨(OpJ.w (J_bin rfl Opd.con (Opd.tmp rfl) B_mul)), ⟨rfl, trivial⟩, rfl⟩, ⟨(OpJ.w (J_fieldAddr rfl Try.underlying56 rfl sz2 (by decide) (Opd.tmp rfl) rfl)), ⟨rfl, trivial⟩, rfl⟩, ⟨(OpJ.w (J_load rfl Try.isAgg2 (Opd.tmp rfl))), ⟨rfl, trivial⟩, rfl⟩, ⟨(OpJ.w (J_bin rfl (Opd.tmp rfl) (Opd.tmp rfl) B_add)), ⟨rfl, rfl, trivial⟩, rfl⟩, ⟨(OpJ.w (J_fieldAddr rfl Try.underlying56 rfl sz2 (by decide) (Opd.tmp rfl) rfl)), ⟨rfl, trivial⟩, rfl⟩, ⟨(OpJ.w (J_load rfl Try.isAgg2 (Opd.tmp rfl))), ⟨rfl, trivial⟩, rfl⟩, ⟨(OpJ.w (J_bin rfl Opd.con (Opd.tmp rfl) B_mul)), ⟨rfl, trivial⟩, rfl⟩, ⟨(OpJ.w (J_bin rfl (Opd.tmp rfl) (Opd.tmp rfl) (B_qdiv hx7))), ⟨rfl, rfl, trivial⟩, rfl⟩, ⟨(OpJ.w (J_fieldAddr rfl Try.underlying56 rfl sz2 (by decide) (Opd.tmp rfl) rfl)), ⟨rfl, trivial⟩, rfl⟩, ⟨(OpJ.w (J_load rfl Try.isAgg2 (Opd.tmp rfl))), ⟨rfl, trivial⟩, rfl⟩, ⟨(OpJ.w (J_bin rfl (Opd.tmp rfl) (Opd.tmp rfl) B_mul)), ⟨rfl, rfl, trivial⟩, rfl⟩, ⟨(OpJ.w (J_fieldAddr rfl Try.underlying65 rfl sz2 (by decide) (Opd.tmp rfl) rfl)), ⟨rfl, trivial⟩, rfl⟩, ⟨(OpJ.w (J_load rfl Try.isAgg2 (Opd.tmp rfl))), ⟨rfl, trivial⟩, rfl⟩, ⟨(OpJ.w (J_bin rfl Opd.con (Opd.tmp rfl) B_mul)), ⟨rfl, trivial⟩, rfl⟩, ⟨(OpJ.w (J_fieldAddr rfl Try.underlying56 rfl sz2 (by decide) (Opd.tmp rfl) rfl)), ⟨rfl, trivial⟩, rfl⟩, ⟨(OpJ.w (J_load rfl Try.isAgg2 (Opd.tmp rfl))), ⟨rfl, trivial⟩, rfl⟩, ⟨(OpJ.w (J_bin rfl (Opd.tmp rfl) (Opd.tmp rfl) B_add)), ⟨rfl, rfl, trivial⟩, rfl⟩, ⟨(OpJ.w (J_fieldAddr rfl Try.underlying56 rfl sz2 (by decide) (Opd.tmp rfl) rfl)), ⟨rfl, trivial⟩, rfl⟩, ⟨(OpJ.w (J_load rfl Try.isAgg2 (Opd.tmp rfl))), ⟨rfl, trivial⟩, rfl⟩, ⟨(OpJ.w (J_bin rfl Opd.con (Opd.tmp rfl) B_mul)), ⟨rfl, trivial⟩, rfl⟩, ⟨(OpJ.w (J_bin rfl (Opd.tmp rfl) (Opd.tmp rfl) (B_qdiv hx8))), ⟨rfl, rfl, trivial⟩, rfl⟩, ⟨(OpJ.w (J_bin rfl (Opd.tmp rfl) (Opd.tmp rfl) B_add)), ⟨rfl, rfl, trivial⟩, rfl⟩, ⟨(OpJ.w (J_assign rfl (Opd.tmp rfl))), ⟨rfl, trivial⟩, rfl⟩, trivial⟩ ?_
        refine Ct.then_tr ?_
        refine Tr.weak (Γ' := [(2, (pPtr (cGRaster a_0))), (7, (pEq (.int .i64 (w64 ((w64 (x7 * a_0.Width)) + x8)))))]) ⟨rfl, rfl, trivial⟩ ?_
        refine Tr.seq ?_
        replace h := bind_some h; obtain ⟨x9, hx9, h⟩ := h
        replace h := bind_some h; obtain ⟨x10, hx10, h⟩ := h
        refine Tr.draw (n := 69) (es := [Ent.mk [(2, (pPtr (cGRaster a_0)))] (pPtr ((cSl 1 (cK .i64)) a_0.Server)) true, Ent.mk [(59, (pPtr ((cSl 1 (cK .i64)) a_0.Server)))] (pSl 1 (cK .i64) a_0.Server) true, Ent.mk [(7, (pEq (.int .i64 (w64 ((w64 (x7 * a_0.Width)) + x8)))))] (pEq (.int .i64 (w64 ((w64 (x7 * a_0.Width)) + x8)))) true, Ent.mk [(60, (pSl 1 (cK .i64) a_0.Server)), (61, (pEq (.int .i64 (w64 ((w64 (x7 * a_0.Width)) + x8)))))] (pPtr ((cK .i64) x9)) true, Ent.mk [(62, (pPtr ((cK .i64) x9)))] (pEq (.int .i64 x9)) true, Ent.mk [(2, (pPtr (cGRaster a_0)))] (pPtr ((cSl 1 (cK .i64)) a_0.Level)) true, Ent.mk [(64, (pPtr ((cSl 1 (cK .i64)) a_0.Level)))] (pSl 1 (cK .i64) a_0.Level) true, Ent.mk [(7, (pEq (.int .i64 (w64 ((w64 (x7 * a_0.Width)) + x8)))))] (pEq (.int .i64 (w64 ((w64 (x7 * a_0.Width)) + x8)))) true, Ent.mk [(65, (pSl 1 (cK .i64) a_0.Level)), (66, (pEq (.int .i64 (w64 ((w64 (x7 * a_0.Width)) + x8)))))] (pPtr ((cK .i64) x10)) true, Ent.mk [(67, (pPtr ((cK .i64) x10)))] (pEq (.int .i64 x10)) true, Ent.mk [(63, (pEq (.int .i64 x9)))] (pEq (.int .i64 x9)) true, Ent.mk [(68, (pEq (.int .i64 x10)))] (pEq (.int .i64 x10)) true, Ent.mk [] (pEq (.int .i64 (0 : Int))) true]) (rd := [[2], [59], [7], [60, 61], [62], [2], [64], [7], [65, 66], [67], [63], [68], []]) rfl hmix rfl (by kernel_rfl) ⟨⟨(OpJ.w (J_fieldAddr rfl Try.underlying56 rfl sz22 (by decide) (Opd.tmp rfl) rfl)), ⟨rfl, trivial⟩, rfl⟩, ⟨(OpJ.w (J_load rfl Try.isAgg22 (Opd.tmp rfl))), ⟨rfl, trivial⟩, rfl⟩, ⟨(OpJ.w (J_move rfl (Opd.tmp rfl))), ⟨rfl, trivial⟩, rfl⟩, ⟨(OpJ.w (J_idx rfl Try.underlying22 sz2 (Opd.tmp rfl) (Opd.tmp rfl) hx9)), ⟨rfl, rfl, trivial⟩, rfl⟩, ⟨(OpJ.w (J_load rfl Try.isAgg2 (Opd.tmp rfl))), ⟨rfl, trivial⟩, rfl⟩, ⟨(OpJ.w (J_fieldAddr rfl Try.underlying56 rfl sz22 (by decide) (Opd.tmp rfl) rfl)), ⟨rfl, trivial⟩, rfl⟩, ⟨(OpJ.w (J_load rfl Try.isAgg22 (Opd.tmp rfl))), ⟨rfl, trivial⟩, rfl⟩, ⟨(OpJ.w (J_move rfl (Opd.tmp rfl))), ⟨rfl, trivial⟩, rfl⟩, ⟨(OpJ.w (J_idx rfl Try.underlying22 sz2 (Opd.tmp rfl) (Opd.tmp rfl) hx10)), ⟨rfl, rfl, trivial⟩, rfl⟩, ⟨(OpJ.w (J_load rfl Try.isAgg2 (Opd.tmp rfl))), ⟨rfl, trivial⟩, rfl⟩, ⟨(OpJ.w (J_assign rfl (Opd.tmp rfl))), ⟨rfl, trivial⟩, rfl⟩, ⟨(OpJ.w (J_assign rfl (Opd.tmp rfl))), ⟨rfl, trivial⟩, rfl⟩, ⟨(OpJ.w (J_assign rfl Opd.con)), trivial, rfl⟩, trivial⟩ ?_
        refine Ct.then_tr ?_
        refine Tr.weak (Γ' := [(4, (pEq (.int .i64 x9))), (5, (pEq (.int .i64 x10))), (6, (pEq (.int .i64 (0 : Int))))]) ⟨rfl, rfl, rfl, trivial⟩ ?_
        refine Tr.ret ?_
        replace h := Option.some.inj h; subst h
        exact Ct.ret3 rfl rfl rfl rfl

theorem c_laws_eqInt64S {a_0 : (List Int)} {b_1 : (List Int)} {r : Bool} (h : m_laws_eqInt64S a_0 b_1 = some r) : CallJ Try.prog 18 [(pSl 1 (cK .i64) a_0), (pSl 1 (cK .i64) b_1)] (pEq (.bool r)) := by
  unfold m_laws_eqInt64S at h
  refine CallJ.enter Try.func18 rfl Try.ntmps18 rfl fun W I0 => ?_
  refine Tr.weak (Γ' := [(0, (pSl 1 (cK .i64) a_0)), (1, (pSl 1 (cK .i64) b_1))]) ⟨rfl, rfl, trivial⟩ ?_
  refine Tr.seq ?_
  refine Tr.region ?_
  refine RegL.pure (p := (pEq (.bool false))) rfl rfl rfl (J_assign rfl Opd.con) ?_
  refine RegL.nil ?_
  refine Ct.then_tr ?_
  refine Tr.weak (Γ' := [(0, (pSl 1 (cK .i64) a_0)), (1, (pSl 1 (cK .i64) b_1))]) ⟨rfl, rfl, trivial⟩ ?_
  refine Tr.seq ?_
  refine Tr.seq ?_
  refine Tr.region ?_
  refine RegL.pure (p := (pSl 1 (cK .i64) a_0)) rfl rfl rfl (J_move rfl (Opd.tmp rfl)) ?_
  refine RegL.pure (p := (pEq (.int .i64 (a_0.length : Int)))) rfl rfl rfl (J_len rfl Try.underlying22 (Opd.tmp rfl) rfl) ?_
  refine RegL.pure (p := (pSl 1 (cK .i64) b_1)) rfl rfl rfl (J_move rfl (Opd.tmp rfl)) ?_
  refine RegL.pure (p := (pEq (.int .i64 (b_1.length : Int)))) rfl rfl rfl (J_len rfl Try.underlying22 (Opd.tmp rfl) rfl) ?_
  refine RegL.pure (p := (pEq (.bool ((a_0.length : Int) != (b_1.length : Int))))) rfl rfl rfl (J_bin rfl (Opd.tmp rfl) (Opd.tmp rfl) B_neq) ?_
  refine RegL.nil ?_
  refine Ct.then_tr ?_
  refine Tr.weak (Γ' := [(0, (pSl 1 (cK .i64) a_0)), (1, (pSl 1 (cK .i64) b_1)), (10, (pEq (.bool ((a_0.length : Int) != (b_1.length : Int)))))]) ⟨rfl, rfl, rfl, trivial⟩ ?_
  refine Tr.cond (Opd.tmp rfl) (fun hc => ?_) (fun hc => ?_)
  · replace h := bif_t hc h
    refine Tr.seq ?_
    refine Tr.region ?_
    refine RegL.pure (p := (pEq (.bool false))) rfl rfl rfl (J_assign rfl Opd.con) ?_
    refine RegL.nil ?_
    refine Ct.then_tr ?_
    refine Tr.weak (Γ' := [(4, (pEq (.bool false)))]) ⟨rfl, trivial⟩ ?_
    refine Tr.ret ?_
    refine Ct.then_ret ?_
    replace h := Option.some.inj h; subst h
    exact Ct.ret1 rfl rfl
  · replace h := bif_f hc h
    refine Tr.skip ?_
    refine Ct.then_tr ?_
    refine Tr.weak (Γ' := [(0, (pSl 1 (cK .i64) a_0)), (1, (pSl 1 (cK .i64) b_1))]) ⟨rfl, rfl, trivial⟩ ?_
    refine Tr.seq ?_
    refine Tr.seq ?_
    refine Tr.region ?_
    refine RegL.pure (p := (pEq (.int .i64 (0 : Int)))) rfl rfl rfl (J_assign rfl Opd.con) ?_
    refine RegL.nil ?_
    refine Ct.then_tr ?_
    refine Tr.weak (Γ' := [(0, (pSl 1 (cK .i64) a_0)), (1, (pSl 1 (cK .i64) b_1)), (5, (pEq (.int .i64 (0 : Int))))]) ⟨rfl, rfl, rfl, trivial⟩ ?_
    refine Tr.block ?_
    refine Tr.weak (Γ' := [(0, (pSl 1 (cK .i64) a_0)), (1, (pSl 1 (cK .i64) b_1)), (5, (pEq (.int .i64 (0 : Int))))]) ⟨rfl, rfl, rfl, trivial⟩ ?_
    refine Tr.loop (γ := Unit) (σ := Int) (Γσ := fun s g => [(0, (pSl 1 (cK .i64) a_0)), (1, (pSl 1 (cK .i64) b_1)), (5, (pEq (.int .i64 s)))]) (Ωσ := fun s g => []) (g := ()) h ?_
    clear h
    rintro v2 g3 t h
    replace h : m_laws_eqInt64S_B1 a_0 b_1 v2 = some t := h
    unfold m_laws_eqInt64S_B1 at h
    refine Tr.weakO (Γ' := [(0, (pSl 1 (cK .i64) a_0)), (1, (pSl 1 (cK .i64) b_1)), (5, (pEq (.int .i64 v2)))]) (Ω' := []) rfl ⟨rfl, rfl, rfl, trivial⟩ ?_
    refine Tr.seq ?_
    refine Tr.seq ?_
    refine Tr.region ?_
    refine RegL.pure (p := (pEq (.int .i64 v2))) rfl rfl rfl (J_move rfl (Opd.tmp rfl)) ?_
    refine RegL.pure (p := (pSl 1 (cK .i64) a_0)) rfl rfl rfl (J_move rfl (Opd.tmp rfl)) ?_
    refine RegL.pure (p := (pEq (.int .i64 (a_0.length : Int)))) rfl rfl rfl (J_len rfl Try.underlying22 (Opd.tmp rfl) rfl) ?_
    refine RegL.pure (p := (pEq (.bool (decide (v2 < (a_0.length : Int)))))) rfl rfl rfl (J_bin rfl (Opd.tmp rfl) (Opd.tmp rfl) B_lss) ?_
    refine RegL.nil ?_
    refine Ct.then_tr ?_
    refine Tr.weak (Γ' := [(0, (pSl 1 (cK .i64) a_0)), (1, (pSl 1 (cK .i64) b_1)), (5, (pEq (.int .i64 v2))), (14, (pEq (.bool (decide (v2 < (a_0.length : Int))))))]) ⟨rfl, rfl, rfl, rfl, trivial⟩ ?_
    refine Tr.cond (Opd.tmp rfl) (fun hc => ?_) (fun hc => ?_)
    · replace h := bif_t hc h
      refine Tr.skip ?_
      refine Ct.then_tr ?_
      refine Tr.weak (Γ' := [(0, (pSl 1 (cK .i64) a_0)), (1, (pSl 1 (cK .i64) b_1)), (5, (pEq (.int .i64 v2)))]) ⟨rfl, rfl, rfl, trivial⟩ ?_
      refine Tr.seq ?_
      refine Tr.block ?_
      refine Tr.seq ?_
      replace h := bind_some h; obtain ⟨x4, hx4, h⟩ := h
      replace h := bind_some h; obtain ⟨x5, hx5, h⟩ := h
      refine Tr.draw (n := 26) (es := [Ent.mk [(0, (pSl 1 (cK .i64) a_0))] (pSl 1 (cK .i64) a_0) true, Ent.mk [(5, (pEq (.int .i64 v2)))] (pEq (.int .i64 v2)) true, Ent.mk [(17, (pSl 1 (cK .i64) a_0)), (18, (pEq (.int .i64 v2)))] (pPtr ((cK .i64) x4)) true, Ent.mk [(19, (pPtr ((cK .i64) x4)))] (pEq (.int .i64 x4)) true, Ent.mk [(1, (pSl 1 (cK .i64) b_1))] (pSl 1 (cK .i64) b_1) true, Ent.mk [(5, (pEq (.int .i64 v2)))] (pEq (.int .i64 v2)) true, Ent.mk [(21, (pSl 1 (cK .i64) b_1)), (22, (pEq (.int .i64 v2)))] (pPtr ((cK .i64) x5)) true, Ent.mk [(23, (pPtr ((cK .i64) x5)))] (pEq (.int .i64 x5)) true, Ent.mk [(20, (pEq (.int .i64 x4))), (24, (pEq (.int .i64 x5)))] (pEq (.bool (x4 != x5))) true]) (rd := [[0], [5], [17, 18], [19], [1], [5], [21, 22], [23], [20, 24]]) rfl hmix rfl (by kernel_rfl) ⟨⟨(OpJ.w (J_move rfl (Opd.tmp rfl))), ⟨rfl, trivial⟩, rfl⟩, ⟨(OpJ.w (J_move rfl (Opd.tmp rfl))), ⟨rfl, trivial⟩, rfl⟩, ⟨(OpJ.w (J_idx rfl Try.underlying22 sz2 (Opd.tmp rfl) (Opd.tmp rfl) hx4)), ⟨rfl, rfl, trivial⟩, rfl⟩, ⟨(OpJ.w (J_load rfl Try.isAgg2 (Opd.tmp rfl))), ⟨rfl, trivial⟩, rfl⟩, ⟨(OpJ.w (J_move rfl (Opd.tmp rfl))), ⟨rfl, trivial⟩, rfl⟩, ⟨(OpJ.w (J_move rfl (Opd.tmp rfl))), ⟨rfl, trivial⟩, rfl⟩, ⟨(OpJ.w (J_idx rfl Try.underlying22 sz2 (Opd.tmp rfl) (Opd.tmp rfl) hx5)), ⟨rfl, rfl, trivial⟩, rfl⟩, ⟨(OpJ.w (J_load rfl Try.isAgg2 (Opd.tmp rfl))), ⟨rfl, trivial⟩, rfl⟩, ⟨(OpJ.w (J_bin rfl (Opd.tmp rfl) (Opd.tmp rfl) B_neq)), ⟨rfl, rfl, trivial⟩, rfl⟩, trivial⟩ ?_
      refine Ct.then_tr ?_
      refine Tr.weak (Γ' := [(0, (pSl 1 (cK .i64) a_0)), (1, (pSl 1 (cK .i64) b_1)), (5, (pEq (.int .i64 v2))), (25, (pEq (.bool (x4 != x5))))]) ⟨rfl, rfl, rfl, rfl, trivial⟩ ?_
      refine Tr.cond (Opd.tmp rfl) (fun hc => ?_) (fun hc => ?_)
      · replace h := bif_t hc h
        refine Tr.seq ?_
        refine Tr.region ?_
        refine RegL.pure (p := (pEq (.bool false))) rfl rfl rfl (J_assign rfl Opd.con) ?_
        refine RegL.nil ?_
        refine Ct.then_tr ?_
        refine Tr.weak (Γ' := [(4, (pEq (.bool false)))]) ⟨rfl, trivial⟩ ?_
        refine Tr.ret ?_
        refine Ct.blk_ret ?_
        refine Ct.then_ret ?_
        replace h := map_some h; obtain ⟨r1, h, rfl⟩ := h
        refine Ct.out_ret fun e => ?_
        subst e
        refine Ct.blk_ret ?_
        refine Ct.then_ret ?_
        replace h := Option.some.inj h; subst h
        exact Ct.ret1 rfl rfl
      · replace h := bif_f hc h
        refine Tr.skip ?_
        refine Ct.blk_normal ?_
        refine Ct.then_tr ?_
        refine Tr.weak (Γ' := [(0, (pSl 1 (cK .i64) a_0)), (1, (pSl 1 (cK .i64) b_1)), (5, (pEq (.int .i64 v2)))]) ⟨rfl, rfl, rfl, trivial⟩ ?_
        refine Tr.region ?_
        refine RegL.pure (p := (pEq (.int .i64 v2))) rfl rfl rfl (J_move rfl (Opd.tmp rfl)) ?_
        refine RegL.pure (p := (pEq (.int .i64 (w64 (v2 + (1 : Int)))))) rfl rfl rfl (J_bin rfl (Opd.tmp rfl) Opd.con B_add) ?_
        refine RegL.pure (p := (pEq (.int .i64 (w64 (v2 + (1 : Int)))))) rfl rfl rfl (J_assign rfl (Opd.tmp rfl)) ?_
        refine RegL.nil ?_
        replace h := Option.some.inj h; subst h
        exact Ct.again () rfl ⟨rfl, rfl, rfl, trivial⟩
    · replace h := bif_f hc h
      refine Tr.exit ?_
      refine Ct.then_exit ?_
      replace h := map_some h; obtain ⟨r1, h, rfl⟩ := h
      refine Ct.out_exit fun e => ?_
      subst e
      refine Ct.blk_exit ?_
      refine Ct.then_tr ?_
      refine Tr.weak (Γ' := []) trivial ?_
      refine Tr.seq ?_
      refine Tr.region ?_
      refine RegL.pure (p := (pEq (.bool true))) rfl rfl rfl (J_assign rfl Opd.con) ?_
      refine RegL.nil ?_
      refine Ct.then_tr ?_
      refine Tr.weak (Γ' := [(4, (pEq (.bool true)))]) ⟨rfl, trivial⟩ ?_
      refine Tr.ret ?_
      replace h := Option.some.inj h; subst h
      exact Ct.ret1 rfl rfl

theorem c_laws_eqRaster {a_0 : GRaster} {b_1 : GRaster} {r : Bool} (h : m_laws_eqRaster a_0 b_1 = some r) : CallJ Try.prog 41 [(pAgg (cGRaster a_0)), (pAgg (cGRaster b_1))] (pEq (.bool r)) := by
  unfold m_laws_eqRaster at h
  refine CallJ.enter Try.func41 rfl Try.ntmps41 rfl fun W I0 => ?_
  refine Tr.weak (Γ' := [(0, (pAgg (cGRaster a_0))), (1, (pAgg (cGRaster b_1)))]) ⟨rfl, rfl, trivial⟩ ?_
  refine Tr.seq ?_
  refine Tr.region ?_
  refine RegL.pure (p := (pPtr (cGRaster a_0))) rfl rfl rfl (J_boxA rfl (Opd.tmp rfl)) ?_
  refine RegL.pure (p := (pPtr (cGRaster b_1))) rfl rfl rfl (J_boxA rfl (Opd.tmp rfl)) ?_
  refine RegL.pure (p := (pEq (.bool false))) rfl rfl rfl (J_assign rfl Opd.con) ?_
  refine RegL.nil ?_
  refine Ct.then_tr ?_
  refine Tr.weak (Γ' := [(2, (pPtr (cGRaster a_0))), (3, (pPtr (cGRaster b_1)))]) ⟨rfl, rfl, trivial⟩ ?_
  refine Tr.seq ?_
  refine Tr.seq ?_
  refine Tr.region ?_
  refine RegL.pure (p := (pPtr ((cK .i64) a_0.Step))) rfl rfl rfl (J_fieldAddr rfl Try.underlying56 rfl sz2 (by decide) (Opd.tmp rfl) rfl) ?_
  refine RegL.pure (p := (pEq (.int .i64 a_0.Step))) rfl rfl rfl (J_load rfl Try.isAgg2 (Opd.tmp rfl)) ?_
  refine RegL.pure (p := (pPtr ((cK .i64) b_1.Step))) rfl rfl rfl (J_fieldAddr rfl Try.underlying56 rfl sz2 (by decide) (Opd.tmp rfl) rfl) ?_
  refine RegL.pure (p := (pEq (.int .i64 b_1.Step))) rfl rfl rfl (J_load rfl Try.isAgg2 (Opd.tmp rfl)) ?_
  refine RegL.pure (p := (pEq (.bool (a_0.Step != b_1.Step)))) rfl rfl rfl (J_bin rfl (Opd.tmp rfl) (Opd.tmp rfl) B_neq) ?_
  refine RegL.nil ?_
  refine Ct.then_tr ?_
  refine Tr.weak (Γ' := [(2, (pPtr (cGRaster a_0))), (3, (pPtr (cGRaster b_1))), (9, (pEq (.bool (a_0.Step != b_1.Step))))]) ⟨rfl, rfl, rfl, trivial⟩ ?_
  refine Tr.cond (Opd.tmp rfl) (fun hc => ?_) (fun hc => ?_)
  · replace h := bif_t hc h
    refine Tr.seq ?_
    refine Tr.region ?_
    refine RegL.pure (p := (pEq (.bool false))) rfl rfl rfl (J_assign rfl Opd.con) ?_
    refine RegL.nil ?_
    refine Ct.then_tr ?_
    refine Tr.weak (Γ' := [(4, (pEq (.bool false)))]) ⟨rfl, trivial⟩ ?_
    refine Tr.ret ?_
    refine Ct.then_ret ?_
    replace h := Option.some.inj h; subst h
    exact Ct.ret1 rfl rfl
  · replace h := bif_f hc h
    refine Tr.skip ?_
    refine Ct.then_tr ?_
    refine Tr.weak (Γ' := [(2, (pPtr (cGRaster a_0))), (3, (pPtr (cGRaster b_1)))]) ⟨rfl, rfl, trivial⟩ ?_
    refine Tr.seq ?_
    refine Tr.seq ?_
    refine Tr.region ?_
    refine RegL.pure (p := (pPtr ((cK .i64) a_0.Width))) rfl rfl rfl (J_fieldAddr rfl Try.underlying56 rfl sz2 (by decide) (Opd.tmp rfl) rfl) ?_
    refine RegL.pure (p := (pEq (.int .i64 a_0.Width))) rfl rfl rfl (J_load rfl Try.isAgg2 (Opd.tmp rfl)) ?_
    refine RegL.pure (p := (pPtr ((cK .i64) b_1.Width))) rfl rfl rfl (J_fieldAddr rfl Try.underlying56 rfl sz2 (by decide) (Opd.tmp rfl) rfl) ?_
    refine RegL.pure (p := (pEq (.int .i64 b_1.Width))) rfl rfl rfl (J_load rfl Try.isAgg2 (Opd.tmp rfl)) ?_
    refine RegL.pure (p := (pEq (.bool (a_0.Width != b_1.Width)))) rfl rfl rfl (J_bin rfl (Opd.tmp rfl) (Opd.tmp rfl) B_neq) ?_
    refine RegL.nil ?_
    refine Ct.then_tr ?_
    refine Tr.weak (Γ' := [(2, (pPtr (cGRaster a_0))), (3, (pPtr (cGRaster b_1))), (14, (pEq (.bool (a_0.Width != b_1.Width))))]) ⟨rfl, rfl, rfl, trivial⟩ ?_
    refine Tr.cond (Opd.tmp rfl) (fun hc => ?_) (fun hc => ?_)
    · replace h := bif_t hc h
      refine Tr.seq ?_
      refine Tr.region ?_
      refine RegL.pure (p := (pEq (.bool false))) rfl rfl rfl (J_assign rfl Opd.con) ?_
      refine RegL.nil ?_
      refine Ct.then_tr ?_
      refine Tr.weak (Γ' := [(4, (pEq (.bool false)))]) ⟨rfl, trivial⟩ ?_
      refine Tr.ret ?_
      refine Ct.then_ret ?_
      replace h := Option.some.inj h; subst h
      exact Ct.ret1 rfl rfl
    · replace h := bif_f hc h
      refine Tr.skip ?_
      refine Ct.then_tr ?_
      refine Tr.weak (Γ' := [(2, (pPtr (cGRaster a_0))), (3, (pPtr (cGRaster b_1)))]) ⟨rfl, rfl, trivial⟩ ?_
      refine Tr.seq ?_
      refine Tr.seq ?_
      refine Tr.region ?_
      refine RegL.pure (p := (pPtr ((cK .i64) a_0.Height))) rfl rfl rfl (J_fieldAddr rfl Try.underlying56 rfl sz2 (by decide) (Opd.tmp rfl) rfl) ?_
      refine RegL.pure (p := (pEq (.int .i64 a_0.Height))) rfl rfl rfl (J_load rfl Try.isAgg2 (Opd.tmp rfl)) ?_
      refine RegL.pure (p := (pPtr ((cK .i64) b_1.Height))) rfl rfl rfl (J_fieldAddr rfl Try.underlying56 rfl sz2 (by decide) (Opd.tmp rfl) rfl) ?_
      refine RegL.pure (p := (pEq (.int .i64 b_1.Height))) rfl rfl rfl (J_load rfl Try.isAgg2 (Opd.tmp rfl)) ?_
      refine RegL.pure (p := (pEq (.bool (a_0.Height != b_1.Height)))) rfl rfl rfl (J_bin rfl (Opd.tmp rfl) (Opd.tmp rfl) B_neq) ?_
      refine RegL.nil ?_
      refine Ct.then_tr ?_
      refine Tr.weak (Γ' := [(2, (pPtr (cGRaster a_0))), (3, (pPtr (cGRaster b_1))), (19, (pEq (.bool (a_0.Height != b_1.Height))))]) ⟨rfl, rfl, rfl, trivial⟩ ?_
      refine Tr.cond (Opd.tmp rfl) (fun hc => ?_) (fun hc => ?_)
      · replace h := bif_t hc h
        refine Tr.seq ?_
        refine Tr.region ?_
        refine RegL.pure (p := (pEq (.bool false))) rfl rfl rfl (J_assign rfl Opd.con) ?_
        refine RegL.nil ?_
        refine Ct.then_tr ?_
        refine Tr.weak (Γ' := [(4, (pEq (.bool false)))]) ⟨rfl, trivial⟩ ?_
        refine Tr.ret ?_
        refine Ct.then_ret ?_
        replace h := Option.some.inj h; subst h
        exact Ct.ret1 rfl rfl
      · replace h := bif_f hc h
        refine Tr.skip ?_
        refine Ct.then_tr ?_
        refine Tr.weak (Γ' := [(2, (pPtr (cGRaster a_0))), (3, (pPtr (cGRaster b_1)))]) ⟨rfl, rfl, trivial⟩ ?_
        refine Tr.seq ?_
        refine Tr.seq ?_
        refine Tr.region ?_
        refine RegL.pure (p := (pPtr ((cSl 1 (cK .i64)) a_0.Server))) rfl rfl rfl (J_fieldAddr rfl Try.underlying56 rfl sz22 (by decide) (Opd.tmp rfl) rfl) ?_
        refine RegL.pure (p := (pSl 1 (cK .i64) a_0.Server)) rfl rfl rfl (J_load rfl Try.isAgg22 (Opd.tmp rfl)) ?_
        refine RegL.pure (p := (pPtr ((cSl 1 (cK .i64)) b_1.Server))) rfl rfl rfl (J_fieldAddr rfl Try.underlying56 rfl sz22 (by decide) (Opd.tmp rfl) rfl) ?_
        refine RegL.pure (p := (pSl 1 (cK .i64) b_1.Server)) rfl rfl rfl (J_load rfl Try.isAgg22 (Opd.tmp rfl)) ?_
        replace h := bind_some h; obtain ⟨x1, hx1, h⟩ := h
        refine RegL.pure (p := (pEq (.bool x1))) rfl rfl rfl (J_call rfl Try.call18 (c_laws_eqInt64S hx1) (Opds.cons (Opd.tmp rfl) (Opds.cons (Opd.tmp rfl) Opds.nil))) ?_
        refine RegL.pure (p := (pEq (.bool (!x1)))) rfl rfl rfl (J_not rfl (Opd.tmp rfl)) ?_
        refine RegL.nil ?_
        refine Ct.then_tr ?_
        refine Tr.weak (Γ' := [(2, (pPtr (cGRaster a_0))), (3, (pPtr (cGRaster b_1))), (25, (pEq (.bool (!x1))))]) ⟨rfl, rfl, rfl, trivial⟩ ?_
        refine Tr.cond (Opd.tmp rfl) (fun hc => ?_) (fun hc => ?_)
        · replace h := bif_t hc h
          refine Tr.seq ?_
          refine Tr.region ?_
          refine RegL.pure (p := (pEq (.bool false))) rfl rfl rfl (J_assign rfl Opd.con) ?_
          refine RegL.nil ?_
          refine Ct.then_tr ?_
          refine Tr.weak (Γ' := [(4, (pEq (.bool false)))]) ⟨rfl, trivial⟩ ?_
          refine Tr.ret ?_
          refine Ct.then_ret ?_
          replace h := Option.some.inj h; subst h
          exact Ct.ret1 rfl rfl
        · replace h := bif_f hc h
          refine Tr.skip ?_
          refine Ct.then_tr ?_
          refine Tr.weak (Γ' := [(2, (pPtr (cGRaster a_0))), (3, (pPtr (cGRaster b_1)))]) ⟨rfl, rfl, trivial⟩ ?_
          refine Tr.seq ?_
          refine Tr.seq ?_
          refine Tr.region ?_
          refine RegL.pure (p := (pPtr ((cSl 1 (cK .i64)) a_0.Level))) rfl rfl rfl (J_fieldAddr rfl Try.underlying56 rfl sz22 (by decide) (Opd.tmp rfl) rfl) ?_
          refine RegL.pure (p := (pSl 1 (cK .i64) a_0.Level)) rfl rfl rfl (J_load rfl Try.isAgg22 (Opd.tmp rfl)) ?_
          refine RegL.pure (p := (pPtr ((cSl 1 (cK .i64)) b_1.Level))) rfl rfl rfl (J_fieldAddr rfl Try.underlying56 rfl sz22 (by decide) (Opd.tmp rfl) rfl) ?_
          refine RegL.pure (p := (pSl 1 (cK .i64) b_1.Level)) rfl rfl rfl (J_load rfl Try.isAgg22 (Opd.tmp rfl)) ?_
          replace h := bind_some h; obtain ⟨x2, hx2, h⟩ := h
          refine RegL.pure (p := (pEq (.bool x2))) rfl rfl rfl (J_call rfl Try.call18 (c_laws_eqInt64S hx2) (Opds.cons (Opd.tmp rfl) (Opds.cons (Opd.tmp rfl) Opds.nil))) ?_
          refine RegL.pure (p := (pEq (.bool (!x2)))) rfl rfl rfl (J_not rfl (Opd.tmp rfl)) ?_
          refine RegL.nil ?_
          refine Ct.then_tr ?_
          refine Tr.weak (Γ' := [(31, (pEq (.bool (!x2))))]) ⟨rfl, trivial⟩ ?_
          refine Tr.cond (Opd.tmp rfl) (fun hc => ?_) (fun hc => ?_)
          · replace h := bif_t hc h
            refine Tr.seq ?_
            refine Tr.region ?_
            refine RegL.pure (p := (pEq (.bool false))) rfl rfl rfl (J_assign rfl Opd.con) ?_
            refine RegL.nil ?_
            refine Ct.then_tr ?_
            refine Tr.weak (Γ' := [(4, (pEq (.bool false)))]) ⟨rfl, trivial⟩ ?_
            refine Tr.ret ?_
            refine Ct.then_ret ?_
            replace h := Option.some.inj h; subst h
            exact Ct.ret1 rfl rfl
          · replace h := bif_f hc h
            refine Tr.skip ?_
            refine Ct.then_tr ?_
            refine Tr.weak (Γ' := []) trivial ?_
            refine Tr.seq ?_
            refine Tr.region ?_
            refine RegL.pure (p := (pEq (.bool true))) rfl rfl rfl (J_assign rfl Opd.con) ?_
            refine RegL.nil ?_
            refine Ct.then_tr ?_
            refine Tr.weak (Γ' := [(4, (pEq (.bool true)))]) ⟨rfl, trivial⟩ ?_
            refine Tr.ret ?_
            replace h := Option.some.inj h; subst h
            exact Ct.ret1 rfl rfl

theorem c_laws_FnExactServerAt {aR_0 : GRaster} {aP_1 : GPoint} {r : Bool} (h : m_laws_FnExactServerAt aR_0 aP_1 = some r) : CallJ Try.prog 11 [(pAgg (cGRaster aR_0)), (pAgg (cGPoint aP_1))] (pEq (.bool r)) := by
  unfold m_laws_FnExactServerAt at h
  refine CallJ.enter Try.func11 rfl Try.ntmps11 rfl fun W I0 => ?_
  refine Tr.weak (Γ' := [(0, (pAgg (cGRaster aR_0))), (1, (pAgg (cGPoint aP_1)))]) ⟨rfl, rfl, trivial⟩ ?_
  refine Tr.seq ?_
  refine Tr.region ?_
  refine RegL.pure (p := (pPtr (cGRaster aR_0))) rfl rfl rfl (J_boxA rfl (Opd.tmp rfl)) ?_
  refine RegL.pure (p := (pPtr (cGPoint aP_1))) rfl rfl rfl (J_boxA rfl (Opd.tmp rfl)) ?_
  refine RegL.pure (p := (pEq (.bool false))) rfl rfl rfl (J_assign rfl Opd.con) ?_
  refine RegL.nil ?_
  refine Ct.then_tr ?_
  refine Tr.weak (Γ' := [(2, (pPtr (cGRaster aR_0))), (3, (pPtr (cGPoint aP_1)))]) ⟨rfl, rfl, trivial⟩ ?_
  refine Tr.seq ?_
  refine Tr.region ?_
  refine RegL.pure (p := (pEq (.int .i64 (1048576 : Int)))) rfl rfl rfl (J_assign rfl Opd.con) ?_
  refine RegL.nil ?_
  refine Ct.then_tr ?_
  refine Tr.weak (Γ' := [(2, (pPtr (cGRaster aR_0))), (3, (pPtr (cGPoint aP_1))), (5, (pEq (.int .i64 (1048576 : Int))))]) ⟨rfl, rfl, rfl, trivial⟩ ?_
  refine Tr.seq ?_
  refine Tr.region ?_
  refine RegL.pure (p := (pAgg (cGRaster aR_0))) rfl rfl rfl (J_loadA rfl Try.isAgg53 sz53 (Opd.tmp rfl) rfl) ?_
  refine RegL.pure (p := (pEq (.int .i64 (1048576 : Int)))) rfl rfl rfl (J_move rfl (Opd.tmp rfl)) ?_
  replace h := bind_some h; obtain ⟨x1, hx1, h⟩ := h
  refine RegL.pure (p := (pEq (.int .i64 x1))) rfl rfl rfl (J_call rfl Try.call37 (c_laws_szRaster hx1) (Opds.cons (Opd.tmp rfl) (Opds.cons (Opd.tmp rfl) Opds.nil))) ?_
  refine RegL.pure (p := (pEq (.int .i64 x1))) rfl rfl rfl (J_assign rfl (Opd.tmp rfl)) ?_
  refine RegL.nil ?_
  refine Ct.then_tr ?_
  refine Tr.weak (Γ' := [(2, (pPtr (cGRaster aR_0))), (3, (pPtr (cGPoint aP_1))), (5, (pEq (.int .i64 x1)))]) ⟨rfl, rfl, rfl, trivial⟩ ?_
  refine Tr.seq ?_
  refine Tr.seq ?_
  refine Tr.region ?_
  refine RegL.pure (p := (pEq (.int .i64 x1))) rfl rfl rfl (J_move rfl (Opd.tmp rfl)) ?_
  refine RegL.pure (p := (pEq (.bool (decide (x1 < (0 : Int)))))) rfl rfl rfl (J_bin rfl (Opd.tmp rfl) Opd.con B_lss) ?_
  refine RegL.nil ?_
  refine Ct.then_tr ?_
  refine Tr.weak (Γ' := [(2, (pPtr (cGRaster aR_0))), (3, (pPtr (cGPoint aP_1))), (17, (pEq (.bool (decide (x1 < (0 : Int))))))]) ⟨rfl, rfl, rfl, trivial⟩ ?_
  refine Tr.cond (Opd.tmp rfl) (fun hc => ?_) (fun hc => ?_)
  · replace h := bif_t hc h
    refine Tr.seq ?_
    refine Tr.region ?_
    refine RegL.pure (p := (pEq (.bool true))) rfl rfl rfl (J_assign rfl Opd.con) ?_
    refine RegL.nil ?_
    refine Ct.then_tr ?_
    refine Tr.weak (Γ' := [(4, (pEq (.bool true)))]) ⟨rfl, trivial⟩ ?_
    refine Tr.ret ?_
    refine Ct.then_ret ?_
    replace h := Option.some.inj h; subst h
    exact Ct.ret1 rfl rfl
  · replace h := bif_f hc h
    refine Tr.skip ?_
    refine Ct.then_tr ?_
    refine Tr.weak (Γ' := [(2, (pPtr (cGRaster aR_0))), (3, (pPtr (cGPoint aP_1)))]) ⟨rfl, rfl, trivial⟩ ?_
    refine Tr.seq ?_
    replace h := bind_some h; obtain ⟨x2, hx2, h⟩ := h
    replace h := bind_some h; obtain ⟨x3, hx3, h⟩ := h
    replace h := bind_some h; obtain ⟨x4, hx4, h⟩ := h
    refine Tr.draw (n := 55) (es := [Ent.mk [(2, (pPtr (cGRaster aR_0)))] (pAgg (cGRaster aR_0)) true, Ent.mk [(19, (pAgg (cGRaster aR_0)))] (pAgg (cGRaster x2)) true, Ent.mk [(3, (pPtr (cGPoint aP_1)))] (pAgg (cGPoint aP_1)) true, Ent.mk [(21, (pAgg (cGPoint aP_1)))] (pAgg (cGPoint x3)) true, Ent.mk [(20, (pAgg (cGRaster x2))), (22, (pAgg (cGPoint x3)))] (pTup [(pEq (.int .i64 x4.1)), (pEq (.int .i64 x4.2.1)), (pEq (.int .i64 x4.2.2))]) true, Ent.mk [(23, (pTup [(pEq (.int .i64 x4.1)), (pEq (.int .i64 x4.2.1)), (pEq (.int .i64 x4.2.2))]))] (pTup [(pEq (.int .i64 x4.1)), (pEq (.int .i64 x4.2.1)), (pEq (.int .i64 x4.2.2))]) true, Ent.mk [(18, (pTup [(pEq (.int .i64 x4.1)), (pEq (.int .i64 x4.2.1)), (pEq (.int .i64 x4.2.2))]))] (pEq (.int .i64 x4.1)) true, Ent.mk [(18, (pTup [(pEq (.int .i64 x4.1)), (pEq (.int .i64 x4.2.1)), (pEq (.int .i64 x4.2.2))]))] (pEq (.int .i64 x4.2.1)) true, Ent.mk [(18, (pTup [(pEq (.int .i64 x4.1)), (pEq (.int .i64 x4.2.1)), (pEq (.int .i64 x4.2.2))]))] (pEq (.int .i64 x4.2.2)) true, Ent.mk [(24, (pEq (.int .i64 x4.1)))] (pEq (.int .i64 x4.1)) true, Ent.mk [(25, (pEq (.int .i64 x4.2.1)))] (pEq (.int .i64 x4.2.1)) true, Ent.mk [(26, (pEq (.int .i64 x4.2.2)))] (pEq (.int .i64 x4.2.2)) true]) (rd := [[2], [19], [3], [21], [20, 22], [23], [18], [18], [18], [24], [25], [26]]) rfl hmix rfl (by kernel_rfl) ⟨⟨(OpJ.w (J_loadA rfl Try.isAgg53 sz53 (Opd.tmp rfl) rfl)), ⟨rfl, trivial⟩, rfl⟩, ⟨(OpJ.w (J_call rfl Try.call39 (c_laws_toRaster hx2) (Opds.cons (Opd.tmp rfl) Opds.nil))), ⟨rfl, trivial⟩, rfl⟩, ⟨(OpJ.w (J_loadA rfl Try.isAgg62 sz62 (Opd.tmp rfl) rfl)), ⟨rfl, trivial⟩, rfl⟩, ⟨(OpJ.w (J_call rfl Try.call45 (c_laws_toPoint hx3) (Opds.cons (Opd.tmp rfl) Opds.nil))), ⟨rfl, trivial⟩, rfl⟩, ⟨(OpJ.w (J_call rfl Try.call44 (c_spec_ServerAt hx4) (Opds.cons (Opd.tmp rfl) (Opds.cons (Opd.tmp rfl) Opds.nil)))), ⟨rfl, rfl, trivial⟩, rfl⟩, ⟨(OpJ.w (J_move rfl (Opd.tmp rfl))), ⟨rfl, trivial⟩, rfl⟩, ⟨(OpJ.w (J_extract rfl (Opd.tmp rfl) rfl)), ⟨rfl, trivial⟩, rfl⟩, ⟨(OpJ.w (J_extract rfl (Opd.tmp rfl) rfl)), ⟨rfl, trivial⟩, rfl⟩, ⟨(OpJ.w (J_extract rfl (Opd.tmp rfl) rfl)), ⟨rfl, trivial⟩, rfl⟩, ⟨(OpJ.w (J_assign rfl (Opd.tmp rfl))), ⟨rfl, trivial⟩, rfl⟩, ⟨(OpJ.w (J_assign rfl (Opd.tmp rfl))), ⟨rfl, trivial⟩, rfl⟩, ⟨(OpJ.w (J_assign rfl (Opd.tmp rfl))), ⟨rfl, trivial⟩, rfl⟩, trivial⟩ ?_
    refine Ct.then_tr ?_
    refine Tr.weak (Γ' := [(2, (pPtr (cGRaster aR_0))), (3, (pPtr (cGPoint aP_1))), (6, (pEq (.int .i64 x4.1))), (7, (pEq (.int .i64 x4.2.1))), (8, (pEq (.int .i64 x4.2.2)))]) ⟨rfl, rfl, rfl, rfl, rfl, trivial⟩ ?_
    refine Tr.seq ?_
    refine Tr.region ?_
    refine RegL.pure (p := (pAgg (cGRaster aR_0))) rfl rfl rfl (J_loadA rfl Try.isAgg53 sz53 (Opd.tmp rfl) rfl) ?_
    replace h := bind_some h; obtain ⟨x5, hx5, h⟩ := h
    refine RegL.pure (p := (pAgg (cGRaster x5))) rfl rfl rfl (J_call rfl Try.call39 (c_laws_toRaster hx5) (Opds.cons (Opd.tmp rfl) Opds.nil)) ?_
    refine RegL.step (γ := Nat) (p := fun b => pEq (.pointer (some ⟨b, 0, none⟩))) (Ω' := fun b => [oBlk b [(pEq (.int .i64 (0 : Int))), (pEq (.int .i64 (0 : Int))), (pEq (.int .i64 (0 : Int))), (pSl 1 (cK .i64) ([] : (List Int))), (pSl 1 (cK .i64) ([] : (List Int)))]]) rfl rfl rfl (M_alloc rfl zero56) fun b6 => ?_
    refine RegL.stepN (γ := Unit) (p := fun _ => pAny) (Ω' := fun _ => [oBlk b6 [(pEq (.int .i64 x5.Step)), (pEq (.int .i64 x5.Width)), (pEq (.int .i64 x5.Height)), (pSl 1 (cK .i64) x5.Server), (pSl 1 (cK .i64) x5.Level)]]) rfl rfl (M_storeA rfl sz56 (Opd.tmp rfl) (Opd.tmp rfl) (fun _ _ _ h => ones_of ((OneCs.cons OneC.int (OneCs.cons OneC.int (OneCs.cons OneC.int (OneCs.cons OneC.sl (OneCs.cons OneC.sl OneCs.nil)))))) h) rfl rfl) fun _ => ?_
    refine RegL.freeze (s := 9) rfl ?_
    refine RegL.nil ?_
    refine Ct.then_tr ?_
    refine Tr.weak (Γ' := [(2, (pPtr (cGRaster aR_0))), (3, (pPtr (cGPoint aP_1))), (6, (pEq (.int .i64 x4.1))), (7, (pEq (.int .i64 x4.2.1))), (8, (pEq (.int .i64 x4.2.2))), (9, (pPtr (cGRaster x5)))]) ⟨rfl, rfl, rfl, rfl, rfl, rfl, trivial⟩ ?_
    refine Tr.seq ?_
    replace h := bind_some h; obtain ⟨x7, hx7, h⟩ := h
    replace h := bind_some h; obtain ⟨x8, hx8, h⟩ := h
    refine Tr.draw (n := 55) (es := [Ent.mk [(9, (pPtr (cGRaster x5)))] (pAgg (cGRaster x5)) true, Ent.mk [(3, (pPtr (cGPoint aP_1)))] (pAgg (cGPoint aP_1)) true, Ent.mk [(31, (pAgg (cGPoint aP_1)))] (pAgg (cGPoint x7)) true, Ent.mk [(30, (pAgg (cGRaster x5))), (32, (pAgg (cGPoint x7)))] (pTup [(pEq (.int .i64 x8.1)), (pEq (.int .i64 x8.2.1)), (pEq (.int .i64 x8.2.2))]) true, Ent.mk [(33, (pTup [(pEq (.int .i64 x8.1)), (pEq (.int .i64 x8.2.1)), (pEq (.int .i64 x8.2.2))]))] (pTup [(pEq (.int .i64 x8.1)), (pEq (.int .i64 x8.2.1)), (pEq (.int .i64 x8.2.2))]) true, Ent.mk [(29, (pTup [(pEq (.int .i64 x8.1)), (pEq (.int .i64 x8.2.1)), (pEq (.int .i64 x8.2.2))]))] (pEq (.int .i64 x8.1)) true, Ent.mk [(29, (pTup [(pEq (.int .i64 x8.1)), (pEq (.int .i64 x8.2.1)), (pEq (.int .i64 x8.2.2))]))] (pEq (.int .i64 x8.2.1)) true, Ent.mk [(29, (pTup [(pEq (.int .i64 x8.1)), (pEq (.int .i64 x8.2.1)), (pEq (.int .i64 x8.2.2))]))] (pEq (.int .i64 x8.2.2)) true, Ent.mk [(34, (pEq (.int .i64 x8.1)))] (pEq (.int .i64 x8.1)) true, Ent.mk [(35, (pEq (.int .i64 x8.2.1)))] (pEq (.int .i64 x8.2.1)) true, Ent.mk [(36, (pEq (.int .i64 x8.2.2)))] (pEq (.int .i64 x8.2.2)) true]) (rd := [[9], [3], [31], [30, 32], [33], [29], [29], [29], [34], [35], [36]]) rfl hmix rfl (by kernel_rfl) ⟨⟨(OpJ.w (J_loadA rfl Try.isAgg56 sz56 (Opd.tmp rfl) rfl)), ⟨rfl, trivial⟩, rfl⟩, ⟨(OpJ.w (J_loadA rfl Try.isAgg62 sz62 (Opd.tmp rfl) rfl)), ⟨rfl, trivial⟩, rfl⟩, ⟨(OpJ.w (J_call rfl Try.call45 (c_laws_toPoint hx7) (Opds.cons (Opd.tmp rfl) Opds.nil))), ⟨rfl, trivial⟩, rfl⟩, ⟨(OpJ.w (J_call rfl Try.call46 (c_impl_ServerAt hx8) (Opds.cons (Opd.tmp rfl) (Opds.cons (Opd.tmp rfl) Opds.nil)))), ⟨rfl, rfl, trivial⟩, rfl⟩, ⟨(OpJ.w (J_move rfl (Opd.tmp rfl))), ⟨rfl, trivial⟩, rfl⟩, ⟨(OpJ.w (J_extract rfl (Opd.tmp rfl) rfl)), ⟨rfl, trivial⟩, rfl⟩, ⟨(OpJ.w (J_extract rfl (Opd.tmp rfl) rfl)), ⟨rfl, trivial⟩, rfl⟩, ⟨(OpJ.w (J_extract rfl (Opd.tmp rfl) rfl)), ⟨rfl, trivial⟩, rfl⟩, ⟨(OpJ.w (J_assign rfl (Opd.tmp rfl))), ⟨rfl, trivial⟩, rfl⟩, ⟨(OpJ.w (J_assign rfl (Opd.tmp rfl))), ⟨rfl, trivial⟩, rfl⟩, ⟨(OpJ.w (J_assign rfl (Opd.tmp rfl))), ⟨rfl, trivial⟩, rfl⟩, trivial⟩ ?_
    refine Ct.then_tr ?_
    refine Tr.weak (Γ' := [(2, (pPtr (cGRaster aR_0))), (6, (pEq (.int .i64 x4.1))), (7, (pEq (.int .i64 x4.2.1))), (8, (pEq (.int .i64 x4.2.2))), (9, (pPtr (cGRaster x5))), (10, (pEq (.int .i64 x8.1))), (11, (pEq (.int .i64 x8.2.1))), (12, (pEq (.int .i64 x8.2.2)))]) ⟨rfl, rfl, rfl, rfl, rfl, rfl, rfl, rfl, trivial⟩ ?_
    refine Tr.seq ?_
    refine Tr.seq ?_
    replace h := bind_some h; obtain ⟨x9, hx9, h⟩ := h
    refine Tr.cut (γ := Unit) (Γm := fun g => [(2, (pPtr (cGRaster aR_0))), (9, (pPtr (cGRaster x5))), (49, (pEq (.bool x9)))]) (Ωm := fun g => []) ?_ (fun g12 => ?_)
    · clear h
      have h := hx9
      clear hx9
      refine Tr.region ?_
      refine RegL.pure (p := (pEq (.int .i64 x8.1))) rfl rfl rfl (J_move rfl (Opd.tmp rfl)) ?_
      refine RegL.pure (p := (pEq (.int .i64 x4.1))) rfl rfl rfl (J_move rfl (Opd.tmp rfl)) ?_
      refine RegL.pure (p := (pEq (.bool (x8.1 != x4.1)))) rfl rfl rfl (J_bin rfl (Opd.tmp rfl) (Opd.tmp rfl) B_neq) ?_
      refine RegL.pure (p := (pEq (.bool (x8.1 != x4.1)))) rfl rfl rfl (J_move rfl (Opd.tmp rfl)) ?_
      rcases Bool.eq_false_or_eq_true (x8.1 != x4.1) with hc10 | hc10
      · replace h := bif_t hc10 h
        refine RegL.skipG rfl rfl rfl hc10 rfl rfl ?_
        refine RegL.skipG rfl rfl rfl hc10 rfl rfl ?_
        refine RegL.skipG rfl rfl rfl hc10 rfl rfl ?_
        refine RegL.pure (p := (pEq (.bool true))) rfl rfl rfl (J_pick rfl (Opd.tmp rfl) (fun _ => Opd.con) (fun hf => absurd (hc10.symm.trans hf) (by decide))) ?_
        refine RegL.pure (p := (pEq (.bool true))) rfl rfl rfl (J_move rfl (Opd.tmp rfl)) ?_
        refine RegL.skipG rfl rfl rfl rfl rfl rfl ?_
        refine RegL.skipG rfl rfl rfl rfl rfl rfl ?_
        refine RegL.skipG rfl rfl rfl rfl rfl rfl ?_
        refine RegL.pure (p := (pEq (.bool true))) rfl rfl rfl (J_pick rfl (Opd.tmp rfl) (fun _ => Opd.con) (fun hf => absurd hf (by decide))) ?_
        refine RegL.nil ?_
        replace h := Option.some.inj h; subst h
        exact Ct.mid () rfl ⟨rfl, rfl, rfl, trivial⟩
      · replace h := bif_f hc10 h
        refine RegL.pureG (p := (pEq (.int .i64 x8.2.1))) rfl rfl rfl hc10 rfl rfl (J_move rfl (Opd.tmp rfl)) ?_
        refine RegL.pureG (p := (pEq (.int .i64 x4.2.1))) rfl rfl rfl hc10 rfl rfl (J_move rfl (Opd.tmp rfl)) ?_
        refine RegL.pureG (p := (pEq (.bool (x8.2.1 != x4.2.1)))) rfl rfl rfl hc10 rfl rfl (J_bin rfl (Opd.tmp rfl) (Opd.tmp rfl) B_neq) ?_
        refine RegL.pure (p := (pEq (.bool (x8.2.1 != x4.2.1)))) rfl rfl rfl (J_pick rfl (Opd.tmp rfl) (fun hf => absurd (hc10.symm.trans hf) (by decide)) (fun _ => (Opd.tmp rfl))) ?_
        refine RegL.pure (p := (pEq (.bool (x8.2.1 != x4.2.1)))) rfl rfl rfl (J_move rfl (Opd.tmp rfl)) ?_
        rcases Bool.eq_false_or_eq_true (x8.2.1 != x4.2.1) with hc11 | hc11
        · replace h := bif_t hc11 h
          refine RegL.skipG rfl rfl rfl hc11 rfl rfl ?_
          refine RegL.skipG rfl rfl rfl hc11 rfl rfl ?_
          refine RegL.skipG rfl rfl rfl hc11 rfl rfl ?_
          refine RegL.pure (p := (pEq (.bool true))) rfl rfl rfl (J_pick rfl (Opd.tmp rfl) (fun _ => Opd.con) (fun hf => absurd (hc11.symm.trans hf) (by decide))) ?_
          refine RegL.nil ?_
          replace h := Option.some.inj h; subst h
          exact Ct.mid () rfl ⟨rfl, rfl, rfl, trivial⟩
        · replace h := bif_f hc11 h
          refine RegL.pureG (p := (pEq (.int .i64 x8.2.2))) rfl rfl rfl hc11 rfl rfl (J_move rfl (Opd.tmp rfl)) ?_
          refine RegL.pureG (p := (pEq (.int .i64 x4.2.2))) rfl rfl rfl hc11 rfl rfl (J_move rfl (Opd.tmp rfl)) ?_
          refine RegL.pureG (p := (pEq (.bool (x8.2.2 != x4.2.2)))) rfl rfl rfl hc11 rfl rfl (J_bin rfl (Opd.tmp rfl) (Opd.tmp rfl) B_neq) ?_
          refine RegL.pure (p := (pEq (.bool (x8.2.2 != x4.2.2)))) rfl rfl rfl (J_pick rfl (Opd.tmp rfl) (fun hf => absurd (hc11.symm.trans hf) (by decide)) (fun _ => (Opd.tmp rfl))) ?_
          refine RegL.nil ?_
          replace h := Option.some.inj h; subst h
          exact Ct.mid () rfl ⟨rfl, rfl, rfl, trivial⟩
    · clear hx9
      refine Ct.then_tr ?_
      refine Tr.weak (Γ' := [(2, (pPtr (cGRaster aR_0))), (9, (pPtr (cGRaster x5))), (49, (pEq (.bool x9)))]) ⟨rfl, rfl, rfl, trivial⟩ ?_
      refine Tr.cond (Opd.tmp rfl) (fun hc => ?_) (fun hc => ?_)
      · replace h := bif_t hc h
        refine Tr.seq ?_
        refine Tr.region ?_
        refine RegL.pure (p := (pEq (.bool false))) rfl rfl rfl (J_assign rfl Opd.con) ?_
        refine RegL.nil ?_
        refine Ct.then_tr ?_
        refine Tr.weak (Γ' := [(4, (pEq (.bool false)))]) ⟨rfl, trivial⟩ ?_
        refine Tr.ret ?_
        refine Ct.then_ret ?_
        replace h := Option.some.inj h; subst h
        exact Ct.ret1 rfl rfl
      · replace h := bif_f hc h
        refine Tr.skip ?_
        refine Ct.then_tr ?_
        refine Tr.weak (Γ' := [(2, (pPtr (cGRaster aR_0))), (9, (pPtr (cGRaster x5)))]) ⟨rfl, rfl, trivial⟩ ?_
        refine Tr.seq ?_
        refine Tr.seq ?_
        replace h := bind_some h; obtain ⟨x13, hx13, h⟩ := h
        replace h := bind_some h; obtain ⟨x14, hx14, h⟩ := h
        refine Tr.draw (n := 55) (es := [Ent.mk [(9, (pPtr (cGRaster x5)))] (pAgg (cGRaster x5)) true, Ent.mk [(2, (pPtr (cGRaster aR_0)))] (pAgg (cGRaster aR_0)) true, Ent.mk [(51, (pAgg (cGRaster aR_0)))] (pAgg (cGRaster x13)) true, Ent.mk [(50, (pAgg (cGRaster x5))), (52, (pAgg (cGRaster x13)))] (pEq (.bool x14)) true, Ent.mk [(53, (pEq (.bool x14)))] (pEq (.bool (!x14))) true]) (rd := [[9], [2], [51], [50, 52], [53]]) rfl hmix rfl (by kernel_rfl) ⟨⟨(OpJ.w (J_loadA rfl Try.isAgg56 sz56 (Opd.tmp rfl) rfl)), ⟨rfl, trivial⟩, rfl⟩, ⟨(OpJ.w (J_loadA rfl Try.isAgg53 sz53 (Opd.tmp rfl) rfl)), ⟨rfl, trivial⟩, rfl⟩, ⟨(OpJ.w (J_call rfl Try.call39 (c_laws_toRaster hx13) (Opds.cons (Opd.tmp rfl) Opds.nil))), ⟨rfl, trivial⟩, rfl⟩, ⟨(OpJ.w (J_call rfl Try.call41 (c_laws_eqRaster hx14) (Opds.cons (Opd.tmp rfl) (Opds.cons (Opd.tmp rfl) Opds.nil)))), ⟨rfl, rfl, trivial⟩, rfl⟩, ⟨(OpJ.w (J_not rfl (Opd.tmp rfl))), ⟨rfl, trivial⟩, rfl⟩, trivial⟩ ?_
        refine Ct.then_tr ?_
        refine Tr.weak (Γ' := [(54, (pEq (.bool (!x14))))]) ⟨rfl, trivial⟩ ?_
        refine Tr.cond (Opd.tmp rfl) (fun hc => ?_) (fun hc => ?_)
        · replace h := bif_t hc h
          refine Tr.seq ?_
          refine Tr.region ?_
          refine RegL.pure (p := (pEq (.bool false))) rfl rfl rfl (J_assign rfl Opd.con) ?_
          refine RegL.nil ?_
          refine Ct.then_tr ?_
          refine Tr.weak (Γ' := [(4, (pEq (.bool false)))]) ⟨rfl, trivial⟩ ?_
          refine Tr.ret ?_
          refine Ct.then_ret ?_
          replace h := Option.some.inj h; subst h
          exact Ct.ret1 rfl rfl
        · replace h := bif_f hc h
          refine Tr.skip ?_
          refine Ct.then_tr ?_
          refine Tr.weak (Γ' := []) trivial ?_
          refine Tr.seq ?_
          refine Tr.region ?_
          refine RegL.pure (p := (pEq (.bool true))) rfl rfl rfl (J_assign rfl Opd.con) ?_
          refine RegL.nil ?_
          refine Ct.then_tr ?_
          refine Tr.weak (Γ' := [(4, (pEq (.bool true)))]) ⟨rfl, trivial⟩ ?_
          refine Tr.ret ?_
          replace h := Option.some.inj h; subst h
          exact Ct.ret1 rfl rfl
end Go.Proofs.Ytdilkjbhbglpbaa.fnExactServerAtW
