/-
  Plain law: SameNetwork. No program in sight. Our own work.
-/
import Derived.Test.YtipkpdobbeggnaaLawSame
import Derived.Test.YtipkpdobbeggnaaLawSz
import Derived.Test.YtipkpdobbeggnaaPlainG
namespace Go.Wk
open Go Go.RowKit

/-! ### sizes -/
def FitsA (x : GAntenna) : Prop := x.Horizontal.length ≤ 1048576 ∧ x.Vertical.length ≤ 1048576
def FitsR (x : GRadio) : Prop := x.Modes.length ≤ 1048576
def FitsN (n : GNetwork) : Prop := n.Sites.length ≤ 1048576 ∧ n.Sectors.length ≤ 1048576 ∧ (n.Antennas.length ≤ 1048576 ∧ ∀ x ∈ n.Antennas, FitsA x) ∧ (n.Radios.length ≤ 1048576 ∧ ∀ x ∈ n.Radios, FitsR x)
theorem mx {n : Nat} (h : n ≤ maxLen) : n ≤ 9223372036854775807 := h
/-- One more number is taken off. -/
theorem off_step {left v : Int} {n : Nat} {P : Prop} {rest : Option Int} (h0 : 0 ≤ v) (h1 : v ≤ left) (h2 : left ≤ 1048576) (hn : n ≤ maxLen) (h : 0 ≤ v - n → LeftQ rest left P) : LeftQ (bif (decide ((w64 (v - (n : Int))) < (0 : Int))) then some (-1 : Int) else rest) left P := by
  have hm := mx hn
  have e : w64 (v - (n : Int)) = v - n := w64_id (by omega) (by omega)
  rw [e]
  by_cases c : v - (n : Int) < 0
  · rw [decide_eq_true c]; exact ⟨-1, rfl, .inl (by omega)⟩
  · rw [decide_eq_false c]; exact h (by omega)
theorem off_end {left v : Int} {n : Nat} {P : Prop} (h0 : 0 ≤ v - n) (h1 : v ≤ left) (h2 : left ≤ 1048576) (hP : P) : LeftQ (some (w64 (v - (n : Int)))) left P :=
  ⟨v - n, by rw [w64_id (by omega) (by omega)], .inr ⟨h0, by omega, hP⟩⟩
theorem off_w {v : Int} {n : Nat} (h : 0 ≤ v - n) (h1 : v ≤ 1048576) : w64 (v - (n : Int)) = v - n := w64_id (by omega) (by omega)
theorem off_bind {o : Option Int} {left v : Int} {P Q : Prop} {k : Int → Option Int} (h1 : v ≤ left) (ho : LeftQ o v Q) (hk : ∀ r, 0 ≤ r → r ≤ v → Q → LeftQ (k r) left P) : LeftQ (o.bind fun r => bif (decide (r < (0 : Int))) then some (-1 : Int) else k r) left P := by
  obtain ⟨r, rfl, hr⟩ := ho
  rw [Option.bind_some]
  rcases hr with hr | ⟨hr, hr2, hq⟩
  · rw [decide_eq_true hr]; exact ⟨-1, rfl, .inl (by omega)⟩
  · rw [decide_eq_false (by omega)]; exact hk r hr hr2 hq
theorem off_some {left v : Int} {P : Prop} (h0 : 0 ≤ v) (h1 : v ≤ left) (hP : P) : LeftQ (some v) left P := ⟨v, rfl, .inr ⟨h0, h1, hP⟩⟩
theorem szInts (l : List Int) (v : Int) (h0 : 0 ≤ v) (h1 : v ≤ 1048576) (hl : l.length ≤ maxLen) : LeftQ (m_laws_szInt64S l v) v (l.length ≤ 1048576) := by
  obtain ⟨r, hr, h⟩ := szInt64S_eq l v h0 h1 hl
  exact ⟨r, hr, h.imp id (fun h => ⟨h.1, by omega, by omega⟩)⟩

theorem szSites (l : List GSite) (left : Int) (h0 : 0 ≤ left) (h1 : left ≤ 1048576) (hl : l.length ≤ maxLen) (hx : ∀ x ∈ l, okGSite x) : LeftQ (m_laws_szSiteS l left) left (l.length ≤ 1048576 ∧ ∀ x ∈ l, True) := by
  unfold m_laws_szSiteS
  refine sz_gen m_laws_szSite l left (fun _ => True) h0 h1 hl (fun x hxl v hv0 hv1 => ?_)
  have k := hx x hxl
  unfold m_laws_szSite
  refine off_step hv0 (Int.le_refl _) (by omega) k.1 fun e1 => ?_
  rw [off_w e1 (by omega)]
  refine off_step e1 (by omega) (by omega) k.2.1 fun e2 => ?_
  exact off_end e2 (by omega) (by omega) trivial
theorem szSectors (l : List GSector) (left : Int) (h0 : 0 ≤ left) (h1 : left ≤ 1048576) (hl : l.length ≤ maxLen) (hx : ∀ x ∈ l, okGSector x) : LeftQ (m_laws_szSectorS l left) left (l.length ≤ 1048576 ∧ ∀ x ∈ l, True) := by
  unfold m_laws_szSectorS
  refine sz_gen m_laws_szSector l left (fun _ => True) h0 h1 hl (fun x hxl v hv0 hv1 => ?_)
  have k := hx x hxl
  unfold m_laws_szSector
  refine off_step hv0 (Int.le_refl _) (by omega) k.1 fun e1 => ?_
  rw [off_w e1 (by omega)]
  refine off_step e1 (by omega) (by omega) k.2.1 fun e2 => ?_
  rw [off_w e2 (by omega)]
  refine off_step e2 (by omega) (by omega) k.2.2.1 fun e3 => ?_
  rw [off_w e3 (by omega)]
  refine off_step e3 (by omega) (by omega) k.2.2.2.1 fun e4 => ?_
  rw [off_w e4 (by omega)]
  refine off_step e4 (by omega) (by omega) k.2.2.2.2.1 fun e5 => ?_
  exact off_end e5 (by omega) (by omega) trivial
theorem szAntennas (l : List GAntenna) (left : Int) (h0 : 0 ≤ left) (h1 : left ≤ 1048576) (hl : l.length ≤ maxLen) (hx : ∀ x ∈ l, okGAntenna x) : LeftQ (m_laws_szAntennaS l left) left (l.length ≤ 1048576 ∧ ∀ x ∈ l, FitsA x) := by
  unfold m_laws_szAntennaS
  refine sz_gen m_laws_szAntenna l left FitsA h0 h1 hl (fun x hxl v hv0 hv1 => ?_)
  have k := hx x hxl
  unfold m_laws_szAntenna
  refine off_step hv0 (Int.le_refl _) (by omega) k.1 fun e1 => ?_
  rw [off_w e1 (by omega)]
  refine off_bind (by omega) (szInts _ _ e1 (by omega) k.2.2.1.1) fun r r0 r1 hH => ?_
  refine off_bind (by omega) (szInts _ _ r0 (by omega) k.2.2.2.1) fun r2 r20 r21 hV => ?_
  exact off_some r20 (by omega) ⟨hH, hV⟩
theorem szRadios (l : List GRadio) (left : Int) (h0 : 0 ≤ left) (h1 : left ≤ 1048576) (hl : l.length ≤ maxLen) (hx : ∀ x ∈ l, okGRadio x) : LeftQ (m_laws_szRadioS l left) left (l.length ≤ 1048576 ∧ ∀ x ∈ l, FitsR x) := by
  unfold m_laws_szRadioS
  refine sz_gen m_laws_szRadio l left FitsR h0 h1 hl (fun x hxl v hv0 hv1 => ?_)
  have k := hx x hxl
  unfold m_laws_szRadio
  refine off_step hv0 (Int.le_refl _) (by omega) k.1 fun e1 => ?_
  rw [off_w e1 (by omega)]
  refine off_bind (v := v - (x.Name.size : Int)) (Q := x.Modes.length ≤ 1048576) (by omega) ?_ fun r r0 r1 hM => ?_
  · unfold m_laws_szModeS
    exact off_step e1 (Int.le_refl _) (by omega) k.2.2.2.2.2.1 fun e2 => off_end e2 (by omega) (by omega) (by omega)
  · exact off_some r0 (by omega) hM
theorem szNet (n : GNetwork) (k : okGNetwork n) (left : Int) (h0 : 0 ≤ left) (h1 : left ≤ 1048576) : LeftQ (m_laws_szNetwork n left) left (FitsN n) := by
  unfold m_laws_szNetwork
  refine off_bind (Int.le_refl _) (szSites _ _ h0 h1 k.1.1 k.1.2) fun r1 a1 b1 q1 => ?_
  refine off_bind (by omega) (szSectors _ _ a1 (by omega) k.2.1.1 k.2.1.2) fun r2 a2 b2 q2 => ?_
  refine off_bind (by omega) (szAntennas _ _ a2 (by omega) k.2.2.1.1 k.2.2.1.2) fun r3 a3 b3 q3 => ?_
  refine off_bind (by omega) (szRadios _ _ a3 (by omega) k.2.2.2.1 k.2.2.2.2) fun r4 a4 b4 q4 => ?_
  exact off_some a4 (by omega) ⟨q1.1, q2.1, q3, q4⟩

/-! ### copies -/
theorem toNet (n : GNetwork) (h : FitsN n) : m_laws_toNetwork n = some n := by
  obtain ⟨h1, h2, ⟨h3, h3'⟩, h4, h4'⟩ := h
  have e1 : m_laws_toSiteS n.Sites = some n.Sites := by
    unfold m_laws_toSiteS
    exact to_list m_laws_toSite n.Sites _ 48 (by omega) (by omega) (fun x _ => rfl)
  have e2 : m_laws_toSectorS n.Sectors = some n.Sectors := by
    unfold m_laws_toSectorS
    exact to_list m_laws_toSector n.Sectors _ 112 (by omega) (by omega) (fun x _ => rfl)
  have e3 : m_laws_toAntennaS n.Antennas = some n.Antennas := by
    unfold m_laws_toAntennaS
    refine to_list m_laws_toAntenna n.Antennas _ 72 (by omega) (by omega) (fun x hx => ?_)
    unfold m_laws_toAntenna
    rw [toInt64S_eq _ (h3' x hx).1, Option.bind_some, toInt64S_eq _ (h3' x hx).2]; rfl
  have e4 : m_laws_toRadioS n.Radios = some n.Radios := by
    unfold m_laws_toRadioS
    refine to_list m_laws_toRadio n.Radios _ 72 (by omega) (by omega) (fun x hx => ?_)
    have hm : x.Modes.length ≤ 1048576 := h4' x hx
    have em : m_laws_toModeS x.Modes = some x.Modes := by
      unfold m_laws_toModeS
      exact to_list m_laws_toMode x.Modes _ 16 (by omega) (by omega) (fun x _ => rfl)
    unfold m_laws_toRadio
    rw [em]; rfl
  unfold m_laws_toNetwork
  rw [e1, Option.bind_some, e2, Option.bind_some, e3, Option.bind_some, e4]; rfl

/-! ### a network equals itself -/
theorem eqNet_self (n : GNetwork) (h : FitsN n) : m_laws_eqNetwork n n = some true := by
  obtain ⟨h1, h2, ⟨h3, h3'⟩, h4, h4'⟩ := h
  have e1 : m_laws_eqSiteS n.Sites n.Sites = some true := by
    unfold m_laws_eqSiteS
    refine (pair_eq m_laws_eqSite (fun x y => (m_laws_eqSite x y).getD false) n.Sites n.Sites (by omega) (fun x _ y _ => ?_)).trans ?_
    · unfold m_laws_eqSite m_laws_eqPoint
      cases (x.Name.toList == y.Name.toList) <;> cases (x.Holder.toList == y.Holder.toList) <;> cases (x.Place.X != y.Place.X) <;> cases (x.Place.Y != y.Place.Y) <;> rfl
    · rw [pairOk_self fun x _ => by unfold m_laws_eqSite m_laws_eqPoint; simp only [beq_self_eq_true, bne_self]; rfl]
  have e2 : m_laws_eqSectorS n.Sectors n.Sectors = some true := by
    unfold m_laws_eqSectorS
    refine (pair_eq m_laws_eqSector (fun x y => (m_laws_eqSector x y).getD false) n.Sectors n.Sectors (by omega) (fun x _ y _ => ?_)).trans ?_
    · unfold m_laws_eqSector
      cases (x.Name.toList == y.Name.toList)
      · rfl
      cases (x.Site.toList == y.Site.toList)
      · rfl
      cases (x.Antenna.toList == y.Antenna.toList)
      · rfl
      cases (x.Radio.toList == y.Radio.toList)
      · rfl
      cases (x.Band.toList == y.Band.toList)
      · rfl
      cases (x.Azimuth != y.Azimuth) <;> cases (x.Tilt != y.Tilt) <;> cases (x.Above != y.Above) <;> cases (x.Channel != y.Channel) <;> rfl
    · rw [pairOk_self fun x _ => by unfold m_laws_eqSector; simp only [beq_self_eq_true, bne_self]; rfl]
  have e3 : m_laws_eqAntennaS n.Antennas n.Antennas = some true := by
    unfold m_laws_eqAntennaS
    have key : ∀ x ∈ n.Antennas, ∀ y ∈ n.Antennas, m_laws_eqAntenna x y = some ((x.Name.toList == y.Name.toList) && ((x.Gain == y.Gain) && (decide (x.Horizontal = y.Horizontal) && decide (x.Vertical = y.Vertical)))) := fun x hx y _ => by
      have hA := h3' x hx
      have hH := hA.1
      have hV := hA.2
      unfold m_laws_eqAntenna
      rw [eqInt64S_eq _ _ (by omega), eqInt64S_eq _ _ (by omega)]
      simp only [bne]
      cases (x.Name.toList == y.Name.toList) <;> cases (x.Gain == y.Gain) <;> cases decide (x.Horizontal = y.Horizontal) <;> cases decide (x.Vertical = y.Vertical) <;> rfl
    refine (pair_eq m_laws_eqAntenna _ n.Antennas n.Antennas (by omega) key).trans ?_
    rw [pairOk_self fun x _ => by simp]
  have e4 : m_laws_eqRadioS n.Radios n.Radios = some true := by
    unfold m_laws_eqRadioS
    have md : ∀ x ∈ n.Radios, ∀ y : GRadio, m_laws_eqModeS x.Modes y.Modes = some (pairOk (fun a b => (a.Need == b.Need) && (a.Rate == b.Rate)) x.Modes y.Modes) := fun x hx y => by
      have hM : x.Modes.length ≤ 1048576 := h4' x hx
      unfold m_laws_eqModeS
      refine pair_eq m_laws_eqMode _ x.Modes y.Modes (by omega) (fun a _ b _ => ?_)
      unfold m_laws_eqMode
      simp only [bne]
      cases (a.Need == b.Need) <;> cases (a.Rate == b.Rate) <;> rfl
    have key : ∀ x ∈ n.Radios, ∀ y ∈ n.Radios, m_laws_eqRadio x y = some ((x.Name.toList == y.Name.toList) && ((x.Power == y.Power) && ((x.Feeder == y.Feeder) && ((x.Noise == y.Noise) && ((x.Width == y.Width) && pairOk (fun a b => (a.Need == b.Need) && (a.Rate == b.Rate)) x.Modes y.Modes))))) := fun x hx y _ => by
      unfold m_laws_eqRadio
      rw [md x hx y]
      simp only [bne]
      cases (x.Name.toList == y.Name.toList) <;> cases (x.Power == y.Power) <;> cases (x.Feeder == y.Feeder) <;> cases (x.Noise == y.Noise) <;> cases (x.Width == y.Width) <;> cases pairOk (fun a b : GMode => (a.Need == b.Need) && (a.Rate == b.Rate)) x.Modes y.Modes <;> rfl
    refine (pair_eq m_laws_eqRadio _ n.Radios n.Radios (by omega) key).trans ?_
    rw [pairOk_self fun x _ => by
      rw [pairOk_self fun a _ => by simp]
      simp]
  unfold m_laws_eqNetwork
  rw [e1, Option.bind_some, e2, e3, e4]; rfl

/-! ### both tests -/
def siteQ (x y : GSite) : Bool := (x.Name.toList == y.Name.toList) && ((x.Holder.toList == y.Holder.toList) && (((x.Place.X == y.Place.X) && ((x.Place.Y == y.Place.Y) && true)) && true))
def sectorQ (x y : GSector) : Bool := (x.Name.toList == y.Name.toList) && ((x.Site.toList == y.Site.toList) && ((x.Antenna.toList == y.Antenna.toList) && ((x.Radio.toList == y.Radio.toList) && ((x.Band.toList == y.Band.toList) && ((x.Azimuth == y.Azimuth) && ((x.Tilt == y.Tilt) && ((x.Above == y.Above) && ((x.Channel == y.Channel) && true))))))))
def modeQ (x y : GMode) : Bool := (x.Need == y.Need) && ((x.Rate == y.Rate) && true)
def antQ (x y : GAntenna) : Bool := (x.Name.toList == y.Name.toList) && ((x.Gain == y.Gain) && (decide (x.Horizontal = y.Horizontal) && decide (x.Vertical = y.Vertical)))
def radQ (x y : GRadio) : Bool := (x.Name.toList == y.Name.toList) && ((x.Power == y.Power) && ((x.Feeder == y.Feeder) && ((x.Noise == y.Noise) && ((x.Width == y.Width) && pairOk modeQ x.Modes y.Modes))))
theorem antS (x y : GAntenna) (h : FitsA x) : m_spec_SameAntenna x y = some (antQ x y) := by
  have hH := h.1
  have hV := h.2
  unfold m_spec_SameAntenna antQ
  rw [sameN _ _ (by omega), sameN _ _ (by omega)]
  cases (x.Name.toList == y.Name.toList) <;> cases (x.Gain == y.Gain) <;> cases decide (x.Horizontal = y.Horizontal) <;> cases decide (x.Vertical = y.Vertical) <;> rfl
theorem antI (x y : GAntenna) (h : FitsA x) : m_impl_SameAntenna x y = some (antQ x y) := by
  have hH := h.1
  have hV := h.2
  unfold m_impl_SameAntenna antQ
  rw [equalN _ _ (by omega), equalN _ _ (by omega)]
  cases (x.Name.toList == y.Name.toList) <;> cases (x.Gain == y.Gain) <;> cases decide (x.Horizontal = y.Horizontal) <;> cases decide (x.Vertical = y.Vertical) <;> rfl
theorem radS (x y : GRadio) (h : FitsR x) : m_spec_SameRadio x y = some (radQ x y) := by
  have hM : x.Modes.length ≤ 1048576 := h
  unfold m_spec_SameRadio radQ
  simp only [bne]
  cases (x.Name.toList == y.Name.toList) with
  | false => rfl
  | true =>
  cases (x.Power == y.Power) with
  | false => rfl
  | true =>
  cases (x.Feeder == y.Feeder) with
  | false => rfl
  | true =>
  cases (x.Noise == y.Noise) with
  | false => rfl
  | true =>
  cases (x.Width == y.Width) with
  | false => rfl
  | true =>
    exact pair_eq (fun a b => some (modeQ a b)) modeQ x.Modes y.Modes (by omega) (fun _ _ _ _ => rfl)
theorem radI (x y : GRadio) (h : FitsR x) : m_impl_SameRadio x y = some (radQ x y) := by
  have hM : x.Modes.length ≤ 1048576 := h
  have em : m_slices_Equal_impl_Mode_impl_Mode x.Modes y.Modes = some (pairOk modeQ x.Modes y.Modes) := by
    unfold m_slices_Equal_impl_Mode_impl_Mode
    exact pair_eq (fun a b => some (modeQ a b)) modeQ x.Modes y.Modes (by omega) (fun _ _ _ _ => rfl)
  unfold m_impl_SameRadio radQ
  rw [em]
  cases (x.Name.toList == y.Name.toList) <;> cases (x.Power == y.Power) <;> cases (x.Feeder == y.Feeder) <;> cases (x.Noise == y.Noise) <;> cases (x.Width == y.Width) <;> rfl

theorem net_same (a b : GNetwork) (h : FitsN a) : ∃ c, m_spec_SameNetwork a b = some c ∧ m_impl_SameNetwork a b = some c := by
  obtain ⟨h1, h2, ⟨h3, h3'⟩, h4, h4'⟩ := h
  refine ⟨pairOk siteQ a.Sites b.Sites && (pairOk sectorQ a.Sectors b.Sectors && (pairOk antQ a.Antennas b.Antennas && pairOk radQ a.Radios b.Radios)), ?_, ?_⟩
  · unfold m_spec_SameNetwork
    by_cases c1 : a.Sites.length = b.Sites.length
    case neg =>
      have e : ((a.Sites.length : Int) != (b.Sites.length : Int)) = true := by simp only [bne_iff_ne, ne_eq]; omega
      rw [e]; unfold pairOk; rw [decide_eq_false c1]; rfl
    have e1 : ((a.Sites.length : Int) != (b.Sites.length : Int)) = false := by rw [c1]; exact bne_self _
    by_cases c2 : a.Sectors.length = b.Sectors.length
    case neg =>
      have e : ((a.Sectors.length : Int) != (b.Sectors.length : Int)) = true := by simp only [bne_iff_ne, ne_eq]; omega
      rw [e1, e]; unfold pairOk; rw [decide_eq_false c2]; simp
    have e2 : ((a.Sectors.length : Int) != (b.Sectors.length : Int)) = false := by rw [c2]; exact bne_self _
    by_cases c3 : a.Antennas.length = b.Antennas.length
    case neg =>
      have e : ((a.Antennas.length : Int) != (b.Antennas.length : Int)) = true := by simp only [bne_iff_ne, ne_eq]; omega
      rw [e1, e2, e]; unfold pairOk; rw [decide_eq_false c3]; simp
    have e3 : ((a.Antennas.length : Int) != (b.Antennas.length : Int)) = false := by rw [c3]; exact bne_self _
    by_cases c4 : a.Radios.length = b.Radios.length
    case neg =>
      have e : ((a.Radios.length : Int) != (b.Radios.length : Int)) = true := by simp only [bne_iff_ne, ne_eq]; omega
      rw [e1, e2, e3, e]; unfold pairOk; rw [decide_eq_false c4]; simp
    have e4 : ((a.Radios.length : Int) != (b.Radios.length : Int)) = false := by rw [c4]; exact bne_self _
    rw [e1, e2, e3, e4]
    have l4 : loopM (fun s : Int => m_spec_SameNetwork_B22 a b s) (0 : Int) = some (pairOk radQ a.Radios b.Radios && true) :=
      pair_chain m_spec_SameRadio radQ a.Radios b.Radios (some true) true c4 (by omega) (fun x hx y _ => radS x y (h4' x hx)) rfl
    rw [Bool.and_true] at l4
    have l3 : loopM (fun s : Int => m_spec_SameNetwork_B16 a b s) (0 : Int) = some (pairOk antQ a.Antennas b.Antennas && pairOk radQ a.Radios b.Radios) :=
      pair_chain m_spec_SameAntenna antQ a.Antennas b.Antennas _ _ c3 (by omega) (fun x hx y _ => antS x y (h3' x hx)) l4
    have l2 : loopM (fun s : Int => m_spec_SameNetwork_B11 a b s) (0 : Int) = some (pairOk sectorQ a.Sectors b.Sectors && (pairOk antQ a.Antennas b.Antennas && pairOk radQ a.Radios b.Radios)) :=
      pair_chain (fun x y => some (sectorQ x y)) sectorQ a.Sectors b.Sectors _ _ c2 (by omega) (fun _ _ _ _ => rfl) l3
    have l1 : loopM (fun s : Int => m_spec_SameNetwork_B6 a b s) (0 : Int) = some (pairOk siteQ a.Sites b.Sites && (pairOk sectorQ a.Sectors b.Sectors && (pairOk antQ a.Antennas b.Antennas && pairOk radQ a.Radios b.Radios))) :=
      pair_chain (fun x y => some (siteQ x y)) siteQ a.Sites b.Sites _ _ c1 (by omega) (fun _ _ _ _ => rfl) l2
    exact l1
  · have i1 : m_slices_Equal_impl_Site_impl_Site a.Sites b.Sites = some (pairOk siteQ a.Sites b.Sites) := by
      unfold m_slices_Equal_impl_Site_impl_Site
      exact pair_eq (fun x y => some (siteQ x y)) siteQ _ _ (by omega) (fun _ _ _ _ => rfl)
    have i2 : m_slices_Equal_impl_Sector_impl_Sector a.Sectors b.Sectors = some (pairOk sectorQ a.Sectors b.Sectors) := by
      unfold m_slices_Equal_impl_Sector_impl_Sector
      exact pair_eq (fun x y => some (sectorQ x y)) sectorQ _ _ (by omega) (fun _ _ _ _ => rfl)
    have i3 : m_slices_EqualFunc_impl_Antenna_impl_Antenna_impl_Antenna_impl_Antenna a.Antennas b.Antennas (fun x => m_impl_SameAntenna x.1 x.2) = some (pairOk antQ a.Antennas b.Antennas) := by
      unfold m_slices_EqualFunc_impl_Antenna_impl_Antenna_impl_Antenna_impl_Antenna
      exact pair_eq m_impl_SameAntenna antQ _ _ (by omega) (fun x hx y _ => antI x y (h3' x hx))
    have i4 : m_slices_EqualFunc_impl_Radio_impl_Radio_impl_Radio_impl_Radio a.Radios b.Radios (fun x => m_impl_SameRadio x.1 x.2) = some (pairOk radQ a.Radios b.Radios) := by
      unfold m_slices_EqualFunc_impl_Radio_impl_Radio_impl_Radio_impl_Radio
      exact pair_eq m_impl_SameRadio radQ _ _ (by omega) (fun x hx y _ => radI x y (h4' x hx))
    unfold m_impl_SameNetwork
    rw [i1, i2, i3, i4]
    cases pairOk siteQ a.Sites b.Sites <;> cases pairOk sectorQ a.Sectors b.Sectors <;> cases pairOk antQ a.Antennas b.Antennas <;> rfl

theorem law_FnExactSameNetwork (a b : GNetwork) (ka : okGNetwork a) (kb : okGNetwork b) : m_laws_FnExactSameNetwork a b = some true := by
  unfold m_laws_FnExactSameNetwork
  obtain ⟨r, hr, hc⟩ := szNet a ka 1048576 (by omega) (by omega)
  rw [hr, Option.bind_some]
  rcases hc with hc | ⟨hc, hc2, ha⟩
  · rw [decide_eq_true hc]; rfl
  rw [decide_eq_false (by omega), cond_false]
  obtain ⟨r2, hr2, hd⟩ := szNet b kb r hc (by omega)
  rw [hr2, Option.bind_some]
  rcases hd with hd | ⟨hd, hd2, hb⟩
  · rw [decide_eq_true hd]; rfl
  rw [decide_eq_false (by omega), cond_false]
  obtain ⟨c, e1, e2⟩ := net_same a b ha
  simp only [toNet a ha, toNet b hb, eqNet_self a ha, eqNet_self b hb, e1, e2, Option.bind_some, bne_self, cond_false, Bool.not_true]
end Go.Wk
