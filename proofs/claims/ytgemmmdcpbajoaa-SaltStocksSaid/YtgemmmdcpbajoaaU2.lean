import Derived.Deep.RegionHeld3
import Derived.Test.YtgemmmdcpbajoaaU1
namespace Go.Proofs.Ytgemmmdcpbajoaa
open Go.RowKit

/-! The specification: In, fits, IsPacking, sums over all barrels. -/
theorem ints_later {w W : World} {A : Option Addr} {l : List Int} (hI : IntsAt w w.heap.size A l) (hb : Below w.heap.size w W) : IntsAt W W.heap.size A l := hI.keep hb.size fun b o hlt => hb.cell (p := ⟨b, o, none⟩) hlt
def RowRet (l : List Int) (B : Nat) (w' : World) (e : Ending) : Prop := ∃ v, e = .returned v ∧ Ints w' B v l
theorem inTo_yes {pack : List Int} {b : Int} {k : Nat} (h : barrelOf pack k = b) : inTo pack b (k + 1) = inTo pack b k ++ [(k : Int)] := if_pos h
theorem inTo_no {pack : List Int} {b : Int} {k : Nat} (h : barrelOf pack k ≠ b) : inTo pack b (k + 1) = inTo pack b k := if_neg h
set_option maxRecDepth 100000 in
set_option maxHeartbeats 4000000 in
theorem in_any (pack : List Int) (hl : pack.length ≤ 1000) (b : Int) (A : Option Addr) (c : Nat) (w : World) (hI : IntsAt w w.heap.size A pack) :
    Calls Try.prog 63 #[.slice A pack.length c, .int .i64 b] w fun e w' => RowRet (inOf pack b) w.heap.size w' e ∧ Below w.heap.size w w' := by
  have HI := Lib.hid hI
  clear hI
  go_enter Try.func63, Try.ntmps63
  go_wp2
  go_loopw [5, 6] (fun v i wr => ∃ k : Nat, k ≤ pack.length ∧ i = .int .i64 k ∧ Ints wr w.heap.size v (inTo pack b k) ∧ Below w.heap.size w wr) (fun _ i _ => pack.length - (intOf i).toNat)
  case atStart => exact ⟨0, Nat.zero_le _, rfl, ints_nil _ _, Below.refl _ _⟩
  case round =>
    obtain ⟨k, hk, rfl, hown, hb⟩ := hrel
    have hsz := hb.size
    by_cases hlt : k < pack.length
    · obtain ⟨x, hx⟩ : ∃ x, pack[k]? = some x := ⟨_, List.getElem?_eq_getElem hlt⟩
      obtain ⟨b1, o1, rfl, b1lt, d1⟩ := HI.out.at_ hx
      have e1 := below_cell hb d1
      have hbo : barrelOf pack k = x := by simp [barrelOf, List.getD, hx]
      have hil := inTo_len pack b k
      by_cases hxb : x = b
      · have hd : (x == b) = true := by simpa using hxb
        have HY := Lib.hid (inTo_yes (hbo.trans hxb))
        clear hxb hbo hx d1
        go_wp2_with (refine wpl_app rfl (.tmp 19) (.tmp 21) rfl w.heap.size w.heap.size _ (inTo pack b k) k rfl (hown.alloc _) ⟨wr.heap.size, 0, none⟩ 1 rfl (by simp [go_sem]) (by omega) (by simp; omega) (Nat.le_refl _) ?_; intro v' w' hown' hb')
        go_roundw
        case rel => exact ⟨k + 1, by omega, by go_num, by rw [HY.out]; exact hown', hb.trans (((Below.refl _ _).alloc hsz _).trans hb')⟩
        case measure => simp [intOf]; omega
      · have hd : (x == b) = false := by simpa using hxb
        have HY := Lib.hid (inTo_no (pack := pack) (b := b) (k := k) (by rw [hbo]; exact hxb))
        clear hxb hbo hx d1
        go_wp2
        go_roundw
        case rel => exact ⟨k + 1, by omega, by go_num, by rw [HY.out]; exact hown, hb⟩
        case measure => simp [intOf]; omega
    · obtain rfl : k = pack.length := by omega
      go_wp2
      go_ret
      exact ⟨⟨_, rfl, hown⟩, hb⟩
theorem fitsR_no {h : House} {pack : List Int} {b : Nat} (hb : b < h.bs.length) (hn : ¬ needC h (inOf pack b) ≤ h.bs.getD b 0) : fitsR h pack = false := by
  rw [fitsR, List.all_eq_false]; exact ⟨b, List.mem_range.2 hb, by simpa using hn⟩
set_option maxRecDepth 100000 in
set_option maxHeartbeats 4000000 in
theorem rfits_any (L : HL) (h : House) (hv : HOK h) (pack : List Int) (hl : pack.length ≤ h.ps.length) (A : Option Addr) (c : Nat) (w : World) (hH : HouseAt w w.heap.size L h) (hI : IntsAt w w.heap.size A pack) :
    Calls Try.prog 91 #[L.enc h, .slice A pack.length c] w fun e w' => e = .returned (.bool (fitsR h pack)) ∧ Below w.heap.size w w' := by
  have HH := Lib.hid hH
  have HI := Lib.hid hI
  have HV := Lib.hid hv
  have hpl6 := hv.pl
  have hbl4 := hv.bl
  have hf0 := hv.f0
  have hf1 := hv.f1
  clear hH hI hv
  obtain ⟨Ak, ck, Ap, cp, Ab, cb⟩ := L
  go_enter Try.func91, Try.ntmps91
  go_wp2
  go_loopw [5] (fun i wr => ∃ k : Nat, k ≤ h.bs.length ∧ i = .int .i64 k ∧ Hid (∀ b, b < k → needC h (inOf pack b) ≤ h.bs.getD b 0) ∧ Below w.heap.size w wr ∧ HBox wr w.heap.size ⟨Ak, ck, Ap, cp, Ab, cb⟩ h) (fun i _ => h.bs.length - (intOf i).toNat)
  case atStart => exact ⟨0, Nat.zero_le _, rfl, Lib.hid (fun b hb => by omega), (Below.refl _ _).alloc (Nat.le_refl _) _, HBox.new w ⟨Ak, ck, Ap, cp, Ab, cb⟩ h⟩
  case round =>
    obtain ⟨k, hk, rfl, hall, hb, hB⟩ := hrel
    have hsz := hb.size
    obtain ⟨g0, g1, g2, g3⟩ := hB.cells
    by_cases hlt : k < h.bs.length
    · obtain ⟨x, hx⟩ : ∃ x, h.bs[k]? = some x := ⟨_, List.getElem?_eq_getElem hlt⟩
      obtain ⟨b1, o1, rfl, b1lt, d1⟩ := HH.out.b.at_ hx
      have hgx : h.bs.getD k 0 = x := by simp [List.getD, hx]
      have HGX := Lib.hid hgx
      have hpo : PartsOK h (inOf pack k) := inTo_parts hl
      have HPO := Lib.hid hpo
      have hil : (inOf pack k).length ≤ pack.length := inTo_len _ _ _
      have HC := Lib.hid (fun A' c' W (hW : Below w.heap.size w W) (hI' : IntsAt W W.heap.size A' (inOf pack k)) => pounds_any _ h HV.out (inOf pack k) (by omega) hpo A' c' W (HH.out.below hW) hI')
      have HS := Lib.hid (fun A' c' W (hW : Below w.heap.size w W) (hI' : IntsAt W W.heap.size A' (inOf pack k)) => saltOf_any _ h HV.out (inOf pack k) (by omega) hpo A' c' W (HH.out.below hW) hI')
      have hup := (caskIn_upto HV.out _ hpo).ok (by omega)
      have hp0 := hup.p0
      have hp1 := hup.p1
      have hsb := saltC_bd hup ⟨hf0, hf1⟩
      have hki : (k : Int) < h.bs.length := by omega
      have hk0 : (0 : Int) ≤ (k : Int) := by omega
      have hnc : needC h (inOf pack k) = (caskIn h (inOf pack k)).p + saltC h.fl (caskIn h (inOf pack k)) := rfl
      have HNC := Lib.hid hnc
      clear hx hgx hpo hnc hup
      by_cases hov : x < (caskIn h (inOf pack k)).p + saltC h.fl (caskIn h (inOf pack k))
      all_goals
        go_wp2_with (go_at_call 63; refine (in_any pack (by omega) k A c _ (ints_later HI.out hb)).mono ?_; rintro e w2 ⟨⟨v, rfl, hown⟩, hb2⟩; obtain ⟨A2, c2, rfl, -, -, hI2⟩ := hown.lay; have x0 := extB_cell (below_cell hb2 g0); have x1 := extB_cell (below_cell hb2 g1); have x2 := extB_cell (below_cell hb2 g2); have x3 := extB_cell (below_cell hb2 g3); have d2 := extB_cell (below_cell hb2 (below_cell hb d1)))
        have hI3 := Lib.hid (fun x => (ints_later (hI2.at_.keep (Nat.le_refl _) (fun _ _ _ => rfl)) (extB_below w2 x) : IntsAt (extB w2 x) (extB w2 x).heap.size A2 (inOf pack k)))
        have hbe := Lib.hid (fun x => (hb0to hb (hb0to hb2 (extB_below w2 x)) : Below w.heap.size w (extB w2 x)))
        clear hI2 hown
        refine wp_region_extW (by kernel_rfl) (by kernel_rfl) ?_
        repeat (go_big_quiet_step (first
          | (go_at_call 71; exact ext_call (HC.out A2 c2 _ (hbe.out _) (hI3.out _)))
          | (go_at_call 80; exact ext_call (HS.out A2 c2 _ (hbe.out _) (hI3.out _)))))
        refine wpQuiet_nil ?_
        rintro _ ⟨y1, rfl⟩
        have hb3 := hbe.out y1
        clear x0 x1 x2 x3 d2
      · have hno := fitsR_no (h := h) (pack := pack) (b := k) hlt (by rw [HNC.out, HGX.out]; omega)
        have HNO := Lib.hid hno
        clear hno
        go_wp2
        go_ret
        exact ⟨by rw [HNO.out]; rfl, hb3⟩
      · go_wp2
        go_roundw
        case rel => exact ⟨k + 1, by omega, by go_num, Lib.hid (fun b hbk => by by_cases e : b = k; subst e; rw [HNC.out, HGX.out]; omega; exact hall.out b (by omega)), hb3, hB.of (((extB_below w2 y1).block _ (Nat.lt_of_lt_of_le hB.lt hb2.size)).trans (hb2.block _ hB.lt))⟩
        case measure => simp [intOf]; omega
    · obtain rfl : k = h.bs.length := by omega
      go_wp2
      go_ret
      have : fitsR h pack = true := fitsR_true.2 hall.out
      exact ⟨by rw [this]; rfl, hb⟩
/-! Plain: a packing's casks, by the lists of their parts. -/
def InRange (lo : Int) (nb : Nat) (p : List Int) : Prop := ∀ x ∈ p, lo ≤ x ∧ x < nb
theorem barrel_range {p : List Int} {nb : Nat} (h : InRange (-1) nb p) (hnb : nb ≤ 5) : ∀ j, -1 ≤ barrelOf p j ∧ barrelOf p j ≤ 4 := fun j => by
  unfold barrelOf
  cases hj : p[j]? with
  | none => simp [List.getD, hj]
  | some x =>
    have := h x (List.mem_of_getElem? hj)
    simp only [List.getD, hj, Option.getD_some]
    omega
theorem InRange.low {lo : Int} {nb : Nat} {p : List Int} (h : InRange lo nb p) (hlo : -1 ≤ lo) : InRange (-1) nb p := fun x hx => by have := h x hx; omega
theorem caskOf_packed {h : House} {p : List Int} (hl : p.length = h.ps.length) {nb : Nat} (hr : InRange (-1) nb p) (hnb : nb ≤ 5) {b : Nat} (hb : b < 5) : caskOf (packedC h p) b = caskIn h (inOf p b) := by
  unfold caskOf packedC inOf
  rw [← hl]
  exact casksTo_at h p b hb p.length (fun j _ => barrel_range hr hnb j)
theorem inOf_none {p : List Int} {nb : Nat} {lo : Int} (hr : InRange lo nb p) {b : Nat} (hb : nb ≤ b) : inOf p b = [] := by
  rw [List.eq_nil_iff_forall_not_mem]
  intro i hi
  obtain ⟨j, -, hj, h3⟩ := mem_inTo.1 hi
  have : p[j]? = some (barrelOf p j) := by simp [barrelOf, List.getD, List.getElem?_eq_getElem hj]
  have := hr _ (List.mem_of_getElem? this)
  omega
theorem fits_packed {h : House} (hv : HOK h) {p : List Int} (hl : p.length = h.ps.length) {nb : Nat} (hr : InRange (-1) nb p) (hnb : nb ≤ 5) : fitsC h (packedC h p) = fitsR h p := by
  unfold fitsC fitsR
  rw [Bool.eq_iff_iff]
  simp only [List.all_eq_true, List.mem_range]
  have hbl := hv.bl
  have : ∀ b, b < h.bs.length → (roomOK h (packedC h p) b = true ↔ decide (needC h (inOf p b) ≤ h.bs.getD b 0) = true) := fun b hb => by
    rw [roomOK, caskOf_packed hl hr hnb (by omega)]
    rfl
  exact ⟨fun h1 b hb => (this b hb).1 (h1 b hb), fun h1 b hb => (this b hb).2 (h1 b hb)⟩
/-- The sum of f over the first k barrels of a list. -/
def sumB (f : Cask → Int) (h : House) (p : List Int) : Nat → Int
  | 0 => 0
  | k + 1 => sumB f h p k + f (caskIn h (inOf p k))
theorem sumB_le {f : Cask → Int} {h : House} {p : List Int} {nb : Nat} {lo : Int} (hr : InRange lo nb p) (hf : f c0 = 0) : ∀ k, sumB f h p (nb + k) = sumB f h p nb
  | 0 => rfl
  | k + 1 => by rw [← Nat.add_assoc, sumB, sumB_le hr hf k, inOf_none hr (by omega)]; simp [caskIn, hf]
theorem sumC_packed {f : Cask → Int} {h : House} (hf : f c0 = 0) {p : List Int} (hl : p.length = h.ps.length) {nb : Nat} (hr : InRange (-1) nb p) (hnb : nb ≤ 5) : sumC f (packedC h p) 5 = sumB f h p nb := by
  have : ∀ k, k ≤ 5 → sumC f (packedC h p) k = sumB f h p k := fun k => by
    induction k with
    | zero => intro _; rfl
    | succ k ih => intro hk; rw [sumC, sumB, ih (by omega), caskOf_packed hl hr hnb (by omega)]
  rw [this 5 (Nat.le_refl _)]
  have := sumB_le (f := f) (h := h) hr hf (5 - nb)
  rw [show nb + (5 - nb) = 5 by omega] at this
  exact this
/-- Early's pounds of a cask. -/
def earlyC (day : Int) (c : Cask) : Int := if c.d ≤ day then c.p else 0
theorem late_early (day : Int) (l : List Cask) : ∀ k, sumC (lateC day) l k = -(sumC (earlyC day) l k)
  | 0 => rfl
  | k + 1 => by
    rw [sumC, sumC, late_early day l k]
    unfold lateC earlyC
    split <;> omega
theorem sumB_bd {f : Cask → Int} {h : House} {p : List Int} {m : Int} (hm : ∀ b : Nat, 0 ≤ f (caskIn h (inOf p b)) ∧ f (caskIn h (inOf p b)) ≤ m) : ∀ k : Nat, 0 ≤ sumB f h p k ∧ sumB f h p k ≤ m * k
  | 0 => by simp [sumB]
  | k + 1 => by
    have := sumB_bd hm k
    have := hm k
    unfold sumB
    constructor
    · omega
    · rw [show ((k + 1 : Nat) : Int) = (k : Int) + 1 by omega, Int.mul_add]; omega
theorem inOf_ok {h : House} (hv : HOK h) {p : List Int} (hl : p.length ≤ h.ps.length) (b : Int) : (caskIn h (inOf p b)).ok := (caskIn_upto hv _ (inTo_parts hl)).ok (by have := inTo_len p b p.length; have := hv.pl; omega)
end Go.Proofs.Ytgemmmdcpbajoaa
