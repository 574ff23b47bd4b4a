import Derived.Test.YtgemmmdcpbajoaaTB
namespace Go.Proofs.Ytgemmmdcpbajoaa
open Go.RowKit

/-! The specification: what is valid, sums, parts of a barrel. -/
theorem below_drewN {B : Nat} {W W' : World} (h : Below B W W') (m : Nat) : Below B W (W'.drewN m) := ⟨h.os, h.tape, h.output, h.size, h.block⟩
theorem HBox.drewN {W : World} {b : Nat} {L : HL} {h : House} (H : HBox W b L h) (m : Nat) : HBox (W.drewN m) b L h := H
theorem within1_any (n lo hi : Int) (w : World) : Calls Try.prog 48 #[.int .i64 n, .int .i64 lo, .int .i64 hi] w fun e w' => e = .returned (.bool (inR n lo hi)) ∧ w = w' := by
  by_cases h : lo ≤ n <;> by_cases h2 : n ≤ hi
  all_goals
    have e : inR n lo hi = (decide (lo ≤ n) && decide (n ≤ hi)) := rfl
    have E := Lib.hid e
    clear e
    go_enter Try.func48, Try.ntmps48
    go_wp2
    go_ret
    exact ⟨by rw [E.out]; simp <;> omega, rfl⟩
theorem within_any (n lo hi : Int) (w : World) : Calls Try.prog 79 #[.int .i64 n, .int .i64 lo, .int .i64 hi] w fun e w' => e = .returned (.bool (inR n lo hi)) ∧ w = w' := by
  go_enter Try.func79, Try.ntmps79
  go_wp2_with (go_at_call 48; refine (within1_any _ _ _ _).mono ?_; rintro e w' ⟨rfl, rfl⟩)
  go_ret
  exact ⟨rfl, rfl⟩
theorem rIsPart_any (L : HL) (h : House) (k : Int) (w : World) (hn : h.ps.length ≤ 1000) : Calls Try.prog 42 #[L.enc h, .int .i64 k] w fun e w' => e = .returned (.bool (inR k 0 (h.ps.length - 1))) ∧ Below w.heap.size w w' := by
  go_enter Try.func42, Try.ntmps42
  go_wp2_with (go_at_call 79; refine (within_any _ _ _ _).mono ?_; rintro e w' ⟨rfl, rfl⟩)
  go_ret
  exact ⟨rfl, (Below.refl _ _).alloc (Nat.le_refl _) _⟩
theorem rIsBarrel_any (L : HL) (h : House) (k : Int) (w : World) (hn : h.bs.length ≤ 1000) : Calls Try.prog 51 #[L.enc h, .int .i64 k] w fun e w' => e = .returned (.bool (inR k 0 (h.bs.length - 1))) ∧ Below w.heap.size w w' := by
  go_enter Try.func51, Try.ntmps51
  go_wp2_with (go_at_call 79; refine (within_any _ _ _ _).mono ?_; rintro e w' ⟨rfl, rfl⟩)
  go_ret
  exact ⟨rfl, (Below.refl _ _).alloc (Nat.le_refl _) _⟩
theorem rIsDay_any (k : Int) (w : World) : Calls Try.prog 50 #[.int .i64 k] w fun e w' => e = .returned (.bool (inR k 0 20)) ∧ w = w' := by
  go_enter Try.func50, Try.ntmps50
  go_wp2_with (go_at_call 79; refine (within_any _ _ _ _).mono ?_; rintro e w' ⟨rfl, rfl⟩)
  go_ret
  exact ⟨rfl, rfl⟩
theorem rIsStock_any (k : Int) (w : World) : Calls Try.prog 46 #[.int .i64 k] w fun e w' => e = .returned (.bool (inR k 0 999)) ∧ w = w' := by
  go_enter Try.func46, Try.ntmps46
  go_wp2_with (go_at_call 79; refine (within_any _ _ _ _).mono ?_; rintro e w' ⟨rfl, rfl⟩)
  go_ret
  exact ⟨rfl, rfl⟩
/-- One part more of a list. -/
theorem take_step {l : List Int} {k : Nat} {x : Int} (h : l[k]? = some x) : l.take (k + 1) = l.take k ++ [x] := (take_snoc_next h).symm
theorem caskIn_take {h : House} (hv : HOK h) {l : List Int} (hp : PartsOK h l) {k : Nat} (hk : k ≤ l.length) : (caskIn h (l.take k)).upto k := by
  have := caskIn_upto hv (l.take k) (fun i hi => hp i (List.mem_of_mem_take hi))
  rwa [show (l.take k).length = k by simp; omega] at this
set_option maxRecDepth 100000 in
set_option maxHeartbeats 4000000 in
theorem pounds_any (L : HL) (h : House) (hv : HOK h) (l : List Int) (hl : l.length ≤ 100) (hp : PartsOK h l) (A : Option Addr) (c : Nat) (w : World) (hH : HouseAt w w.heap.size L h) (hI : IntsAt w w.heap.size A l) :
    Calls Try.prog 71 #[L.enc h, .slice A l.length c] w fun e w' => e = .returned (.int .i64 (caskIn h l).p) ∧ Below w.heap.size w w' := by
  have HH := Lib.hid hH
  have HI := Lib.hid hI
  have HV := Lib.hid hv
  have HP := Lib.hid hp
  have hpl6 := hv.pl
  clear hH hI hv hp
  go_enter Try.func71, Try.ntmps71
  go_wp2
  go_loopw [5, 6] (fun n i wr => ∃ k : Nat, k ≤ l.length ∧ i = .int .i64 k ∧ n = .int .i64 (caskIn h (l.take k)).p ∧ Below w.heap.size w wr ∧ HBox wr w.heap.size L h) (fun _ i _ => l.length - (intOf i).toNat)
  case atStart => exact ⟨0, Nat.zero_le _, rfl, rfl, (Below.refl _ _).alloc (Nat.le_refl _) _, HBox.new w L h⟩
  case round =>
    obtain ⟨k, hk, rfl, rfl, hb, hB⟩ := hrel
    obtain ⟨g0, g1, g2, g3⟩ := hB.cells
    have hup := caskIn_take HV.out HP.out hk
    have hu0 := hup.p0
    have hu1 := hup.p1
    by_cases hlt : k < l.length
    · obtain ⟨x, hx⟩ : ∃ x, l[k]? = some x := ⟨_, List.getElem?_eq_getElem hlt⟩
      obtain ⟨b1, o1, rfl, b1lt, d1⟩ := HI.out.at_ hx
      have e1 := below_cell hb d1
      obtain ⟨x0, x1⟩ := HP.out x (List.mem_of_getElem? hx)
      obtain ⟨xn, rfl⟩ : ∃ xn : Nat, x = (xn : Int) := ⟨x.toNat, by omega⟩
      have hxn : xn < h.ps.length := by omega
      obtain ⟨kk, p1, p2, p3, ⟨p4, p5⟩, _⟩ := HV.out.part hxn
      obtain ⟨b2, o2, e2, _, q1, q2⟩ := HH.out.p.at_ p1
      have f2 := below_cell hb q2
      have HX := Lib.hid (take_step hx)
      have hki : (k : Int) < l.length := by omega
      have hk0 : (0 : Int) ≤ (k : Int) := by omega
      have hxi : (xn : Int) < h.ps.length := by omega
      have hx0 : (0 : Int) ≤ (xn : Int) := by omega
      have hnx : (caskIn h (l.take (k + 1))).p = (caskIn h (l.take k)).p + (partOf h xn).2 := by rw [HX.out, caskIn_snoc]; simp [layAt, layC]
      have HNX := Lib.hid hnx
      rw [e2] at g2
      clear hx p1 p2 p3 q1 d1 hnx
      go_wp2
      go_quiet (fail)
      go_wp2
      go_roundw
      case rel => exact ⟨k + 1, by omega, by go_num, by rw [HNX.out], below_drewN hb _, hB.drewN _⟩
      case measure => simp [intOf]; omega
    · obtain rfl : k = l.length := by omega
      have HL' : Hid ((caskIn h (l.take l.length)).p = (caskIn h l).p) := Lib.hid (by rw [List.take_length])
      go_wp2
      go_ret
      exact ⟨by rw [← HL'.out]; rfl, hb⟩
theorem salt_eq {h : House} {l : List Int} (hl : l ≠ []) : saltC h.fl (caskIn h l) = h.fl + ((caskIn h l).p * (caskIn h l).s + 9) / 10 := by
  have : ¬ (caskIn h l).n = 0 := by
    rw [cask_n]
    have := List.length_pos_iff.2 hl
    omega
  rw [saltC, if_neg this]
theorem salt_nil {h : House} : saltC h.fl (caskIn h []) = 0 := by simp [saltC, caskIn, c0]
set_option maxRecDepth 100000 in
set_option maxHeartbeats 4000000 in
theorem saltOf_any (L : HL) (h : House) (hv : HOK h) (l : List Int) (hl : l.length ≤ 100) (hp : PartsOK h l) (A : Option Addr) (c : Nat) (w : World) (hH : HouseAt w w.heap.size L h) (hI : IntsAt w w.heap.size A l) :
    Calls Try.prog 80 #[L.enc h, .slice A l.length c] w fun e w' => e = .returned (.int .i64 (saltC h.fl (caskIn h l))) ∧ Below w.heap.size w w' := by
  have HH := Lib.hid hH
  have HI := Lib.hid hI
  have HV := Lib.hid hv
  have HP := Lib.hid hp
  have hpl6 := hv.pl
  have hf0 := hv.f0
  have hf1 := hv.f1
  clear hH hI hv hp
  rcases Nat.eq_zero_or_pos l.length with hz | hz
  · have hd : ((l.length : Int) == 0) = true := beq_iff_eq.2 (by omega)
    have HZ := Lib.hid hz
    clear hz
    go_enter Try.func80, Try.ntmps80
    go_wp2
    go_ret
    have : l = [] := List.eq_nil_of_length_eq_zero HZ.out
    exact ⟨by subst this; rw [salt_nil]; rfl, (Below.refl _ _).alloc (Nat.le_refl _) _⟩
  · have hd : ((l.length : Int) == 0) = false := beq_eq_false_iff_ne.2 (by omega)
    have hne : Hid (l ≠ []) := Lib.hid (List.length_pos_iff.1 hz)
    go_enter Try.func80, Try.ntmps80
    go_wp2
    go_loopw [5, 6] (fun n i wr => ∃ k : Nat, k ≤ l.length ∧ i = .int .i64 k ∧ n = .int .i64 (caskIn h (l.take k)).s ∧ Below w.heap.size w wr ∧ HBox wr w.heap.size L h) (fun _ i _ => l.length - (intOf i).toNat)
    case atStart => exact ⟨0, Nat.zero_le _, rfl, rfl, (Below.refl _ _).alloc (Nat.le_refl _) _, HBox.new w L h⟩
    case round =>
      obtain ⟨k, hk, rfl, rfl, hb, hB⟩ := hrel
      obtain ⟨g0, g1, g2, g3⟩ := hB.cells
      have hup := caskIn_take HV.out HP.out hk
      have hu0 := hup.s0
      have hu1 := hup.s1
      by_cases hlt : k < l.length
      · obtain ⟨x, hx⟩ : ∃ x, l[k]? = some x := ⟨_, List.getElem?_eq_getElem hlt⟩
        obtain ⟨b1, o1, rfl, b1lt, d1⟩ := HI.out.at_ hx
        have e1 := below_cell hb d1
        obtain ⟨x0, x1⟩ := HP.out x (List.mem_of_getElem? hx)
        obtain ⟨xn, rfl⟩ : ∃ xn : Nat, x = (xn : Int) := ⟨x.toNat, by omega⟩
        have hxn : xn < h.ps.length := by omega
        obtain ⟨kk, p1, p2, p3, ⟨p4, p5⟩, k0, k1, _⟩ := HV.out.part hxn
        obtain ⟨b2, o2, e2, _, q1, q2⟩ := HH.out.p.at_ p1
        obtain ⟨b3, o3, e3, _, r1, r2⟩ := HH.out.k.at_ p3
        rw [p2] at q1
        have f1 := below_cell hb q1
        have f3 := below_cell hb r1
        have hkk : kk < h.ks.length := (List.getElem?_eq_some_iff.1 p3).1
        have HX := Lib.hid (take_step hx)
        have hki : (k : Int) < l.length := by omega
        have hk0 : (0 : Int) ≤ (k : Int) := by omega
        have hxi : (xn : Int) < h.ps.length := by omega
        have hx0 : (0 : Int) ≤ (xn : Int) := by omega
        have hkki : (kk : Int) < h.ks.length := by omega
        have hkk0 : (0 : Int) ≤ (kk : Int) := by omega
        have hnx : (caskIn h (l.take (k + 1))).s = max (caskIn h (l.take k)).s (kindOf h (partOf h xn)).1 := by rw [HX.out, caskIn_snoc]; simp [layAt, layC]
        have HNX := Lib.hid hnx
        rw [e2] at g2
        rw [e3] at g0
        clear hx p1 p2 p3 q1 q2 r1 r2 d1 hnx e2 e3
        go_wp2
        go_quiet (fail)
        go_wp2
        go_roundw
        case rel => exact ⟨k + 1, by omega, by go_num, by rw [HNX.out]; congr 1; simp only [Int.max_def]; split <;> split <;> omega, below_drewN hb _, hB.drewN _⟩
        case measure => simp [intOf]; omega
      · obtain rfl : k = l.length := by omega
        have HL' : Hid (caskIn h (l.take l.length) = caskIn h l) := Lib.hid (by rw [List.take_length])
        rw [HL'.out] at hu0 hu1 ⊢
        have hup2 := caskIn_upto HV.out l HP.out
        have hp0 := hup2.p0
        have hp1 := hup2.p1
        have hps : 0 ≤ (caskIn h l).p * (caskIn h l).s := Int.mul_nonneg hp0 hu0
        have hps2 : (caskIn h l).p * (caskIn h l).s ≤ 10000 * 9 := Int.mul_le_mul (by omega) hu1 hu0 (by omega)
        have e0 := extB_cell g0
        have e1 := extB_cell g1
        have e2 := extB_cell g2
        have e3 := extB_cell g3
        clear hup hup2
        go_wp2
        refine wp_region_extW (by kernel_rfl) (by kernel_rfl) ?_
        repeat (go_big_quiet_step ((go_at_call 71; exact ext_call (pounds_any L h HV.out l hl HP.out A c _ (extB_house (HH.out.below hb) (Nat.le_refl _)) (HI.out.keep (Nat.le_trans hb.size (extB_below wr _).size) fun b o hlt => by exact ((extB_below wr _).cell (p := ⟨b, o, none⟩) (by have := hb.size; show b < wr.heap.size; omega)).trans (hb.cell (p := ⟨b, o, none⟩) hlt))))))
        refine wpQuiet_nil ?_
        rintro _ ⟨x1, rfl⟩
        have hb8 := extB_below wr x1
        clear e0 e1 e2 e3
        go_wp2
        go_ret
        exact ⟨by rw [salt_eq hne.out]; rfl, hb0to hb hb8⟩
set_option maxRecDepth 100000 in
set_option maxHeartbeats 4000000 in
theorem daysOf_any (L : HL) (h : House) (hv : HOK h) (l : List Int) (hl : l.length ≤ 100) (hp : PartsOK h l) (A : Option Addr) (c : Nat) (w : World) (hH : HouseAt w w.heap.size L h) (hI : IntsAt w w.heap.size A l) :
    Calls Try.prog 84 #[L.enc h, .slice A l.length c] w fun e w' => e = .returned (.int .i64 (caskIn h l).d) ∧ Below w.heap.size w w' := by
  have HH := Lib.hid hH
  have HI := Lib.hid hI
  have HV := Lib.hid hv
  have HP := Lib.hid hp
  have hpl6 := hv.pl
  clear hH hI hv hp
  go_enter Try.func84, Try.ntmps84
  go_wp2
  go_loopw [5, 6] (fun n i wr => ∃ k : Nat, k ≤ l.length ∧ i = .int .i64 k ∧ n = .int .i64 (caskIn h (l.take k)).d ∧ Below w.heap.size w wr ∧ HBox wr w.heap.size L h) (fun _ i _ => l.length - (intOf i).toNat)
  case atStart => exact ⟨0, Nat.zero_le _, rfl, rfl, (Below.refl _ _).alloc (Nat.le_refl _) _, HBox.new w L h⟩
  case round =>
    obtain ⟨k, hk, rfl, rfl, hb, hB⟩ := hrel
    obtain ⟨g0, g1, g2, g3⟩ := hB.cells
    have hup := caskIn_take HV.out HP.out hk
    have hu0 := hup.d0
    have hu1 := hup.d1
    by_cases hlt : k < l.length
    · obtain ⟨x, hx⟩ : ∃ x, l[k]? = some x := ⟨_, List.getElem?_eq_getElem hlt⟩
      obtain ⟨b1, o1, rfl, b1lt, d1⟩ := HI.out.at_ hx
      have e1 := below_cell hb d1
      obtain ⟨x0, x1⟩ := HP.out x (List.mem_of_getElem? hx)
      obtain ⟨xn, rfl⟩ : ∃ xn : Nat, x = (xn : Int) := ⟨x.toNat, by omega⟩
      have hxn : xn < h.ps.length := by omega
      obtain ⟨kk, p1, p2, p3, ⟨p4, p5⟩, _, _, k0, k1⟩ := HV.out.part hxn
      obtain ⟨b2, o2, e2, _, q1, q2⟩ := HH.out.p.at_ p1
      obtain ⟨b3, o3, e3, _, r1, r2⟩ := HH.out.k.at_ p3
      rw [p2] at q1
      have f1 := below_cell hb q1
      have f3 := below_cell hb r2
      have hkk : kk < h.ks.length := (List.getElem?_eq_some_iff.1 p3).1
      have HX := Lib.hid (take_step hx)
      have hki : (k : Int) < l.length := by omega
      have hk0 : (0 : Int) ≤ (k : Int) := by omega
      have hxi : (xn : Int) < h.ps.length := by omega
      have hx0 : (0 : Int) ≤ (xn : Int) := by omega
      have hkki : (kk : Int) < h.ks.length := by omega
      have hkk0 : (0 : Int) ≤ (kk : Int) := by omega
      have hnx : (caskIn h (l.take (k + 1))).d = max (caskIn h (l.take k)).d (kindOf h (partOf h xn)).2 := by rw [HX.out, caskIn_snoc]; simp [layAt, layC]
      have HNX := Lib.hid hnx
      rw [e2] at g2
      rw [e3] at g0
      clear hx p1 p2 p3 q1 q2 r1 r2 d1 hnx e2 e3
      go_wp2
      go_quiet (fail)
      go_wp2
      go_roundw
      case rel => exact ⟨k + 1, by omega, by go_num, by rw [HNX.out]; congr 1; simp only [Int.max_def]; split <;> split <;> omega, below_drewN hb _, hB.drewN _⟩
      case measure => simp [intOf]; omega
    · obtain rfl : k = l.length := by omega
      have HL' : Hid ((caskIn h (l.take l.length)).d = (caskIn h l).d) := Lib.hid (by rw [List.take_length])
      go_wp2
      go_ret
      exact ⟨by rw [← HL'.out]; rfl, hb⟩
end Go.Proofs.Ytgemmmdcpbajoaa
