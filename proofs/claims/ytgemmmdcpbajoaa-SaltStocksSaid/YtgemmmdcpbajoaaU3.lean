import Derived.IntWalk
import Derived.Test.YtgemmmdcpbajoaaU2
namespace Go.Proofs.Ytgemmmdcpbajoaa
open Go.RowKit

set_option maxRecDepth 100000 in
set_option maxHeartbeats 4000000 in
theorem allSalt_any (L : HL) (h : House) (hv : HOK h) (pack : List Int) (hl : pack.length ≤ h.ps.length) (A : Option Addr) (c : Nat) (w : World) (hH : HouseAt w w.heap.size L h) (hI : IntsAt w w.heap.size A pack) :
    Calls Try.prog 58 #[L.enc h, .slice A pack.length c] w fun e w' => e = .returned (.int .i64 (sumB (saltC h.fl) h pack h.bs.length)) ∧ Below w.heap.size w w' := by
  have HH := Lib.hid hH
  have HI := Lib.hid hI
  have HV := Lib.hid hv
  have hpl6 := hv.pl
  have hbl4 := hv.bl
  have hf0 := hv.f0
  have hf1 := hv.f1
  have hbd := sumB_bd (f := saltC h.fl) (h := h) (p := pack) (m := 10000) fun b => saltC_bd (inOf_ok hv hl b) ⟨hf0, hf1⟩
  have HBD := Lib.hid hbd
  clear hH hI hv hbd
  go_enter Try.func58, Try.ntmps58
  go_wp2
  go_loopw [5, 6] (fun n i wr => ∃ k : Nat, k ≤ h.bs.length ∧ i = .int .i64 k ∧ n = .int .i64 (sumB (saltC h.fl) h pack k) ∧ Below w.heap.size w wr ∧ HBox wr w.heap.size L h) (fun _ i _ => h.bs.length - (intOf i).toNat)
  case atStart => exact ⟨0, Nat.zero_le _, rfl, rfl, (Below.refl _ _).alloc (Nat.le_refl _) _, HBox.new w L h⟩
  case round =>
    obtain ⟨k, hk, rfl, rfl, hb, hB⟩ := hrel
    have hsz := hb.size
    obtain ⟨g0, g1, g2, g3⟩ := hB.cells
    obtain ⟨hd0, hd1⟩ := HBD.out k
    by_cases hlt : k < h.bs.length
    · have hpo : PartsOK h (inOf pack k) := inTo_parts hl
      have hil : (inOf pack k).length ≤ pack.length := inTo_len _ _ _
      have HIL := Lib.hid hil
      have HS := Lib.hid (fun A' c' W (hW : Below w.heap.size w W) (hI' : IntsAt W W.heap.size A' (inOf pack k)) => saltOf_any L h HV.out (inOf pack k) (by omega) hpo A' c' W (HH.out.below hW) hI')
      have hsb := saltC_bd (inOf_ok HV.out hl (k : Int)) ⟨hf0, hf1⟩
      have HBK := Lib.hid hb
      have HBB := Lib.hid hB
      clear hpo hil
      go_wp2
      go_region_held3 (fun w' => w'.cell? ⟨w.heap.size, 0, none⟩ = some (.slice L.Ak h.ks.length L.ck) ∧ w'.cell? ⟨w.heap.size, 1, none⟩ = some (.int .i64 h.fl) ∧ w'.cell? ⟨w.heap.size, 2, none⟩ = some (.slice L.Ap h.ps.length L.cp) ∧ w'.cell? ⟨w.heap.size, 3, none⟩ = some (.slice L.Ab h.bs.length L.cb)) (first | go_keep)
        (first
          | (go_at_call 63; refine (in_any pack (by omega) k A c _ (ints_later HI.out (hb0to HBK.out (drew_below _)))).mono ?_; rintro e w2 ⟨⟨v, rfl, hown⟩, hb2⟩; obtain ⟨A2, c2, rfl, -, -, hI2⟩ := hown.lay; have HI2 := Lib.hid hI2.at_; clear hown hI2; have hb3 := hb0to (drew_below _) hb2; have x0 := below_cell hb3 g0; have x1 := below_cell hb3 g1; have x2 := below_cell hb3 g2; have x3 := below_cell hb3 g3)
          | (go_at_call 80; refine (HS.out A2 c2 _ (hb0to HBK.out hb3) HI2.out).mono ?_; rintro e w4 ⟨rfl, hb4⟩; have y0 := below_cell hb4 x0; have y1 := below_cell hb4 x1; have y2 := below_cell hb4 x2; have y3 := below_cell hb4 x3))
      all_goals
        go_wp2
        go_roundw
        case rel => exact ⟨k + 1, by omega, by go_num, congrArg (Value.int IntKind.i64) (IntWalk.i64_in _ (by omega)), hb0to HBK.out (hb0to hb3 hb4), HBB.out.of (((hb0to hb3 hb4).block _ HBB.out.lt))⟩
        case measure => simp [intOf]; omega
    · obtain rfl : k = h.bs.length := by omega
      go_wp2
      go_ret
      exact ⟨rfl, hb⟩
theorem used_in {h : House} {pack : List Int} {b : Int} : usedC (caskIn h (inOf pack b)) = if 0 < (inOf pack b).length then 1 else 0 := by
  rw [usedC, cask_n]
  split <;> split <;> omega
set_option maxRecDepth 100000 in
set_option maxHeartbeats 4000000 in
theorem rUsed_any (L : HL) (h : House) (hv : HOK h) (pack : List Int) (hl : pack.length ≤ h.ps.length) (A : Option Addr) (c : Nat) (w : World) (hI : IntsAt w w.heap.size A pack) :
    Calls Try.prog 59 #[L.enc h, .slice A pack.length c] w fun e w' => e = .returned (.int .i64 (sumB usedC h pack h.bs.length)) ∧ Below w.heap.size w w' := by
  have HI := Lib.hid hI
  have hpl6 := hv.pl
  have hbl4 := hv.bl
  have hbd := sumB_bd (f := usedC) (h := h) (p := pack) (m := 1) fun b => by rw [used_in]; split <;> omega
  have HBD := Lib.hid hbd
  clear hI hv hbd
  go_enter Try.func59, Try.ntmps59
  go_wp2
  go_loopw [5, 6] (fun n i wr => ∃ k : Nat, k ≤ h.bs.length ∧ i = .int .i64 k ∧ n = .int .i64 (sumB usedC h pack k) ∧ Below w.heap.size w wr ∧ HBox wr w.heap.size L h) (fun _ i _ => h.bs.length - (intOf i).toNat)
  case atStart => exact ⟨0, Nat.zero_le _, rfl, rfl, (Below.refl _ _).alloc (Nat.le_refl _) _, HBox.new w L h⟩
  case round =>
    obtain ⟨k, hk, rfl, rfl, hb, hB⟩ := hrel
    have hsz := hb.size
    obtain ⟨g0, g1, g2, g3⟩ := hB.cells
    obtain ⟨hd0, hd1⟩ := HBD.out k
    by_cases hlt : k < h.bs.length
    · have hu : Hid (usedC (caskIn h (inOf pack k)) = if 0 < (inOf pack k).length then 1 else 0) := Lib.hid used_in
      by_cases hpos : 0 < (inOf pack k).length
      · have hdp : decide (0 < (inOf pack k).length) = true := by simpa using hpos
        have hs : Hid (sumB usedC h pack (k + 1) = sumB usedC h pack k + 1) := Lib.hid (by rw [sumB, hu.out, if_pos hpos])
        clear hpos
        go_wp2_with (go_at_call 63; refine (in_any pack (by omega) k A c _ (ints_later HI.out hb)).mono ?_; rintro e w2 ⟨⟨v, rfl, hown⟩, hb2⟩; obtain ⟨A2, c2, rfl, -, -, hI2⟩ := hown.lay)
        go_roundw
        case rel => exact ⟨k + 1, by omega, by go_num, by rw [hs.out], hb0to hb hb2, hB.of (hb2.block _ hB.lt)⟩
        case measure => simp [intOf]; omega
      · have hdp : decide (0 < (inOf pack k).length) = false := by simpa using hpos
        have hs : Hid (sumB usedC h pack (k + 1) = sumB usedC h pack k) := Lib.hid (by rw [sumB, hu.out, if_neg hpos]; omega)
        clear hpos
        go_wp2_with (go_at_call 63; refine (in_any pack (by omega) k A c _ (ints_later HI.out hb)).mono ?_; rintro e w2 ⟨⟨v, rfl, hown⟩, hb2⟩; obtain ⟨A2, c2, rfl, -, -, hI2⟩ := hown.lay)
        go_roundw
        case rel => exact ⟨k + 1, by omega, by go_num, by rw [hs.out], hb0to hb hb2, hB.of (hb2.block _ hB.lt)⟩
        case measure => simp [intOf]; omega
    · obtain rfl : k = h.bs.length := by omega
      go_wp2
      go_ret
      exact ⟨rfl, hb⟩
set_option maxRecDepth 100000 in
set_option maxHeartbeats 4000000 in
theorem earlyOf_any (L : HL) (h : House) (hv : HOK h) (pack : List Int) (hl : pack.length ≤ h.ps.length) (day : Int) (A : Option Addr) (c : Nat) (w : World) (hH : HouseAt w w.heap.size L h) (hI : IntsAt w w.heap.size A pack) :
    Calls Try.prog 60 #[L.enc h, .slice A pack.length c, .int .i64 day] w fun e w' => e = .returned (.int .i64 (sumB (earlyC day) h pack h.bs.length)) ∧ Below w.heap.size w w' := by
  have HH := Lib.hid hH
  have HI := Lib.hid hI
  have HV := Lib.hid hv
  have hpl6 := hv.pl
  have hbl4 := hv.bl
  have hbd := sumB_bd (f := earlyC day) (h := h) (p := pack) (m := 10000) fun b => by
    have := inOf_ok hv hl (b : Int)
    have h0 := this.p0
    have h1 := this.p1
    unfold earlyC; split <;> omega
  have HBD := Lib.hid hbd
  clear hH hI hv hbd
  go_enter Try.func60, Try.ntmps60
  go_wp2
  go_loopw [7, 8] (fun n i wr => ∃ k : Nat, k ≤ h.bs.length ∧ i = .int .i64 k ∧ n = .int .i64 (sumB (earlyC day) h pack k) ∧ Below w.heap.size w wr ∧ HBox wr w.heap.size L h) (fun _ i _ => h.bs.length - (intOf i).toNat)
  case atStart => exact ⟨0, Nat.zero_le _, rfl, rfl, (Below.refl _ _).alloc (Nat.le_refl _) _, HBox.new w L h⟩
  case round =>
    obtain ⟨k, hk, rfl, rfl, hb, hB⟩ := hrel
    have hsz := hb.size
    obtain ⟨g0, g1, g2, g3⟩ := hB.cells
    obtain ⟨hd0, hd1⟩ := HBD.out k
    by_cases hlt : k < h.bs.length
    · have hpo : PartsOK h (inOf pack k) := inTo_parts hl
      have hil : (inOf pack k).length ≤ pack.length := inTo_len _ _ _
      have HC := Lib.hid (fun A' c' W (hW : Below w.heap.size w W) (hI' : IntsAt W W.heap.size A' (inOf pack k)) => pounds_any L h HV.out (inOf pack k) (by omega) hpo A' c' W (HH.out.below hW) hI')
      have HD := Lib.hid (fun A' c' W (hW : Below w.heap.size w W) (hI' : IntsAt W W.heap.size A' (inOf pack k)) => daysOf_any L h HV.out (inOf pack k) (by omega) hpo A' c' W (HH.out.below hW) hI')
      have hck := inOf_ok HV.out hl (k : Int)
      have hp0 := hck.p0
      have hp1 := hck.p1
      clear hpo hil hck
      by_cases hde : (caskIn h (inOf pack k)).d ≤ day
      · have hdd : decide ((caskIn h (inOf pack k)).d ≤ day) = true := by simpa using hde
        have hs : Hid (sumB (earlyC day) h pack (k + 1) = sumB (earlyC day) h pack k + (caskIn h (inOf pack k)).p) := Lib.hid (by rw [sumB, earlyC, if_pos hde])
        clear hde
        go_wp2_with (first
          | (go_at_call 63; refine (in_any pack (by omega) k A c _ (ints_later HI.out hb)).mono ?_; rintro e w2 ⟨⟨v, rfl, hown⟩, hb2⟩; obtain ⟨A2, c2, rfl, -, -, hI2⟩ := hown.lay; have x0 := below_cell hb2 g0; have x1 := below_cell hb2 g1; have x2 := below_cell hb2 g2; have x3 := below_cell hb2 g3)
          | (go_at_call 84; refine (HD.out A2 c2 _ (hb0to hb hb2) hI2.at_).mono ?_; rintro e w3 ⟨rfl, hb3⟩; have y0 := below_cell hb3 x0; have y1 := below_cell hb3 x1; have y2 := below_cell hb3 x2; have y3 := below_cell hb3 x3)
          | (go_at_call 71; refine (HC.out A2 c2 _ (hb0to hb (hb0to hb2 hb3)) (ints_later hI2.at_ hb3)).mono ?_; rintro e w4 ⟨rfl, hb4⟩))
        go_roundw
        case rel => exact ⟨k + 1, by omega, by go_num, by rw [hs.out], hb0to hb (hb0to hb2 (hb0to hb3 hb4)), hB.of ((hb0to hb2 (hb0to hb3 hb4)).block _ hB.lt)⟩
        case measure => simp [intOf]; omega
      · have hdd : decide ((caskIn h (inOf pack k)).d ≤ day) = false := by simpa using hde
        have hs : Hid (sumB (earlyC day) h pack (k + 1) = sumB (earlyC day) h pack k) := Lib.hid (by rw [sumB, earlyC, if_neg hde]; omega)
        clear hde
        go_wp2_with (first
          | (go_at_call 63; refine (in_any pack (by omega) k A c _ (ints_later HI.out hb)).mono ?_; rintro e w2 ⟨⟨v, rfl, hown⟩, hb2⟩; obtain ⟨A2, c2, rfl, -, -, hI2⟩ := hown.lay; have x0 := below_cell hb2 g0; have x1 := below_cell hb2 g1; have x2 := below_cell hb2 g2; have x3 := below_cell hb2 g3)
          | (go_at_call 84; refine (HD.out A2 c2 _ (hb0to hb hb2) hI2.at_).mono ?_; rintro e w3 ⟨rfl, hb3⟩))
        go_roundw
        case rel => exact ⟨k + 1, by omega, by go_num, by rw [hs.out], hb0to hb (hb0to hb2 hb3), hB.of ((hb0to hb2 hb3).block _ hB.lt)⟩
        case measure => simp [intOf]; omega
    · obtain rfl : k = h.bs.length := by omega
      go_wp2
      go_ret
      exact ⟨rfl, hb⟩
end Go.Proofs.Ytgemmmdcpbajoaa
