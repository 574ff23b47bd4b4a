import Derived.Test.YtmconopnplgcfaaF3
namespace Go.Proofs.Ytmconopnplgcfaa
open Go.RowKit

/-! What is ready. -/
def dOK (h : House) (pack : List Int) (day : Int) (b : Int) : Bool := decide ((caskOf (packedC h pack) b.toNat).d ≤ day)
theorem one_shl : ∀ i : Nat, i < 8 → wrap64 (2 ^ i) = ((1 <<< i : Nat) : Int) := by decide +kernel
theorem shl_lt : ∀ i : Nat, i < 4 → 1 <<< i < 16 := by decide +kernel
set_option maxRecDepth 100000 in
set_option maxHeartbeats 4000000 in
theorem ready_any (F : FL) (f : Fair) (hn : FN f) (hv : validH f.h = true) (pack : List Int) (hg : goodB f.h pack = true) (A : Option Addr) (c : Nat) (day : Int) (w : World) (hF : FairAt w w.heap.size F f) (hP : IntsAt w w.heap.size A pack) :
    Calls Try.prog 98 #[F.enc f, .slice A pack.length c, .int .i64 day] w fun e w' => (∃ u : Nat, e = .returned (.int .i64 u) ∧ MaskOf (pack.filter (dOK f.h pack day)) u) ∧ Below w.heap.size w w' := by
  have hpl := (goodB_parts hg).1
  have hpr := (goodB_parts hg).2.1
  have hb4 := (HOK.ofValid hv).bl
  have hps := (HOK.ofValid hv).pl
  have HRG := Lib.hid hpr
  have HV := Lib.hid hv
  have HG := Lib.hid hg
  have HN := Lib.hid hn
  have HF := Lib.hid hF
  have HP := Lib.hid hP
  have HB := Lib.hid (FBox.new w F f)
  have hp6 : pack.length ≤ 6 := by omega
  clear hn hF hP hpl hpr hv hg hps
  obtain ⟨L, Ap, cp, Aq, cq⟩ := F
  go_enter Try.func98, Try.ntmps98
  go_wp2
  go_loopw [6, 15] (fun s i wr => ∃ k : Nat, k ≤ pack.length ∧ i = .int .i64 k ∧ (∃ u : Nat, s = .int .i64 u ∧ MaskOf ((pack.take k).filter (dOK f.h pack day)) u) ∧ Below w.heap.size w wr ∧ FBox wr w.heap.size ⟨L, Ap, cp, Aq, cq⟩ f) (fun _ i _ => pack.length - (intOf i).toNat)
  case atStart => exact ⟨0, Nat.zero_le _, rfl, ⟨0, rfl, MaskOf.nil⟩, (Below.refl _ _).alloc (Nat.le_refl _) _, HB.out⟩
  case round =>
    obtain ⟨k, hk, rfl, ⟨u, rfl, hu⟩, hb, hB⟩ := hrel
    have hsz := hb.size
    by_cases hlt : k < pack.length
    · obtain ⟨x, hx⟩ : ∃ x, pack[k]? = some x := ⟨_, List.getElem?_eq_getElem hlt⟩
      obtain ⟨b1, o1, eA, b1lt, d1⟩ := HP.out.at_ hx
      subst eA
      have e1 := below_cell hb d1
      have hxr := HRG.out x (List.mem_of_getElem? hx)
      obtain ⟨xn, rfl⟩ := Int.eq_ofNat_of_zero_le hxr.1
      have hxn : xn < 4 := by omega
      obtain ⟨g0, g1, g2, g3, g4, g5, g6, g7⟩ := hB.cells
      have hlt0 : w.heap.size < wr.heap.size := hB.lt
      have hFW := HF.out.below hb
      have h1 := barrel_any L f.h HN.out.h pack (by omega) xn (some ⟨b1, o1, none⟩) c wr (hFW.h) (HP.out.keep hsz fun _ _ hlt => hb.cell (p := ⟨_, _, none⟩) hlt)
      have hbr : barrelRet f.h pack xn = ((caskOf (packedC f.h pack) xn).p, saltC f.h.fl (caskOf (packedC f.h pack) xn), (caskOf (packedC f.h pack) xn).d, 0) := by
        rw [barrelRet, if_neg (by simp [HV.out]), if_neg (by simp [HG.out, inR]; omega)]; rfl
      rw [hbr] at h1
      have H1 := Lib.hid h1
      have HXX := Lib.hid hx
      have HBR := Lib.hid hB
      have ht : Hid (pack.take (k + 1) = pack.take k ++ [(xn : Int)]) := Lib.hid (take_snoc_next hx).symm
      have HSH := Lib.hid (one_shl xn (by omega))
      have HOR := Lib.hid (or_bits u hu.lt (1 <<< xn) (shl_lt xn hxn))
      have HU := Lib.hid hu
      clear hx d1 hxr h1 hbr hFW g4 g5 g6 g7 hB hu
      cases hd : decide ((caskOf (packedC f.h pack) xn).d ≤ day)
      · have HNO : Hid (dOK f.h pack day xn = false) := Lib.hid (by simpa [dOK] using hd)
        go_wp2_with (go_at_call 118; refine H1.out.mono ?_; rintro e W1 ⟨rfl, hb1⟩; have HB1 := Lib.hid hb1; clear hb1)
        go_roundw
        case rel => exact ⟨k + 1, by omega, by go_num, ⟨u, rfl, by rw [ht.out, List.filter_append, List.filter_cons_of_neg (by simp [HNO.out])]; simpa using HU.out⟩, hb0to hb HB1.out, HBR.out.below HB1.out⟩
        case measure => simp [intOf]; omega
      · have HYES : Hid (dOK f.h pack day xn = true) := Lib.hid (by simpa [dOK] using hd)
        go_wp2_with (go_at_call 118; refine H1.out.mono ?_; rintro e W1 ⟨rfl, hb1⟩; have HB1 := Lib.hid hb1; clear hb1)
        go_roundw
        case rel => exact ⟨k + 1, by omega, by go_num, ⟨u ||| (1 <<< xn), congrArg _ (by rw [HSH.out, HOR.out]), by rw [ht.out, List.filter_append, List.filter_cons_of_pos HYES.out]; exact HU.out.snoc hxn⟩, hb0to hb HB1.out, HBR.out.below HB1.out⟩
        case measure => simp [intOf]; omega
    · obtain rfl : k = pack.length := by omega
      rw [List.take_length] at hu
      go_wp2
      go_ret
      exact ⟨⟨u, rfl, hu⟩, hb⟩
end Go.Proofs.Ytmconopnplgcfaa
