import Derived.Test.YtmconopnplgcfaaF2
namespace Go.Proofs.Ytmconopnplgcfaa
open Go.RowKit

/-! Sets as bits. -/
theorem has_bit : ∀ m : Nat, m < 256 → ∀ i : Nat, i < 9 → (bits BinOp.and IntKind.i64 ((m : Int) / 2 ^ i) 1 == 1) = m.testBit i := by decide +kernel
theorem or_bits : ∀ m : Nat, m < 16 → ∀ i : Nat, i < 16 → bits BinOp.or IntKind.i64 (m : Int) (i : Int) = ((m ||| i : Nat) : Int) := by decide +kernel
theorem and_bits : ∀ m : Nat, m < 16 → ∀ i : Nat, i < 16 → bits BinOp.and IntKind.i64 (m : Int) (i : Int) = ((m &&& i : Nat) : Int) := by decide +kernel
theorem andnot_bits : ∀ m : Nat, m < 16 → ∀ i : Nat, i < 16 → bits BinOp.andNot IntKind.i64 (m : Int) (i : Int) = ((m &&& (15 - i) : Nat) : Int) := by decide +kernel
theorem or_bits8 : ∀ m : Nat, m < 256 → ∀ i : Nat, i < 8 → bits BinOp.or IntKind.i64 (m : Int) ((2 ^ i : Nat) : Int) = ((m ||| 2 ^ i : Nat) : Int) ∧ m ||| 2 ^ i < 256 := by decide +kernel
theorem has_end : ∀ m : Nat, m < 256 → ∀ i : Nat, i < 9 → ((m : Int) / 2 ^ i ≤ 0) → ∀ j : Nat, j < 8 → i ≤ j → m.testBit j = false := by decide +kernel
theorem has_more : ∀ m : Nat, m < 256 → ∀ i : Nat, i < 9 → (0 < (m : Int) / 2 ^ i) → i < 8 := by decide +kernel
set_option maxRecDepth 100000 in
theorem has_any (m i : Nat) (hm : m < 256) (hi : i < 9) (w : World) :
    Calls Try.prog 102 #[.int .i64 (m : Int), .int .i64 (i : Int)] w fun e w' => e = .returned (.bool (m.testBit i)) ∧ w = w' := by
  have h0 := has_bit m hm i hi
  go_enter Try.func102, Try.ntmps102
  go_wp2
  go_ret
  exact ⟨rfl, rfl⟩
/-- The numbers of a set. -/
def intsN (l : List Nat) : List Int := l.map fun i : Nat => (i : Int)
theorem intsN_app (l m : List Nat) : intsN (l ++ m) = intsN l ++ intsN m := by simp [intsN]
theorem intsN_len (l : List Nat) : (intsN l).length = l.length := by simp [intsN]
theorem intsN_at {l : List Nat} {k i : Nat} (h : l[k]? = some i) : (intsN l)[k]? = some (i : Int) := by simp [intsN, h]
theorem bits_end {m k : Nat} (h : ∀ j, j < 8 → k ≤ j → m.testBit j = false) (hk : k ≤ 8) : bitsL k m = bitsL 8 m := by
  have : ∀ d, k + d ≤ 8 → bitsL (k + d) m = bitsL k m := fun d => by
    induction d with
    | zero => intro _; rfl
    | succ d ih =>
      intro hd
      rw [show k + (d + 1) = (k + d) + 1 by omega, bits_succ, ih (by omega), h (k + d) (by omega) (by omega)]
      simp
  have := this (8 - k) (by omega)
  rw [show k + (8 - k) = 8 by omega] at this
  exact this.symm
set_option maxRecDepth 100000 in
set_option maxHeartbeats 4000000 in
theorem list_any (m : Nat) (hm : m < 256) (w : World) :
    Calls Try.prog 69 #[.int .i64 (m : Int)] w fun e w' => RowRet (intsN (bitsL 8 m)) w.heap.size w' e ∧ Below w.heap.size w w' := by
  go_enter Try.func69, Try.ntmps69
  go_wp2
  go_loopw [3, 4] (fun s i wr => ∃ k : Nat, k ≤ 8 ∧ i = .int .i64 k ∧ Ints wr w.heap.size s (intsN (bitsL k m)) ∧ Below w.heap.size w wr) (fun _ i _ => 9 - (intOf i).toNat)
  case atStart => exact ⟨0, by omega, rfl, by simpa [bitsL, intsN] using ints_nil w w.heap.size, Below.refl _ _⟩
  case round =>
    obtain ⟨k, hk, rfl, hown, hb⟩ := hrel
    have hsz := hb.size
    have hlen := bits_len k m
    rw [← intsN_len] at hlen
    by_cases hlt : 0 < (m : Int) / 2 ^ k
    · have hk8 := has_more m hm k (by omega) hlt
      have hd1 : decide (0 < (m : Int) / 2 ^ k) = true := by simpa using hlt
      cases hbit : m.testBit k
      · have HY : Hid (bitsL (k + 1) m = bitsL k m) := Lib.hid (by rw [bits_succ, hbit]; simp)
        clear hlt
        go_wp2_with (go_at_call 102; refine (has_any m k hm (by omega) _).mono ?_; rintro e w' ⟨rfl, rfl⟩)
        go_roundw
        case rel => exact ⟨k + 1, by omega, by go_num, by rw [HY.out]; exact hown, hb⟩
        case measure => simp [intOf]; omega
      · have HY : Hid (intsN (bitsL (k + 1) m) = intsN (bitsL k m) ++ [(k : Int)]) := Lib.hid (by rw [bits_succ, hbit, if_pos rfl, intsN_app]; rfl)
        clear hlt
        go_wp2_with (first
          | (refine wpl_app rfl (.tmp 14) (.tmp 16) rfl w.heap.size w.heap.size _ (intsN (bitsL k m)) k rfl (hown.alloc _) ⟨wr.heap.size, 0, none⟩ 1 rfl (by simp [go_sem]) (by omega) (by simp; omega) (Nat.le_refl _) ?_; intro v' w' hown' hb')
          | (go_at_call 102; refine (has_any m k hm (by omega) _).mono ?_; rintro e w' ⟨rfl, rfl⟩))
        go_roundw
        case rel => exact ⟨k + 1, by omega, by go_num, by rw [HY.out]; exact hown', hb.trans (((Below.refl _ _).alloc hsz _).trans hb')⟩
        case measure => simp [intOf]; omega
    · have hd1 : decide (0 < (m : Int) / 2 ^ k) = false := by simpa using hlt
      have HE := Lib.hid (bits_end (has_end m hm k (by omega) (by omega)) hk)
      clear hlt
      go_wp2
      go_ret
      exact ⟨⟨_, rfl, by rw [← HE.out]; exact hown⟩, hb⟩
end Go.Proofs.Ytmconopnplgcfaa
namespace Go.Proofs.Ytmconopnplgcfaa
open Go.RowKit

/-! What is ready. -/
def dOK (h : House) (pack : List Int) (day : Int) (b : Int) : Bool := decide ((caskOf (packedC h pack) b.toNat).d ≤ day)
theorem one_shl : ∀ i : Nat, i < 8 → wrap64 (2 ^ i) = ((1 <<< i : Nat) : Int) := by decide +kernel
theorem shl_lt : ∀ i : Nat, i < 4 → 1 <<< i < 16 := by decide +kernel
set_option maxRecDepth 100000 in
set_option maxHeartbeats 4000000 in
theorem ready_any (F : FL) (f : Fair) (hn : FN f) (hv : validH f.h = true) (pack : List Int) (hg : goodB f.h pack = true) (A : Option Addr) (c : Nat) (day : Int) (w : World) (hF : FairAt w w.heap.size F f) (hP : IntsAt w w.heap.size A pack) :
    Calls Try.prog 98 #[F.enc f, .slice A pack.length c, .int .i64 day] w fun e w' => (∃ u : Nat, e = .returned (.int .i64 u) ∧ MaskOf (pack.filter (dOK f.h pack day)) u) ∧ Below w.heap.size w w' := by
  have hpl := (goodB_parts hg).1
  have hpr := (goodB_parts hg).2.1
  have hb4 := (HOK.ofValid hv).bl
  have hps := (HOK.ofValid hv).pl
  have HRG := Lib.hid hpr
  have HV := Lib.hid hv
  have HG := Lib.hid hg
  have HN := Lib.hid hn
  have HF := Lib.hid hF
  have HP := Lib.hid hP
  have HB := Lib.hid (FBox.new w F f)
  have hp6 : pack.length ≤ 6 := by omega
  clear hn hF hP hpl hpr hv hg hps
  obtain ⟨L, Ap, cp, Aq, cq⟩ := F
  go_enter Try.func98, Try.ntmps98
  go_wp2
  go_loopw [6, 15] (fun s i wr => ∃ k : Nat, k ≤ pack.length ∧ i = .int .i64 k ∧ (∃ u : Nat, s = .int .i64 u ∧ MaskOf ((pack.take k).filter (dOK f.h pack day)) u) ∧ Below w.heap.size w wr ∧ FBox wr w.heap.size ⟨L, Ap, cp, Aq, cq⟩ f) (fun _ i _ => pack.length - (intOf i).toNat)
  case atStart => exact ⟨0, Nat.zero_le _, rfl, ⟨0, rfl, MaskOf.nil⟩, (Below.refl _ _).alloc (Nat.le_refl _) _, HB.out⟩
  case round =>
    obtain ⟨k, hk, rfl, ⟨u, rfl, hu⟩, hb, hB⟩ := hrel
    have hsz := hb.size
    by_cases hlt : k < pack.length
    · obtain ⟨x, hx⟩ : ∃ x, pack[k]? = some x := ⟨_, List.getElem?_eq_getElem hlt⟩
      obtain ⟨b1, o1, eA, b1lt, d1⟩ := HP.out.at_ hx
      subst eA
      have e1 := below_cell hb d1
      have hxr := HRG.out x (List.mem_of_getElem? hx)
      obtain ⟨xn, rfl⟩ := Int.eq_ofNat_of_zero_le hxr.1
      have hxn : xn < 4 := by omega
      obtain ⟨g0, g1, g2, g3, g4, g5, g6, g7⟩ := hB.cells
      have hlt0 : w.heap.size < wr.heap.size := hB.lt
      have hFW := HF.out.below hb
      have h1 := barrel_any L f.h HN.out.h pack (by omega) xn (some ⟨b1, o1, none⟩) c wr (hFW.h) (HP.out.keep hsz fun _ _ hlt => hb.cell (p := ⟨_, _, none⟩) hlt)
      have hbr : barrelRet f.h pack xn = ((caskOf (packedC f.h pack) xn).p, saltC f.h.fl (caskOf (packedC f.h pack) xn), (caskOf (packedC f.h pack) xn).d, 0) := by
        rw [barrelRet, if_neg (by simp [HV.out]), if_neg (by simp [HG.out, inR]; omega)]; rfl
      rw [hbr] at h1
      have H1 := Lib.hid h1
      have HXX := Lib.hid hx
      have HBR := Lib.hid hB
      have ht : Hid (pack.take (k + 1) = pack.take k ++ [(xn : Int)]) := Lib.hid (take_snoc_next hx).symm
      have HSH := Lib.hid (one_shl xn (by omega))
      have HOR := Lib.hid (or_bits u hu.lt (1 <<< xn) (shl_lt xn hxn))
      have HU := Lib.hid hu
      clear hx d1 hxr h1 hbr hFW g4 g5 g6 g7 hB hu
      cases hd : decide ((caskOf (packedC f.h pack) xn).d ≤ day)
      · have HNO : Hid (dOK f.h pack day xn = false) := Lib.hid (by simpa [dOK] using hd)
        go_wp2_with (go_at_call 118; refine H1.out.mono ?_; rintro e W1 ⟨rfl, hb1⟩; have HB1 := Lib.hid hb1; clear hb1)
        go_roundw
        case rel => exact ⟨k + 1, by omega, by go_num, ⟨u, rfl, by rw [ht.out, List.filter_append, List.filter_cons_of_neg (by simp [HNO.out])]; simpa using HU.out⟩, hb0to hb HB1.out, HBR.out.below HB1.out⟩
        case measure => simp [intOf]; omega
      · have HYES : Hid (dOK f.h pack day xn = true) := Lib.hid (by simpa [dOK] using hd)
        go_wp2_with (go_at_call 118; refine H1.out.mono ?_; rintro e W1 ⟨rfl, hb1⟩; have HB1 := Lib.hid hb1; clear hb1)
        go_roundw
        case rel => exact ⟨k + 1, by omega, by go_num, ⟨u ||| (1 <<< xn), congrArg _ (by rw [HSH.out, HOR.out]), by rw [ht.out, List.filter_append, List.filter_cons_of_pos HYES.out]; exact HU.out.snoc hxn⟩, hb0to hb HB1.out, HBR.out.below HB1.out⟩
        case measure => simp [intOf]; omega
    · obtain rfl : k = pack.length := by omega
      rw [List.take_length] at hu
      go_wp2
      go_ret
      exact ⟨⟨u, rfl, hu⟩, hb⟩
end Go.Proofs.Ytmconopnplgcfaa
