import Derived.Test.YtmconopnplgcfaaF9
import Derived.OwnWalkIn
import Derived.TacticsInMore
import Derived.LoopNIn
import Derived.LoopIn
namespace Go.Proofs.Ytmconopnplgcfaa
open Go.RowKit

attribute [local go_sem] Oper.semAt_some
/-! The iterator sales 105. -/
theorem shl8 : ∀ i : Nat, i < 9 → wrap64 (2 ^ i) = ((2 ^ i : Nat) : Int) := by decide +kernel
def SeesN (q : List Bid) (_ : Nat) (x : Nat) (args : Array Value) (_ : World) : Prop := args = #[.int .i64 (x : Int), .int .i64 (bringsL q (bitsL q.length x))]
set_option maxRecDepth 100000 in
set_option maxHeartbeats 4000000 in
theorem sales_makes (n : Nat) (F : FL) (f : Fair) (hf : FOK f) (rd : List Int) (b : Nat) (w0 w : World) (hO : OpenAt w0 b F f rd) (hb0 : Below w0.heap.size w0 w) (S : Nat → Prop) (hS : ∀ k, S k → w0.heap.size ≤ k ∧ k < w.heap.size) :
    SeqMakes Fence.wide n Try.prog 105 #[.pointer (some ⟨b, 0, none⟩)] #[] S (SeesN f.q) (setsL f.q rd) w := by
  intro l J Jx W hbW hJ hJx hY h0
  have HSK := Lib.hid (show ∀ k, (S k ∨ Seg w.heap.size W.heap.size k) → w0.heap.size ≤ k from fun k hk => by
    rcases hk with hk | hk
    · exact (hS k hk).1
    · have := hk.1; have := hb0.size; omega)
  have HO := Lib.hid hO
  have hbw := hb0to hb0 hbW
  have HBW := Lib.hid hbw
  have HJ := Lib.hid hJ
  have HY := Lib.hid hY
  have H0 := Lib.hid h0
  have HF := Lib.hid hf
  have hql := hf.ql
  obtain ⟨N, hN⟩ : ∃ N, N = 2 ^ f.q.length := ⟨_, rfl⟩
  have hNw : wrap64 (2 ^ f.q.length) = (N : Int) := by rw [shl8 _ (by omega), hN]
  have hN8 : N ≤ 256 := by rw [hN]; exact pow_eight hql
  obtain ⟨A, cl, u, hOB, _, _⟩ := (hO.below hbw).ex
  obtain ⟨_, _, _, _, _, _, _, _, g8, _⟩ := hOB.cells
  have HN := Lib.hid hN
  have HNW := Lib.hid hNw
  clear hO hb0 hbw hJ hJx hY h0 hf hOB hS hbW hN hNw
  refine callsIn_of_wp Try.func105 rfl trivial ?_ rfl
  simp only [Try.ntmps105, List.size_toArray, List.length_cons, List.length_nil, Nat.reduceAdd, Nat.reduceSub, Array.replicate_succ, Array.replicate_zero, List.push_toArray, List.append_toArray, List.nil_append, List.cons_append]
  gi_wp2_with (fail)
  rw [HNW.out]
  clear HNW
  gi_loopw [12] (fun i wr => ∃ k : Nat, k ≤ N ∧ i = .int .i64 k ∧ Hid (J (setsTo f.q rd k) wr) ∧ Hid (Below w0.heap.size w0 wr) ∧ Hid (W.heap.size ≤ wr.heap.size)) (fun i _ => N - (intOf i).toNat)
  case atStart => exact ⟨0, Nat.zero_le _, rfl, Lib.hid H0.out, HBW, Lib.hid (Nat.le_refl _)⟩
  case round =>
    obtain ⟨k, hk, rfl, hJk, hb, hsz⟩ := hrel
    by_cases hlt : k < N
    · have H91 := Lib.hid (brings_any F f HF.out rd b k (by rw [← HN.out]; exact hlt) wr (HO.out.below hb.out))
      have HT := Lib.hid (setsTo_succ f.q rd k)
      have HPR := Lib.hid (show setsTo f.q rd (k + 1) <+: setsL f.q rd from by
        have := setsTo_pre f.q rd (show k + 1 ≤ N by omega)
        rw [HN.out] at this; exact this)
      cases hs : saleB f.q rd (bitsL f.q.length k)
      · rw [show brV f.q rd (bitsL f.q.length k) = -1 by unfold brV; rw [hs]; rfl] at H91
        rw [hs] at HT
        clear hs
        gi_wp2_with (refine ⟨trivial, (fun h => by cases h), ?_⟩; gi_at_call 91; refine (CallsIn.mono (callsIn_wide.2 H91.out) ?_); rintro e W1 ⟨rfl, hb1⟩; have HB1 := Lib.hid hb1; clear hb1)
        refine ⟨fun _ h => (by cases h), ?_⟩
        gi_wp2_with (fail)
        go_roundw
        case rel => exact ⟨k + 1, by omega, by go_num, Lib.hid (by rw [HT.out]; simp only [Bool.false_eq_true, if_false, List.append_nil]; exact HJ.out _ _ _ hsz.out hJk.out HB1.out), Lib.hid (hb0to hb.out HB1.out), Lib.hid (Nat.le_trans hsz.out HB1.out.size)⟩
        case measure => simp [intOf]; omega
      · have hsl := saleB_iff.1 hs
        rw [brV_yes hsl] at H91
        rw [hs, if_pos rfl] at HT
        have hz0 := brings_nonneg HF.out.pos (bitsL f.q.length k)
        have hY2 := fun X (h1 : W.heap.size ≤ X.heap.size) (h2 : J (setsTo f.q rd k) X) => HY.out (setsTo f.q rd k) k #[.int .i64 (k : Int), .int .i64 (bringsL f.q (bitsL f.q.length k))] X h1 h2 rfl (by rw [← HT.out]; exact HPR.out)
        rw [← HT.out] at hY2
        have HY2 := Lib.hid hY2
        clear hs hsl hY2
        obtain ⟨z, hz⟩ : ∃ z, z = bringsL f.q (bitsL f.q.length k) := ⟨_, rfl⟩
        rw [← hz] at H91 hz0 HY2
        clear hz
        have hd : decide (0 ≤ z) = true := decide_eq_true hz0
        gi_wp2_with (refine ⟨trivial, (fun h => by cases h), ?_⟩; gi_at_call 91; refine (CallsIn.mono (callsIn_wide.2 H91.out) ?_); rintro e W1 ⟨rfl, hb1⟩; have HB1 := Lib.hid hb1; clear hb1; obtain ⟨fn, tmps, assign, body, hy, hR⟩ := HY2.out W1 (Nat.le_trans hsz.out HB1.out.size) (HJ.out _ _ _ hsz.out hJk.out HB1.out); have HR := Lib.hid hR; clear hR)
        refine ⟨(fun h => by cases h), HR.out.mono ?_⟩
        clear HR hy
        rintro e X' ⟨hk2, (⟨rfl, hj2⟩ | ⟨rfl, hj2⟩)⟩
        · have HJ2 := Lib.hid hj2
          have HK2 := Lib.hid hk2
          clear hj2 hk2
          gi_wp2_with (fail)
          go_roundw
          case rel => exact ⟨k + 1, by omega, by go_num, HJ2, Lib.hid ((hb0to hb.out HB1.out).trans (HK2.out.belowOf (hb0to hb.out HB1.out).size HSK.out)), Lib.hid (Nat.le_trans hsz.out (Nat.le_trans HB1.out.size HK2.out.size))⟩
          case measure => simp [intOf]; omega
        · have HJ2 := Lib.hid hj2
          have HK2 := Lib.hid hk2
          clear hj2 hk2
          gi_wp2_with (fail)
          refine bodyPost_ret (results_none rfl _ _ _) rfl ?_
          exact ⟨⟨_, rfl⟩, Nat.le_trans hsz.out (Nat.le_trans HB1.out.size HK2.out.size), .inr ⟨_, HPR.out, HJ2.out⟩⟩
    · obtain rfl : k = N := by omega
      have HJN := Lib.hid hJk.out
      rw [HN.out] at HJN
      gi_wp2_with (fail)
      go_end0
      exact ⟨⟨_, rfl⟩, hsz.out, .inl HJN.out⟩

end Go.Proofs.Ytmconopnplgcfaa
