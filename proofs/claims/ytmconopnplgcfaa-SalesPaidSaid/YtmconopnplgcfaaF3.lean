import Derived.Test.YtmconopnplgcfaaF2
namespace Go.Proofs.Ytmconopnplgcfaa
open Go.RowKit

/-! Sets as bits. -/
theorem has_bit : ∀ m : Nat, m < 256 → ∀ i : Nat, i < 9 → (bits BinOp.and IntKind.i64 ((m : Int) / 2 ^ i) 1 == 1) = m.testBit i := by decide +kernel
theorem or_bits : ∀ m : Nat, m < 16 → ∀ i : Nat, i < 16 → bits BinOp.or IntKind.i64 (m : Int) (i : Int) = ((m ||| i : Nat) : Int) := by decide +kernel
theorem and_bits : ∀ m : Nat, m < 16 → ∀ i : Nat, i < 16 → bits BinOp.and IntKind.i64 (m : Int) (i : Int) = ((m &&& i : Nat) : Int) := by decide +kernel
theorem andnot_bits : ∀ m : Nat, m < 16 → ∀ i : Nat, i < 16 → bits BinOp.andNot IntKind.i64 (m : Int) (i : Int) = ((m &&& (15 - i) : Nat) : Int) := by decide +kernel
theorem or_bits8 : ∀ m : Nat, m < 256 → ∀ i : Nat, i < 8 → bits BinOp.or IntKind.i64 (m : Int) ((2 ^ i : Nat) : Int) = ((m ||| 2 ^ i : Nat) : Int) ∧ m ||| 2 ^ i < 256 := by decide +kernel
theorem has_end : ∀ m : Nat, m < 256 → ∀ i : Nat, i < 9 → ((m : Int) / 2 ^ i ≤ 0) → ∀ j : Nat, j < 8 → i ≤ j → m.testBit j = false := by decide +kernel
theorem has_more : ∀ m : Nat, m < 256 → ∀ i : Nat, i < 9 → (0 < (m : Int) / 2 ^ i) → i < 8 := by decide +kernel
set_option maxRecDepth 100000 in
theorem has_any (m i : Nat) (hm : m < 256) (hi : i < 9) (w : World) :
    Calls Try.prog 102 #[.int .i64 (m : Int), .int .i64 (i : Int)] w fun e w' => e = .returned (.bool (m.testBit i)) ∧ w = w' := by
  have h0 := has_bit m hm i hi
  go_enter Try.func102, Try.ntmps102
  go_wp2
  go_ret
  exact ⟨rfl, rfl⟩
/-- The numbers of a set. -/
def intsN (l : List Nat) : List Int := l.map fun i : Nat => (i : Int)
theorem intsN_app (l m : List Nat) : intsN (l ++ m) = intsN l ++ intsN m := by simp [intsN]
theorem intsN_len (l : List Nat) : (intsN l).length = l.length := by simp [intsN]
theorem intsN_at {l : List Nat} {k i : Nat} (h : l[k]? = some i) : (intsN l)[k]? = some (i : Int) := by simp [intsN, h]
theorem bits_end {m k : Nat} (h : ∀ j, j < 8 → k ≤ j → m.testBit j = false) (hk : k ≤ 8) : bitsL k m = bitsL 8 m := by
  have : ∀ d, k + d ≤ 8 → bitsL (k + d) m = bitsL k m := fun d => by
    induction d with
    | zero => intro _; rfl
    | succ d ih =>
      intro hd
      rw [show k + (d + 1) = (k + d) + 1 by omega, bits_succ, ih (by omega), h (k + d) (by omega) (by omega)]
      simp
  have := this (8 - k) (by omega)
  rw [show k + (8 - k) = 8 by omega] at this
  exact this.symm
set_option maxRecDepth 100000 in
set_option maxHeartbeats 4000000 in
theorem list_any (m : Nat) (hm : m < 256) (w : World) :
    Calls Try.prog 69 #[.int .i64 (m : Int)] w fun e w' => RowRet (intsN (bitsL 8 m)) w.heap.size w' e ∧ Below w.heap.size w w' := by
  go_enter Try.func69, Try.ntmps69
  go_wp2
  go_loopw [3, 4] (fun s i wr => ∃ k : Nat, k ≤ 8 ∧ i = .int .i64 k ∧ Ints wr w.heap.size s (intsN (bitsL k m)) ∧ Below w.heap.size w wr) (fun _ i _ => 9 - (intOf i).toNat)
  case atStart => exact ⟨0, by omega, rfl, by simpa [bitsL, intsN] using ints_nil w w.heap.size, Below.refl _ _⟩
  case round =>
    obtain ⟨k, hk, rfl, hown, hb⟩ := hrel
    have hsz := hb.size
    have hlen := bits_len k m
    rw [← intsN_len] at hlen
    by_cases hlt : 0 < (m : Int) / 2 ^ k
    · have hk8 := has_more m hm k (by omega) hlt
      have hd1 : decide (0 < (m : Int) / 2 ^ k) = true := by simpa using hlt
      cases hbit : m.testBit k
      · have HY : Hid (bitsL (k + 1) m = bitsL k m) := Lib.hid (by rw [bits_succ, hbit]; simp)
        clear hlt
        go_wp2_with (go_at_call 102; refine (has_any m k hm (by omega) _).mono ?_; rintro e w' ⟨rfl, rfl⟩)
        go_roundw
        case rel => exact ⟨k + 1, by omega, by go_num, by rw [HY.out]; exact hown, hb⟩
        case measure => simp [intOf]; omega
      · have HY : Hid (intsN (bitsL (k + 1) m) = intsN (bitsL k m) ++ [(k : Int)]) := Lib.hid (by rw [bits_succ, hbit, if_pos rfl, intsN_app]; rfl)
        clear hlt
        go_wp2_with (first
          | (refine wpl_app rfl (.tmp 14) (.tmp 16) rfl w.heap.size w.heap.size _ (intsN (bitsL k m)) k rfl (hown.alloc _) ⟨wr.heap.size, 0, none⟩ 1 rfl (by simp [go_sem]) (by omega) (by simp; omega) (Nat.le_refl _) ?_; intro v' w' hown' hb')
          | (go_at_call 102; refine (has_any m k hm (by omega) _).mono ?_; rintro e w' ⟨rfl, rfl⟩))
        go_roundw
        case rel => exact ⟨k + 1, by omega, by go_num, by rw [HY.out]; exact hown', hb.trans (((Below.refl _ _).alloc hsz _).trans hb')⟩
        case measure => simp [intOf]; omega
    · have hd1 : decide (0 < (m : Int) / 2 ^ k) = false := by simpa using hlt
      have HE := Lib.hid (bits_end (has_end m hm k (by omega) (by omega)) hk)
      clear hlt
      go_wp2
      go_ret
      exact ⟨⟨_, rfl, by rw [← HE.out]; exact hown⟩, hb⟩
end Go.Proofs.Ytmconopnplgcfaa
