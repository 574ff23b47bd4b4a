import Derived.Outline
import Derived.Laws.CopyOwn
import Derived.Laws.OwnMore
import Derived.OwnWalk
import Derived.IntWalk
import Derived.Test.YtgemmmdcpbajoaaS6
namespace Go.Proofs.Ytgemmmdcpbajoaa
open Go.RowKit

theorem upto6 {n : Nat} (h : n ≤ 6) : n = 0 ∨ n = 1 ∨ n = 2 ∨ n = 3 ∨ n = 4 ∨ n = 5 ∨ n = 6 := by omega
set_option maxRecDepth 100000 in
set_option maxHeartbeats 4000000 in
theorem mul64_any (n : Nat) (hn : n ≤ 6) (w : World) : Calls Try.prog 102 #[.int .u64 1, .int .u64 n] w fun e w' => e = .returned (.tuple #[.int .u64 0, .int .u64 n]) ∧ w = w' := by
  rcases upto6 hn with rfl | rfl | rfl | rfl | rfl | rfl | rfl
  all_goals
    clear hn
    go_enter Try.func102, Try.ntmps102
    go_wp2
    go_ret2
    exact ⟨rfl, rfl⟩
set_option maxRecDepth 100000 in
set_option maxHeartbeats 4000000 in
theorem mul_any (n : Nat) (hn : n ≤ 6) (w : World) : Calls Try.prog 100 #[.int .u64 1, .int .u64 n] w fun e w' => e = .returned (.tuple #[.int .u64 0, .int .u64 n]) ∧ w = w' := by
  go_enter Try.func100, Try.ntmps100
  go_wp2_with (go_at_call 102; refine (mul64_any n hn _).mono ?_; rintro e w' ⟨rfl, rfl⟩)
  go_ret2
  exact ⟨rfl, rfl⟩

theorem info3 : (Try.prog.info? 3).map (fun i => (i.zero, i.size, i.bytes)) = some (some (.int .i64 0), 1, 8) := by kernel_rfl
theorem size3 : (Try.prog.info? 3).map (·.size) = some 1 := by kernel_rfl
/-- 'make([]int, n)'. -/
theorem run_make24 (n : Nat) (hn : n ≤ 1000) (w : World) : (Instr.makeSlice 24 (.int .i64 n) (.int .i64 n)).run Try.prog w = .ok (.slice (some ⟨w.heap.size, 0, none⟩) n n) (w.alloc (.cells (List.replicate n (Value.int .i64 0)).toArray 3)) := by
  obtain ⟨i0, hi, hz0, hz1, hz2⟩ := info_parts info3
  have := run_make (P := Try.prog) w 24 3 i0 (.int .i64 0) Try.underlying24 hi hz0 .i64 .i64 n n (by omega) (Int.le_refl _) (by rw [hz2]; omega) (by omega)
  simp only [Int.toNat_natCast, hz1, Nat.mul_one] at this
  rw [this, ← toList_madeCells_one]
  rfl
theorem wpl_make24 {ops : Array Oper} {rest : List Oper} {o : Oper} {a : Act} {w : World} {Q : Exit → Act → World → Prop} (hgd : o.guard = none) (l : Operand) (ho : o.op = .makeSlice 24 l l) (n : Nat) (hl : a.eval l = .int .i64 n) (hn : n ≤ 1000)
    (h : wpList Try.prog ops Q rest (a.put o.dst (.slice (some ⟨w.heap.size, 0, none⟩) n n)) (w.alloc (.cells (List.replicate n (Value.int .i64 0)).toArray 3))) : wpList Try.prog ops Q (o :: rest) a w := by
  refine wpList_plain hgd fun K hK' => ?_
  have hrun := run_make24 n hn w
  unfold Oper.wp
  simp [execOp, ho, hl, hrun, Result.andThen]
  exact hK' _ _ h

/-- The row while slices.Repeat fills it. -/
def rowTo (f : Int) (m n : Nat) : List Value := List.replicate m (Value.int .i64 f) ++ List.replicate (n - m) (Value.int .i64 0)
theorem rowTo_len {f : Int} {m n : Nat} (h : m ≤ n) : (rowTo f m n).length = n := by simp [rowTo]; omega
theorem rowTo_splice {f : Int} {m n k : Nat} (_h : m + k ≤ n) : splice (rowTo f m n) m (List.replicate k (Value.int .i64 f)) = rowTo f (m + k) n := by
  unfold splice rowTo
  have e1 : (List.replicate m (Value.int .i64 f) ++ List.replicate (n - m) (Value.int .i64 0)).take m = List.replicate m (Value.int .i64 f) := by
    rw [List.take_append_of_le_length (by simp)]; simp
  have e2 : (List.replicate m (Value.int .i64 f) ++ List.replicate (n - m) (Value.int .i64 0)).drop (m + (List.replicate k (Value.int .i64 f)).length) = List.replicate (n - (m + k)) (Value.int .i64 0) := by
    rw [List.drop_append, List.drop_eq_nil_of_le (by simp)]; simp; omega
  rw [e1, e2, ← List.append_assoc, List.replicate_append_replicate]
set_option maxRecDepth 100000 in
set_option maxHeartbeats 4000000 in
theorem repeat_any (n : Nat) (hn : n ≤ 6) (b : Nat) (f : Int) (w : World) (hc : w.cell? ⟨b, 0, none⟩ = some (.int .i64 f)) :
    Calls Try.prog 95 #[.slice (some ⟨b, 0, none⟩) 1 1, .int .i64 n] w fun e w' => e = .returned (.slice (some ⟨w.heap.size, 0, none⟩) n n) ∧ Hid (w'.heap[w.heap.size]? = some (.cells (rowTo f n n).toArray 3 (0, 0))) ∧ Below w.heap.size w w' := by
  have hbl : b < w.heap.size := cell_lt hc
  have hbne : ¬ b = w.heap.size := by omega
  have hm := fun w => mul_any n hn w
  have HM := Lib.hid hm
  clear hm
  have hr0 : (w.alloc (.cells (List.replicate n (Value.int .i64 0)).toArray 3)).heap[w.heap.size]? = some (.cells (rowTo f 0 n).toArray 3 (0, 0)) := by
    have : rowTo f 0 n = List.replicate n (Value.int .i64 0) := by simp [rowTo]
    rw [this]; exact World.alloc_heap_new w _
  have HR := Lib.hid hr0
  clear hr0
  have hb0 : Below w.heap.size w (w.alloc (.cells (List.replicate n (Value.int .i64 0)).toArray 3)) := (Below.refl _ _).alloc (Nat.le_refl _) _
  have hc0 : (w.alloc (.cells (List.replicate n (Value.int .i64 0)).toArray 3)).cell? ⟨b, 0, none⟩ = some (.int .i64 f) := below_cell hb0 hc
  have hlt0 : (0 : Int) ≤ n := by omega
  have hz : ∀ (j : Nat) (v : Value), [Value.int .i64 f][j]? = some v → (w.alloc (.cells (List.replicate n (Value.int .i64 0)).toArray 3)).cell? ((⟨b, 0, none⟩ : Addr).add j) = some v := fun j v hj => by
    match j, hj with
    | 0, hj => simp at hj; subst hj; exact hc0
  have HZ := Lib.hid hz
  clear hz
  by_cases h0 : n = 0
  · have h1 : n ≤ 0 := by omega
    clear h0
    go_enter Try.func95, Try.ntmps95
    go_wp2_with (first
      | (go_at_call 100; refine (HM.out _).mono ?_; rintro e w' ⟨rfl, rfl⟩)
      | (refine wpl_make24 rfl (.tmp 29) rfl n rfl (by omega) ?_)
      | (refine wpList_copy_splice rfl (.tmp 31) (.tmp 32) 24 24 (by rfl) 3 Try.underlying24 size3 (some ⟨w.heap.size, 0, none⟩) (some ⟨b, 0, none⟩) n n 1 1 (by rfl) (by rfl) w.heap.size 0 (rowTo f 0 n) 3 HR.out [] (by show 0 = Nat.min 1 n; rw [show n = 0 by omega]; rfl) (fun h => absurd h (by simp)) (by simp) (by simp) w.heap.size w hb0 (Nat.le_refl _) ?_; intro W2 hg2 hb2))
    go_loopw [8] (fun i wr => i = .int .i64 0 ∧ Hid (wr.heap[w.heap.size]? = some (.cells (rowTo f n n).toArray 3 (0, 0))) ∧ Below w.heap.size w wr) (fun _ _ => 0)
    case atStart =>
      obtain rfl : n = 0 := by omega
      exact ⟨rfl, Lib.hid (by rw [hg2.out]; rfl), hb2⟩
    case round =>
      obtain ⟨rfl, hg3, hb3⟩ := hrel
      go_wp2
      go_ret
      exact ⟨rfl, hg3, hb3⟩
  · have h1 : 1 ≤ n := by omega
    clear h0
    go_enter Try.func95, Try.ntmps95
    go_wp2_with (first
      | (go_at_call 100; refine (HM.out _).mono ?_; rintro e w' ⟨rfl, rfl⟩)
      | (refine wpl_make24 rfl (.tmp 29) rfl n rfl (by omega) ?_)
      | (refine wpList_copy_splice rfl (.tmp 31) (.tmp 32) 24 24 (by rfl) 3 Try.underlying24 size3 (some ⟨w.heap.size, 0, none⟩) (some ⟨b, 0, none⟩) n n 1 1 (by rfl) (by rfl) w.heap.size 0 (rowTo f 0 n) 3 HR.out [.int .i64 f] (by simp [Nat.min_def]; omega) (fun _ => ⟨rfl, _, rfl, HZ.out⟩) (by rw [rowTo_len (by omega)]; exact h1) (by simp; rfl) w.heap.size w hb0 (Nat.le_refl _) ?_; intro W2 hg2 hb2))
    go_outline
    go_loopw [8] (fun i wr => ∃ m : Nat, 1 ≤ m ∧ m ≤ n ∧ i = .int .i64 m ∧ Hid (wr.heap[w.heap.size]? = some (.cells (rowTo f m n).toArray 3 (0, 0))) ∧ Below w.heap.size w wr) (fun i _ => n - (intOf i).toNat)
    case atStart => exact ⟨1, by omega, by omega, rfl, Lib.hid (by rw [hg2.out]; exact congrArg (fun l => some (Obj.cells (List.toArray l) 3 (0, 0))) (rowTo_splice (k := 1) (m := 0) (by omega))), hb2⟩
    case round =>
      obtain ⟨m, h2, hm, rfl, hg3, hb3⟩ := hrel
      obtain ⟨k, hkm⟩ : ∃ k, k = min m (n - m) := ⟨_, rfl⟩
      have hk1 : k ≤ m := by omega
      have hk2 : m + k ≤ n := by omega
      have HK := Lib.hid hkm
      have hwrap : IntKind.i64.wrap ((m : Int) + (k : Int)) = (m : Int) + k := IntWalk.i64_in _ (by omega)
      have hcell : ∀ (j : Nat) (v : Value), (List.replicate k (Value.int .i64 f))[j]? = some v → wr.cell? ((⟨w.heap.size, 0, none⟩ : Addr).add j) = some v := fun j v hj => by
        obtain ⟨hj1, hj2⟩ := List.getElem?_eq_some_iff.1 hj
        simp only [List.length_replicate] at hj1
        simp only [List.getElem_replicate] at hj2
        subst hj2
        rw [addr_add]
        have : (rowTo f m n)[j]? = some (Value.int .i64 f) := by
          unfold rowTo
          rw [List.getElem?_append_left (by rw [List.length_replicate]; omega), List.getElem?_replicate, if_pos (by omega)]
        simp [World.cell?, hg3.out, this]
      have HC := Lib.hid hcell
      clear hcell
      have hfr : ∀ o, wr.frozen? ⟨w.heap.size, o, none⟩ = false := fun o => by simp [World.frozen?, hg3.out]
      by_cases hlt : m < n
      · have hmn : (rowTo f m n).length = n := rowTo_len hm
        have HMN := Lib.hid hmn
        clear hmn
        have hnm : ¬ n = m := by omega
        have hk0 : 1 ≤ k := by omega
        clear hkm
        go_wp2
        go_region_law (refine step_copy_splice rfl (.tmp 41) (.tmp 44) 24 24 (by rfl) 3 Try.underlying24 size3 (some ⟨w.heap.size, m, none⟩) (some ⟨w.heap.size, 0, none⟩) (n - m) (n - m) m n (by simp [Act.eval, Act.put]) (by simp [Act.eval, Act.put]) w.heap.size m (rowTo f m n) 3 hg3.out (List.replicate k (Value.int .i64 f)) (by rw [List.length_replicate, HK.out]) (fun _ => ⟨rfl, _, rfl, HC.out⟩) (by rw [HMN.out, List.length_replicate]; omega) (by intro v hv; rw [List.eq_of_mem_replicate hv]; rfl) w.heap.size w hb3.drew (Nat.le_refl _) ?_; intro W4 hg4 hb4)
        all_goals
          simp only [Act.put, List.getElem_toArray, List.getElem_cons_succ, List.getElem_cons_zero, List.setIfInBounds_toArray, List.set_cons_succ, List.set_cons_zero]
          go_roundw
          case rel =>
            have hg6 : Hid (W4.heap[w.heap.size]? = some (.cells (rowTo f (m + k) n).toArray 3 (0, 0))) := Lib.hid (by rw [hg4.out, rowTo_splice (by omega)])
            (repeat apply Exists.intro)
            exact ⟨⟨m + k, by omega, by omega, by go_num, hg6, hb4⟩, rfl⟩
          case measure => simp [intOf]; omega
      · obtain rfl : m = n := by omega
        go_wp2
        go_ret
        exact ⟨rfl, hg3, hb3⟩
end Go.Proofs.Ytgemmmdcpbajoaa
