import Derived.Test.YtmbcpmnigggbaaaCL
namespace Go.Proofs.Ytmbcpmnigggbaaa.Cu
open Go.RowKit
attribute [local go_sem] Oper.semAt_some
/-- What TopHauled keeps of its arguments. -/
structure UMem (w : World) (t : List CP) (A1 : Option Addr) (s : Li.Sea) (Ap : Option Addr) (cp : Nat) (Ab : Option Addr) (cb : Nat) (A2 : Option Addr) (c2 : Nat) (x : List Int) (A3 : Option Addr) (c3 : Nat) (c : List Int) (W : World) : Prop where
  B : Below w.heap.size w W
  T : TableAt W W.heap.size A1 t
  H : Li.SeaAt W W.heap.size ⟨Ap, cp, Ab, cb⟩ s
  sx : Li.SBox W w.heap.size ⟨Ap, cp, Ab, cb⟩ s
  h : W.heap[w.heap.size + 1]? = some (.cells #[.slice A2 x.length c2, .slice A3 c.length c3] 46 (0, 0))
  i : IntsAt W W.heap.size A2 x
  j : Li.IntsAt W W.heap.size A3 c
/-- The boxes that it makes. -/
structure VMem (lo hi n : Int) (s : Li.Sea) (q q1 q2 : Nat) (Bp : Option Addr) (dp : Nat) (Bb : Option Addr) (db : Nat) (Dp : Option Addr) (ep : Nat) (Db : Option Addr) (eb : Nat) (W : World) : Prop where
  q : W.heap[q]? = some (.cells #[.int .i64 lo, .int .i64 hi] 35 (0, 0))
  O : Li.SeaAt W W.heap.size ⟨Bp, dp, Bb, db⟩ (Li.setW s lo hi)
  y : Li.SBox W q1 ⟨Bp, dp, Bb, db⟩ (Li.setW s lo hi)
  P : Li.SeaAt W W.heap.size ⟨Dp, ep, Db, eb⟩ (Li.setW s n n)
  z : Li.SBox W q2 ⟨Dp, ep, Db, eb⟩ (Li.setW s n n)
section
variable {w : World} {t : List CP} {A1 : Option Addr} {s : Li.Sea} {Ap : Option Addr} {cp : Nat} {Ab : Option Addr} {cb : Nat} {A2 : Option Addr} {c2 : Nat} {x : List Int} {A3 : Option Addr} {c3 : Nat} {c : List Int} {W : World}
theorem UMem.next (M : UMem w t A1 s Ap cp Ab cb A2 c2 x A3 c3 c W) {wn : World} (hb : Below W.heap.size W wn) : UMem w t A1 s Ap cp Ab cb A2 c2 x A3 c3 c wn :=
  ⟨hb0to M.B hb, M.T.lt hb, M.H.below hb, M.sx.of (hb.block _ M.sx.lt), (hb.block _ (heap_lt M.h)).trans M.h, ints_lt7 M.i hb, Li.ints_later M.j hb⟩
theorem UMem.cells (M : UMem w t A1 s Ap cp Ab cb A2 c2 x A3 c3 c W) : (W.cell? ⟨w.heap.size, 0, none⟩ = some (.int .i64 s.wl) ∧ W.cell? ⟨w.heap.size, 1, none⟩ = some (.int .i64 s.wh) ∧ W.cell? ⟨w.heap.size, 2, none⟩ = some (.slice Ap s.ps.length cp) ∧ W.cell? ⟨w.heap.size, 3, none⟩ = some (.slice Ab s.bs.length cb)) ∧
    W.cell? ⟨w.heap.size + 1, 0, none⟩ = some (.slice A2 x.length c2) ∧ W.cell? ⟨w.heap.size + 1, 1, none⟩ = some (.slice A3 c.length c3) := ⟨M.sx.cells, cell_of_heap M.h rfl, cell_of_heap M.h rfl⟩
variable {lo hi n : Int} {q q1 q2 : Nat} {Bp : Option Addr} {dp : Nat} {Bb : Option Addr} {db : Nat} {Dp : Option Addr} {ep : Nat} {Db : Option Addr} {eb : Nat}
theorem VMem.next (M : VMem lo hi n s q q1 q2 Bp dp Bb db Dp ep Db eb W) {wn : World} (hb : Below W.heap.size W wn) : VMem lo hi n s q q1 q2 Bp dp Bb db Dp ep Db eb wn :=
  ⟨(hb.block _ (heap_lt M.q)).trans M.q, M.O.below hb, M.y.of (hb.block _ M.y.lt), M.P.below hb, M.z.of (hb.block _ M.z.lt)⟩
theorem VMem.cells (M : VMem lo hi n s q q1 q2 Bp dp Bb db Dp ep Db eb W) : (W.cell? ⟨q, 0, none⟩ = some (.int .i64 lo) ∧ W.cell? ⟨q, 1, none⟩ = some (.int .i64 hi)) ∧ (W.cell? ⟨q1, 0, none⟩ = some (.int .i64 lo) ∧ W.cell? ⟨q1, 1, none⟩ = some (.int .i64 hi) ∧ W.cell? ⟨q1, 2, none⟩ = some (.slice Bp s.ps.length dp) ∧ W.cell? ⟨q1, 3, none⟩ = some (.slice Bb s.bs.length db)) ∧
    (W.cell? ⟨q2, 0, none⟩ = some (.int .i64 n) ∧ W.cell? ⟨q2, 1, none⟩ = some (.int .i64 n) ∧ W.cell? ⟨q2, 2, none⟩ = some (.slice Dp s.ps.length ep) ∧ W.cell? ⟨q2, 3, none⟩ = some (.slice Db s.bs.length eb)) := ⟨⟨cell_of_heap M.q rfl, cell_of_heap M.q rfl⟩, M.y.cells, M.z.cells⟩
end
theorem sumE_next (t : List CP) (x : List Int) (k : Nat) {p : CP} {z : Int} (hp : t[k]? = some p) (hz : x[k]? = some z) : sumE (eachA t) x (k + 1) = if p.of = -1 then sumE (eachA t) x k + z else sumE (eachA t) x k := by
  unfold sumE
  rw [sumF]
  unfold eachA
  rw [hp, List.getD_eq_getElem?_getD, hz]
  simp only [Option.getD_some]
  split <;> omega
theorem sumE_bd {t : List CP} {x : List Int} (hx : ∀ y ∈ x, 0 ≤ y ∧ y ≤ 30) : ∀ k : Nat, 0 ≤ sumE (eachA t) x k ∧ sumE (eachA t) x k ≤ 30 * (k : Int)
  | 0 => ⟨Int.le_refl _, by simp [sumE, sumF]⟩
  | k + 1 => by
    have ih := sumE_bd (t := t) hx k
    have h1 := getD_bd hx k
    have h2 : 0 ≤ eachA t k * x.getD k 0 ∧ eachA t k * x.getD k 0 ≤ x.getD k 0 := by
      unfold eachA
      split
      · omega
      · split <;> omega
    unfold sumE at ih ⊢
    rw [sumF]
    omega
set_option maxRecDepth 100000 in
set_option maxHeartbeats 4000000 in
theorem haul_law (A1 : Option Addr) (c1 : Nat) (t : List CP) (Ap : Option Addr) (cp : Nat) (Ab : Option Addr) (cb : Nat) (s : Li.Sea) (hok : Li.SLOK ⟨Ap, cp, Ab, cb⟩ s) (A2 : Option Addr) (c2 : Nat) (x : List Int) (A3 : Option Addr) (c3 : Nat) (c : List Int) (hA3 : A3 = none → c3 = 0 ∧ c = []) (hc3 : c.length ≤ c3) (w : World)
    (hT : TableAt w w.heap.size A1 t) (hH : Li.SeaAt w w.heap.size ⟨Ap, cp, Ab, cb⟩ s) (hI : IntsAt w w.heap.size A2 x) (hJ : Li.IntsAt w w.heap.size A3 c) :
    Calls Try.prog 4 #[.slice A1 t.length c1, .agg #[.int .i64 s.wl, .int .i64 s.wh, .slice Ap s.ps.length cp, .slice Ab s.bs.length cb], .agg #[.slice A2 x.length c2, .slice A3 c.length c3]] w fun e w' => e = .returned (.bool true) ∧ Below w.heap.size w w' := by
  have hb := hb0to (al_below w (.cells #[.int .i64 s.wl, .int .i64 s.wh, .slice Ap s.ps.length cp, .slice Ab s.bs.length cb] 44)) (al_below _ (.cells #[.slice A2 x.length c2, .slice A3 c.length c3] 46))
  have hx := heap_keep (o' := .cells #[.slice A2 x.length c2, .slice A3 c.length c3] 46) (heap_new1 w (.cells #[.int .i64 s.wl, .int .i64 s.wh, .slice Ap s.ps.length cp, .slice Ab s.bs.length cb] 44))
  have hy := heap_new2 w (.cells #[.int .i64 s.wl, .int .i64 s.wh, .slice Ap s.ps.length cp, .slice Ab s.bs.length cb] 44) (.cells #[.slice A2 x.length c2, .slice A3 c.length c3] 46)
  obtain ⟨W0, hW0⟩ : ∃ W0, (w.alloc (.cells #[.int .i64 s.wl, .int .i64 s.wh, .slice Ap s.ps.length cp, .slice Ab s.bs.length cb] 44)).alloc (.cells #[.slice A2 x.length c2, .slice A3 c.length c3] 46) = W0 := ⟨_, rfl⟩
  rw [hW0] at hb hx hy
  have M := Lib.hid (show UMem w t A1 s Ap cp Ab cb A2 c2 x A3 c3 c W0 from ⟨hb, hT.lt hb, hH.below hb, hx, hy, ints_lt7 hI hb, Li.ints_later hJ hb⟩)
  have HW0 := Lib.hid hW0
  have HA3 := Lib.hid hA3
  obtain ⟨⟨r0, r1, r2, r3⟩, r4, r5⟩ := M.out.cells
  clear hb hx hy hW0 hT hH hI hJ hA3
  by_cases h40 : 40 < t.length
  · have hd : decide ((40 : Int) < (t.length : Int)) = true := decide_eq_true (by omega)
    have hd' : (40 : Int) < (t.length : Int) := by omega
    go_enter Try.func4, Try.ntmps4
    go_upto_region 1 with (fail)
    have e := HW0.out
    rw [e]
    clear e HW0
    go_wp2_with (first
      | (go_at_call 19; refine (hauled_any _).mono ?_; rintro e w9 ⟨rfl, hb⟩; have MN := Lib.hid (M.out.next hb); clear M hb r0 r1 r2 r3 r4 r5; have M := MN; clear MN; obtain ⟨⟨r0, r1, r2, r3⟩, r4, r5⟩ := M.out.cells))
    go_ret
    exact ⟨rfl, M.out.B⟩
  have hd1 : decide ((40 : Int) < (t.length : Int)) = false := decide_eq_false (by omega)
  have hd1' : ¬ (40 : Int) < (t.length : Int) := by omega
  have H8 := Lib.hid (fun W hT => check7_any A1 c1 t (by omega) W hT)
  by_cases hck : chkT t = true
  rotate_left
  · rw [errT_no (Bool.eq_false_iff.2 hck)] at H8
    go_enter Try.func4, Try.ntmps4
    go_upto_region 1 with (fail)
    have e := HW0.out
    rw [e]
    clear e HW0
    go_wp2_with (first
      | (go_at_call 8; refine (H8.out W0 M.out.T).mono ?_; clear H8; rintro e w1 ⟨rfl, hb⟩; have MN := Lib.hid (M.out.next hb); clear M hb r0 r1 r2 r3 r4 r5; have M := MN; clear MN; obtain ⟨⟨r0, r1, r2, r3⟩, r4, r5⟩ := M.out.cells)
      | (go_at_call 19; refine (hauled_any _).mono ?_; rintro e w9 ⟨rfl, hb⟩; have MN := Lib.hid (M.out.next hb); clear M hb r0 r1 r2 r3 r4 r5; have M := MN; clear MN; obtain ⟨⟨r0, r1, r2, r3⟩, r4, r5⟩ := M.out.cells))
    go_ret
    exact ⟨rfl, M.out.B⟩
  rw [errT_yes hck] at H8
  have hOK := chkT_ok hck
  have H17 := Lib.hid (fun W => Li.far_any ⟨Ap, cp, Ab, cb⟩ s W)
  cases hf : Li.farB s
  rotate_left
  · rw [hf] at H17
    go_enter Try.func4, Try.ntmps4
    go_upto_region 1 with (fail)
    have e := HW0.out
    rw [e]
    clear e HW0
    go_wp2_with (first
      | (go_at_call 8; refine (H8.out W0 M.out.T).mono ?_; clear H8; rintro e w1 ⟨rfl, hb⟩; have MN := Lib.hid (M.out.next hb); clear M hb r0 r1 r2 r3 r4 r5; have M := MN; clear MN; obtain ⟨⟨r0, r1, r2, r3⟩, r4, r5⟩ := M.out.cells)
      | (go_at_call 17; refine (H17.out _).mono ?_; clear H17; rintro e w2 ⟨rfl, hb⟩; have MN := Lib.hid (M.out.next hb); clear M hb r0 r1 r2 r3 r4 r5; have M := MN; clear MN; obtain ⟨⟨r0, r1, r2, r3⟩, r4, r5⟩ := M.out.cells)
      | (go_at_call 19; refine (hauled_any _).mono ?_; rintro e w9 ⟨rfl, hb⟩; have MN := Lib.hid (M.out.next hb); clear M hb r0 r1 r2 r3 r4 r5; have M := MN; clear MN; obtain ⟨⟨r0, r1, r2, r3⟩, r4, r5⟩ := M.out.cells))
    go_ret
    exact ⟨rfl, M.out.B⟩
  rw [hf] at H17
  have hn : s.ps.length ≤ 40 ∧ s.bs.length ≤ 40 := by
    unfold Li.farB at hf
    rw [Bool.or_eq_false_iff, decide_eq_false_iff_not, decide_eq_false_iff_not] at hf
    omega
  have H18 := Lib.hid (fun W hW => Li.rcheck_any ⟨Ap, cp, Ab, cb⟩ s W hW)
  cases hv : Li.validS s
  · rw [show Li.ckS s = 50 by unfold Li.ckS; rw [hv]; rfl] at H18
    go_enter Try.func4, Try.ntmps4
    go_upto_region 1 with (fail)
    have e := HW0.out
    rw [e]
    clear e HW0
    go_wp2_with (first
      | (go_at_call 8; refine (H8.out W0 M.out.T).mono ?_; clear H8; rintro e w1 ⟨rfl, hb⟩; have MN := Lib.hid (M.out.next hb); clear M hb r0 r1 r2 r3 r4 r5; have M := MN; clear MN; obtain ⟨⟨r0, r1, r2, r3⟩, r4, r5⟩ := M.out.cells)
      | (go_at_call 17; refine (H17.out _).mono ?_; clear H17; rintro e w2 ⟨rfl, hb⟩; have MN := Lib.hid (M.out.next hb); clear M hb r0 r1 r2 r3 r4 r5; have M := MN; clear MN; obtain ⟨⟨r0, r1, r2, r3⟩, r4, r5⟩ := M.out.cells)
      | (go_at_call 18; refine (H18.out _ M.out.H).mono ?_; clear H18; rintro e w3 ⟨rfl, hb⟩; have MN := Lib.hid (M.out.next hb); clear M hb r0 r1 r2 r3 r4 r5; have M := MN; clear MN; obtain ⟨⟨r0, r1, r2, r3⟩, r4, r5⟩ := M.out.cells)
      | (go_at_call 19; refine (hauled_any _).mono ?_; rintro e w9 ⟨rfl, hb⟩; have MN := Lib.hid (M.out.next hb); clear M hb r0 r1 r2 r3 r4 r5; have M := MN; clear MN; obtain ⟨⟨r0, r1, r2, r3⟩, r4, r5⟩ := M.out.cells))
    go_ret
    exact ⟨rfl, M.out.B⟩
  rw [show Li.ckS s = 0 by unfold Li.ckS; rw [hv]; rfl] at H18
  by_cases hx40 : 40 < x.length
  · have hd : decide ((40 : Int) < (x.length : Int)) = true := decide_eq_true (by omega)
    have hd' : (40 : Int) < (x.length : Int) := by omega
    go_enter Try.func4, Try.ntmps4
    go_upto_region 1 with (fail)
    have e := HW0.out
    rw [e]
    clear e HW0
    go_wp2_with (first
      | (go_at_call 8; refine (H8.out W0 M.out.T).mono ?_; clear H8; rintro e w1 ⟨rfl, hb⟩; have MN := Lib.hid (M.out.next hb); clear M hb r0 r1 r2 r3 r4 r5; have M := MN; clear MN; obtain ⟨⟨r0, r1, r2, r3⟩, r4, r5⟩ := M.out.cells)
      | (go_at_call 17; refine (H17.out _).mono ?_; clear H17; rintro e w2 ⟨rfl, hb⟩; have MN := Lib.hid (M.out.next hb); clear M hb r0 r1 r2 r3 r4 r5; have M := MN; clear MN; obtain ⟨⟨r0, r1, r2, r3⟩, r4, r5⟩ := M.out.cells)
      | (go_at_call 18; refine (H18.out _ M.out.H).mono ?_; clear H18; rintro e w3 ⟨rfl, hb⟩; have MN := Lib.hid (M.out.next hb); clear M hb r0 r1 r2 r3 r4 r5; have M := MN; clear MN; obtain ⟨⟨r0, r1, r2, r3⟩, r4, r5⟩ := M.out.cells)
      | (go_at_call 19; refine (hauled_any _).mono ?_; rintro e w9 ⟨rfl, hb⟩; have MN := Lib.hid (M.out.next hb); clear M hb r0 r1 r2 r3 r4 r5; have M := MN; clear MN; obtain ⟨⟨r0, r1, r2, r3⟩, r4, r5⟩ := M.out.cells))
    go_ret
    exact ⟨rfl, M.out.B⟩
  have hd2 : decide ((40 : Int) < (x.length : Int)) = false := decide_eq_false (by omega)
  have hd2' : ¬ (40 : Int) < (x.length : Int) := by omega
  by_cases hc40 : 40 < c.length
  · have hd : decide ((40 : Int) < (c.length : Int)) = true := decide_eq_true (by omega)
    have hd' : (40 : Int) < (c.length : Int) := by omega
    go_enter Try.func4, Try.ntmps4
    go_upto_region 1 with (fail)
    have e := HW0.out
    rw [e]
    clear e HW0
    go_wp2_with (first
      | (go_at_call 8; refine (H8.out W0 M.out.T).mono ?_; clear H8; rintro e w1 ⟨rfl, hb⟩; have MN := Lib.hid (M.out.next hb); clear M hb r0 r1 r2 r3 r4 r5; have M := MN; clear MN; obtain ⟨⟨r0, r1, r2, r3⟩, r4, r5⟩ := M.out.cells)
      | (go_at_call 17; refine (H17.out _).mono ?_; clear H17; rintro e w2 ⟨rfl, hb⟩; have MN := Lib.hid (M.out.next hb); clear M hb r0 r1 r2 r3 r4 r5; have M := MN; clear MN; obtain ⟨⟨r0, r1, r2, r3⟩, r4, r5⟩ := M.out.cells)
      | (go_at_call 18; refine (H18.out _ M.out.H).mono ?_; clear H18; rintro e w3 ⟨rfl, hb⟩; have MN := Lib.hid (M.out.next hb); clear M hb r0 r1 r2 r3 r4 r5; have M := MN; clear MN; obtain ⟨⟨r0, r1, r2, r3⟩, r4, r5⟩ := M.out.cells)
      | (go_at_call 19; refine (hauled_any _).mono ?_; rintro e w9 ⟨rfl, hb⟩; have MN := Lib.hid (M.out.next hb); clear M hb r0 r1 r2 r3 r4 r5; have M := MN; clear MN; obtain ⟨⟨r0, r1, r2, r3⟩, r4, r5⟩ := M.out.cells))
    go_ret
    exact ⟨rfl, M.out.B⟩
  have hd3 : decide ((40 : Int) < (c.length : Int)) = false := decide_eq_false (by omega)
  have hd3' : ¬ (40 : Int) < (c.length : Int) := by omega
  have H9 := Lib.hid (fun W hT hI => isTruth_any A1 c1 t hOK A2 c2 x (by omega) W hT hI)
  by_cases htr : Truth t x
  rotate_left
  · have HTR := Lib.hid htr
    go_enter Try.func4, Try.ntmps4
    go_upto_region 1 with (fail)
    have e := HW0.out
    rw [e]
    clear e HW0
    go_wp2_with (first
      | (go_at_call 8; refine (H8.out W0 M.out.T).mono ?_; clear H8; rintro e w1 ⟨rfl, hb⟩; have MN := Lib.hid (M.out.next hb); clear M hb r0 r1 r2 r3 r4 r5; have M := MN; clear MN; obtain ⟨⟨r0, r1, r2, r3⟩, r4, r5⟩ := M.out.cells)
      | (go_at_call 17; refine (H17.out _).mono ?_; clear H17; rintro e w2 ⟨rfl, hb⟩; have MN := Lib.hid (M.out.next hb); clear M hb r0 r1 r2 r3 r4 r5; have M := MN; clear MN; obtain ⟨⟨r0, r1, r2, r3⟩, r4, r5⟩ := M.out.cells)
      | (go_at_call 18; refine (H18.out _ M.out.H).mono ?_; clear H18; rintro e w3 ⟨rfl, hb⟩; have MN := Lib.hid (M.out.next hb); clear M hb r0 r1 r2 r3 r4 r5; have M := MN; clear MN; obtain ⟨⟨r0, r1, r2, r3⟩, r4, r5⟩ := M.out.cells)
      | (go_at_call 9; refine (H9.out _ M.out.T M.out.i).mono ?_; clear H9; rintro e w4 ⟨bt, rfl, hbt, hb⟩; have MN := Lib.hid (M.out.next hb); clear M hb r0 r1 r2 r3 r4 r5; have M := MN; clear MN; obtain ⟨⟨r0, r1, r2, r3⟩, r4, r5⟩ := M.out.cells; obtain rfl : bt = false := Bool.eq_false_iff.2 (fun h => HTR.out (hbt.1 h)); clear hbt)
      | (go_at_call 19; refine (hauled_any _).mono ?_; rintro e w9 ⟨rfl, hb⟩; have MN := Lib.hid (M.out.next hb); clear M hb r0 r1 r2 r3 r4 r5; have M := MN; clear MN; obtain ⟨⟨r0, r1, r2, r3⟩, r4, r5⟩ := M.out.cells))
    go_ret
    exact ⟨rfl, M.out.B⟩
  clear h40 hx40 hck
  have HTR := Lib.hid htr
  have HOK := Lib.hid hOK
  obtain ⟨g1, g2, g3, g4, g5⟩ := whole_facts hOK htr
  have H20 := Lib.hid (fun W hT => whole_any A1 c1 t hOK W hT g3)
  obtain ⟨lo, hlo⟩ : ∃ lo, lowF t (eachA t) = lo := ⟨_, rfl⟩
  obtain ⟨hi, hhi⟩ : ∃ hi, highF t (eachA t) = hi := ⟨_, rfl⟩
  rw [hlo] at g1 g2 g3 H20
  rw [hhi] at g4 g5 H20
  have hsb := sumE_bd (t := t) htr.p.r t.length
  have HXL := Lib.hid htr.p.n
  have HXR := Lib.hid htr.p.r
  have htl := hOK.n
  clear htr hOK hlo hhi g3
  go_enter Try.func4, Try.ntmps4
  go_upto_region 1 with (fail)
  have e := HW0.out
  rw [e]
  clear e HW0
  go_upto_region 3 with (first
    | (go_at_call 8; refine (H8.out W0 M.out.T).mono ?_; clear H8; rintro e w1 ⟨rfl, hb⟩; have MN := Lib.hid (M.out.next hb); clear M hb r0 r1 r2 r3 r4 r5; have M := MN; clear MN; obtain ⟨⟨r0, r1, r2, r3⟩, r4, r5⟩ := M.out.cells)
    | (go_at_call 17; refine (H17.out _).mono ?_; clear H17; rintro e w2 ⟨rfl, hb⟩; have MN := Lib.hid (M.out.next hb); clear M hb r0 r1 r2 r3 r4 r5; have M := MN; clear MN; obtain ⟨⟨r0, r1, r2, r3⟩, r4, r5⟩ := M.out.cells)
    | (go_at_call 18; refine (H18.out _ M.out.H).mono ?_; clear H18; rintro e w3 ⟨rfl, hb⟩; have MN := Lib.hid (M.out.next hb); clear M hb r0 r1 r2 r3 r4 r5; have M := MN; clear MN; obtain ⟨⟨r0, r1, r2, r3⟩, r4, r5⟩ := M.out.cells)
    | (go_at_call 9; refine (H9.out _ M.out.T M.out.i).mono ?_; clear H9; rintro e w4 ⟨bt, rfl, hbt, hb⟩; have MN := Lib.hid (M.out.next hb); clear M hb r0 r1 r2 r3 r4 r5; have M := MN; clear MN; obtain ⟨⟨r0, r1, r2, r3⟩, r4, r5⟩ := M.out.cells; obtain rfl := hbt.2 HTR.out; clear hbt))
  go_upto_region 4 with (go_at_call 20; refine (H20.out _ M.out.T).mono ?_; clear H20; rintro e w5 ⟨rfl, hb⟩; have MN := Lib.hid (M.out.next hb); clear M hb r0 r1 r2 r3 r4 r5; have M := MN; clear MN; obtain ⟨⟨r0, r1, r2, r3⟩, r4, r5⟩ := M.out.cells)
  have hq5 := heap_new1 w5 (.cells #[.int .i64 lo, .int .i64 hi] 35)
  have hb5 := al_below w5 (.cells #[.int .i64 lo, .int .i64 hi] 35)
  have M5 := Lib.hid (M.out.next hb5)
  obtain ⟨q, hq⟩ : ∃ q, w5.heap.size = q := ⟨_, rfl⟩
  obtain ⟨W5, hW5⟩ : ∃ W5, w5.alloc (.cells #[.int .i64 lo, .int .i64 hi] 35) = W5 := ⟨_, rfl⟩
  rw [hW5] at M5 hq5 ⊢
  rw [hq] at hq5 ⊢
  have HQ5 := Lib.hid hq5
  clear M r0 r1 r2 r3 r4 r5 hb5 hq5 hW5 hq
  have M := M5
  clear M5
  obtain ⟨⟨r0, r1, r2, r3⟩, r4, r5⟩ := M.out.cells
  have f0 := cell_of_heap (o := 0) HQ5.out rfl
  have f1 := cell_of_heap (o := 1) HQ5.out rfl
  go_wp2_with (fail)
  go_loopw [9, 10] (fun av iv wr => ∃ k : Nat, k ≤ t.length ∧ iv = .int .i64 k ∧ (∃ z : Int, av = .int .i64 z ∧ Hid (z = sumE (eachA t) x k)) ∧ W5 = wr) (fun _ iv _ => t.length - (intOf iv).toNat)
  case atStart => exact ⟨0, Nat.zero_le _, rfl, ⟨0, rfl, Lib.hid rfl⟩, rfl⟩
  case round =>
    obtain ⟨k, hk, rfl, ⟨z, rfl, hz⟩, rfl⟩ := hrel
    by_cases hlt : k < t.length
    · obtain ⟨p, hp⟩ : ∃ p, t[k]? = some p := ⟨_, List.getElem?_eq_getElem hlt⟩
      obtain ⟨y, hy⟩ : ∃ y, x[k]? = some y := ⟨_, List.getElem?_eq_getElem (by rw [HXL.out]; exact hlt)⟩
      have hyb := HXR.out y (List.mem_of_getElem? hy)
      have HN := Lib.hid (sumE_next t x k hp hy)
      have hkb := sumE_bd (t := t) HXR.out k
      rw [← hz.out] at HN hkb
      obtain ⟨b1, o1, hA, _, d1, d2, d3, d4, d5, d6⟩ := M.out.T.at_ hp
      obtain ⟨b2, o2, hB, _, e2⟩ := IntsAt.at_ M.out.i hy
      subst hA
      subst hB
      have hw : IntKind.i64.wrap (z + y) = z + y := IntWalk.i64_in _ (by omega)
      have hkx : k < x.length := by rw [HXL.out]; exact hlt
      have hkx' : (k : Int) < (x.length : Int) := by omega
      obtain ⟨of, wl, wh, sl, sh, pe⟩ := p
      simp only at d1 HN
      clear hp hy d2 d3 d4 d5 d6 hkb
      by_cases hof : of = -1
      · subst hof
        have HN2 := Lib.hid (show z + y = sumE (eachA t) x (k + 1) from (HN.out.trans (if_pos rfl)).symm)
        clear HN
        go_wp2_with (fail)
        go_roundw
        case rel => exact ⟨k + 1, by omega, by go_num, ⟨_, rfl, HN2⟩, by trivial⟩
        case measure => simp [intOf]; omega
      · have hd : decide (of = -1) = false := decide_eq_false hof
        have HN2 := Lib.hid (show z = sumE (eachA t) x (k + 1) from (HN.out.trans (if_neg hof)).symm)
        clear HN
        go_wp2_with (fail)
        go_roundw
        case rel => exact ⟨k + 1, by omega, by go_num, ⟨_, rfl, HN2⟩, by trivial⟩
        case measure => simp [intOf]; omega
    · obtain rfl : k = t.length := by omega
      clear hlt hk
      obtain ⟨n, hn'⟩ : ∃ n, sumE (eachA t) x t.length = n := ⟨_, rfl⟩
      rw [hn'] at g2 g4 hsb hz
      have hzn := hz.out
      subst hzn
      clear hz hn'
      obtain ⟨n, hn'⟩ : ∃ n, z = n := ⟨_, rfl⟩
      subst hn'
      have q1' : decide (lo < 0) = false := decide_eq_false (by omega)
      have q2' : decide (z < lo) = false := decide_eq_false (by omega)
      have q3' : decide (hi < z) = false := decide_eq_false (by omega)
      have q4' : decide ((240 : Int) < hi) = false := decide_eq_false (by omega)
      have HWC := Lib.hid (fun (a b : Int) (h0 : 0 ≤ a ∧ a ≤ 2000) (h1 : 0 ≤ b ∧ b ≤ 2000) W hW => Li.withCatch_any ⟨Ap, cp, Ab, cb⟩ s ⟨by omega, by omega⟩ hok a b h0 h1 W hW)
      obtain ⟨n, hn'⟩ : ∃ n, z = n := ⟨_, rfl⟩
      rw [hn'] at g2 g4 hsb q2' q3' ⊢
      clear hn'
      go_upto_region 13 with (go_at_call 21; refine (HWC.out lo hi ⟨by omega, by omega⟩ ⟨by omega, by omega⟩ _ M.out.H).mono ?_; rintro e w6 ⟨⟨⟨Bp, dp, Bb, db⟩, rfl, hO⟩, hb⟩; have HO6 := Lib.hid hO; have HQ6 := Lib.hid ((hb.block _ (heap_lt HQ5.out)).trans HQ5.out); clear f0 f1 hO; have MN := Lib.hid (M.out.next hb); clear M hb r0 r1 r2 r3 r4 r5; have M := MN; clear MN; obtain ⟨⟨r0, r1, r2, r3⟩, r4, r5⟩ := M.out.cells)
      have hy6 := heap_new1 w6 (.cells #[.int .i64 lo, .int .i64 hi, .slice Bp s.ps.length dp, .slice Bb s.bs.length db] 44)
      have hb6 := al_below w6 (.cells #[.int .i64 lo, .int .i64 hi, .slice Bp s.ps.length dp, .slice Bb s.bs.length db] 44)
      have hq6 := heap_keep (o' := (.cells #[.int .i64 lo, .int .i64 hi, .slice Bp s.ps.length dp, .slice Bb s.bs.length db] 44)) HQ6.out
      have ho6 := HO6.out.below hb6
      have M6 := Lib.hid (M.out.next hb6)
      obtain ⟨q1, hq1⟩ : ∃ q1, w6.heap.size = q1 := ⟨_, rfl⟩
      obtain ⟨W6, hW6⟩ : ∃ W6, w6.alloc (.cells #[.int .i64 lo, .int .i64 hi, .slice Bp s.ps.length dp, .slice Bb s.bs.length db] 44) = W6 := ⟨_, rfl⟩
      rw [hW6] at hy6 hq6 ho6 M6 ⊢
      rw [hq1] at hy6 ⊢
      have HY6 := Lib.hid hy6
      have HQ7 := Lib.hid hq6
      have HO7 := Lib.hid ho6
      clear M r0 r1 r2 r3 r4 r5 hy6 hb6 hq6 ho6 hW6 hq1 HQ6 HO6 HQ5
      have M := M6
      clear M6
      obtain ⟨⟨r0, r1, r2, r3⟩, r4, r5⟩ := M.out.cells
      go_upto_region 14 with (go_at_call 21; refine (HWC.out n n ⟨by omega, by omega⟩ ⟨by omega, by omega⟩ _ M.out.H).mono ?_; rintro e w7 ⟨⟨⟨Dp, ep, Db, eb⟩, rfl, hP⟩, hb⟩; have HP8 := Lib.hid hP; have HQ8 := Lib.hid ((hb.block _ (heap_lt HQ7.out)).trans HQ7.out); have HY8 := Lib.hid ((hb.block _ (heap_lt HY6.out)).trans HY6.out); have HO8 := Lib.hid (HO7.out.below hb); clear hP; have MN := Lib.hid (M.out.next hb); clear M hb r0 r1 r2 r3 r4 r5; have M := MN; clear MN; obtain ⟨⟨r0, r1, r2, r3⟩, r4, r5⟩ := M.out.cells)
      have hz7 := heap_new1 w7 (.cells #[.int .i64 n, .int .i64 n, .slice Dp s.ps.length ep, .slice Db s.bs.length eb] 44)
      have hb7 := al_below w7 (.cells #[.int .i64 n, .int .i64 n, .slice Dp s.ps.length ep, .slice Db s.bs.length eb] 44)
      obtain ⟨q2, hq2⟩ : ∃ q2, w7.heap.size = q2 := ⟨_, rfl⟩
      have V := Lib.hid (show VMem lo hi n s q q1 w7.heap.size Bp dp Bb db Dp ep Db eb (w7.alloc (.cells #[.int .i64 n, .int .i64 n, .slice Dp s.ps.length ep, .slice Db s.bs.length eb] 44)) from ⟨heap_keep HQ8.out, HO8.out.below hb7, heap_keep HY8.out, HP8.out.below hb7, hz7⟩)
      have M7 := Lib.hid (M.out.next hb7)
      obtain ⟨W7, hW7⟩ : ∃ W7, w7.alloc (.cells #[.int .i64 n, .int .i64 n, .slice Dp s.ps.length ep, .slice Db s.bs.length eb] 44) = W7 := ⟨_, rfl⟩
      rw [hW7] at V M7 ⊢
      rw [hq2] at V ⊢
      clear M r0 r1 r2 r3 r4 r5 hz7 hb7 hW7 hq2 HQ7 HO7 HY6 HQ8 HY8 HP8 HO8 HWC
      have M := M7
      clear M7
      obtain ⟨⟨r0, r1, r2, r3⟩, r4, r5⟩ := M.out.cells; obtain ⟨⟨v0, v1⟩, ⟨v2, v3, v4, v5⟩, v6, v7, v8, v9⟩ := V.out.cells
      -- what is known of the boats
      have hS := Li.SOK.ofValid hv
      have hva := Li.setW_valid hv g1 (by omega : lo ≤ hi) (by omega)
      have hvn := Li.setW_valid hv hsb.1 (Int.le_refl n) (by omega)
      have HSU := Lib.hid (fun W hP hO hJ => Li.surer_any s hv n lo hi g1 g2 g4 (by omega) Dp ep Db eb Bp dp Bb db A3 c3 c HA3.out hc3 (by omega) W hP hO hJ)
      have H23 := Lib.hid (fun W hW => Li.Most_any ⟨Bp, dp, Bb, db⟩ (Li.setW s lo hi) W hW)
      have H24 := Lib.hid (fun W hW => Li.Cheap_any ⟨Dp, ep, Db, eb⟩ (Li.setW s n n) W hW)
      have H25 := Lib.hid (fun W hW hI => Li.rIsCrew_any ⟨Ap, cp, Ab, cb⟩ s hS c A3 c3 (by omega) hc3 W hW hI)
      have H26 := Lib.hid (fun A' cx W hW hI => Li.Safe_any ⟨Dp, ep, Db, eb⟩ (Li.setW s n n) c A' cx (by omega) W hW hI)
      have H27 := Lib.hid (fun A' cx W hW hI => Li.Lifts_any ⟨Bp, dp, Bb, db⟩ (Li.setW s lo hi) c A' cx (by omega) W hW hI)
      have HLL : Hid (c.length ≤ 1000) := Lib.hid (by omega)
      have hmo : Li.mostRet (Li.setW s lo hi) = if Li.mostS s < 0 then (0, 3) else (Li.mostS s, 0) := by
        unfold Li.mostRet
        rw [if_neg (by rw [Li.askS_true hva]; omega)]
        rfl
      have hch : Li.cheapRet (Li.setW s n n) = match Li.cheapS (Li.setW s n n) with | none => (0, 3) | some (_, n) => (n, 0) := by
        unfold Li.cheapRet
        rw [if_neg (by rw [Li.askS_true hvn]; omega)]
        rfl
      have hnone := Li.haul_most hS hsb.1 (by omega)
      have hcr := fun (h : Li.crewB s c = true) => Li.crewB_iff.1 h
      have hlm := fun (h : Li.crewB s c = true) => Li.lift_most (hcr h)
      have hln := fun (h : Li.crewB s c = true) => Li.lift_nn hS (hcr h)
      have hlr : Li.crewB s c = true → Li.liftsRet (Li.setW s lo hi) c = (Li.liftS s c, 0) := fun h => by
        unfold Li.liftsRet
        rw [show Li.crewB (Li.setW s lo hi) c = true from h, if_neg (by rw [Li.askS_true hva]; omega)]
        rfl
      have hsr : Li.crewB s c = true → Li.safeRet (Li.setW s n n) c = (Li.safeN (Li.setW s n n) c, 0) := fun h => Li.safe_ret hvn h
      have hsl : Li.crewB s c = true → (Li.safeN (Li.setW s n n) c = 1 ↔ n ≤ Li.liftS s c) := fun h => by
        have e : Li.safeC (Li.setW s n n) c = decide (n ≤ Li.liftS s c) := Li.safe_lift (Li.SOK.ofValid hvn) (hcr h)
        rcases Li.safeN_cases (Li.setW s n n) c with ⟨h1, h2⟩ | ⟨h1, h2, _⟩ | ⟨h1, h2⟩
        · rw [e, decide_eq_true_eq] at h2
          exact ⟨fun _ => h2, fun _ => h1⟩
        · rw [e, decide_eq_false_iff_not] at h2
          omega
        · rw [e, decide_eq_false_iff_not] at h2
          omega
      obtain ⟨m, hm⟩ : ∃ m, Li.mostS s = m := ⟨_, rfl⟩
      rw [hm] at hmo hnone hlm
      have hn0 := hsb.1
      clear hvn hva hS hcr hm
      go_upto_region 16 with (go_at_call 22; refine (HSU.out _ V.out.P V.out.O M.out.j).mono ?_; clear HSU; rintro e w8 ⟨rfl, hb⟩; have MN := Lib.hid (M.out.next hb); have VN := Lib.hid (V.out.next hb); clear M V hb r0 r1 r2 r3 r4 r5 v0 v1 v2 v3 v4 v5 v6 v7 v8 v9; have M := MN; have V := VN; clear MN VN; obtain ⟨⟨r0, r1, r2, r3⟩, r4, r5⟩ := M.out.cells; obtain ⟨⟨v0, v1⟩, ⟨v2, v3, v4, v5⟩, v6, v7, v8, v9⟩ := V.out.cells)
      have hcs : (m < 0 ∧ Li.cheapRet (Li.setW s n n) = (0, 3)) ∨ (0 ≤ m ∧ m < n ∧ Li.cheapRet (Li.setW s n n) = (0, 3)) ∨ (n ≤ m ∧ ∃ k, Li.cheapRet (Li.setW s n n) = (k, 0)) := by
        rw [hch]
        cases hc : Li.cheapS (Li.setW s n n) with
        | none =>
          have := hnone.1 hc
          by_cases h0 : m < 0
          · exact .inl ⟨h0, rfl⟩
          · exact .inr (.inl ⟨by omega, this, rfl⟩)
        | some rk =>
          obtain ⟨r, k⟩ := rk
          refine .inr (.inr ⟨?_, k, rfl⟩)
          have : ¬ m < n := fun h => by rw [hnone.2 h] at hc; cases hc
          omega
      clear hch hnone
      have q5' : ∀ b, Li.crewB s c = b → Hid (Li.crewB s c = b) := fun _ h => Lib.hid h
      cases hcb : Li.crewB s c
      · rw [hcb] at H25
        clear hlm hln hlr hsr hsl H26 H27 hcb q5'
        rcases hcs with ⟨c1', hch⟩ | ⟨c1', c2', hch⟩ | ⟨c1', k, hch⟩
        · rw [hmo, if_pos c1'] at H23
          rw [hch] at H24
          clear hmo hch
          go_wp2_with (first
            | (go_at_call 23; refine (H23.out _ V.out.O).mono ?_; clear H23; rintro e w9 ⟨rfl, hb⟩; have MN := Lib.hid (M.out.next hb); have VN := Lib.hid (V.out.next hb); clear M V hb r0 r1 r2 r3 r4 r5 v0 v1 v2 v3 v4 v5 v6 v7 v8 v9; have M := MN; have V := VN; clear MN VN; obtain ⟨⟨r0, r1, r2, r3⟩, r4, r5⟩ := M.out.cells; obtain ⟨⟨v0, v1⟩, ⟨v2, v3, v4, v5⟩, v6, v7, v8, v9⟩ := V.out.cells)
            | (go_at_call 24; refine (H24.out _ V.out.P).mono ?_; clear H24; rintro e wa ⟨rfl, hb⟩; have MN := Lib.hid (M.out.next hb); have VN := Lib.hid (V.out.next hb); clear M V hb r0 r1 r2 r3 r4 r5 v0 v1 v2 v3 v4 v5 v6 v7 v8 v9; have M := MN; have V := VN; clear MN VN; obtain ⟨⟨r0, r1, r2, r3⟩, r4, r5⟩ := M.out.cells; obtain ⟨⟨v0, v1⟩, ⟨v2, v3, v4, v5⟩, v6, v7, v8, v9⟩ := V.out.cells)
            | (go_at_call 25; refine (H25.out _ M.out.H M.out.j).mono ?_; clear H25; rintro e wb ⟨rfl, hb⟩; have MN := Lib.hid (M.out.next hb); have VN := Lib.hid (V.out.next hb); clear M V hb r0 r1 r2 r3 r4 r5 v0 v1 v2 v3 v4 v5 v6 v7 v8 v9; have M := MN; have V := VN; clear MN VN; obtain ⟨⟨r0, r1, r2, r3⟩, r4, r5⟩ := M.out.cells; obtain ⟨⟨v0, v1⟩, ⟨v2, v3, v4, v5⟩, v6, v7, v8, v9⟩ := V.out.cells)
            | (go_at_call 19; refine (hauled_any _).mono ?_; rintro e wz ⟨rfl, hb⟩; have MN := Lib.hid (M.out.next hb); clear M; have M := MN))
          go_ret
          exact ⟨rfl, M.out.B⟩
        · rw [hmo, if_neg (by omega)] at H23
          rw [hch] at H24
          clear hmo hch
          have q6' : decide (n ≤ m) = false := decide_eq_false (by omega)
          by_cases q7' : m < lo
          · have q8' : decide (m < lo) = true := decide_eq_true q7'
            go_wp2_with (first
              | (go_at_call 23; refine (H23.out _ V.out.O).mono ?_; clear H23; rintro e w9 ⟨rfl, hb⟩; have MN := Lib.hid (M.out.next hb); have VN := Lib.hid (V.out.next hb); clear M V hb r0 r1 r2 r3 r4 r5 v0 v1 v2 v3 v4 v5 v6 v7 v8 v9; have M := MN; have V := VN; clear MN VN; obtain ⟨⟨r0, r1, r2, r3⟩, r4, r5⟩ := M.out.cells; obtain ⟨⟨v0, v1⟩, ⟨v2, v3, v4, v5⟩, v6, v7, v8, v9⟩ := V.out.cells)
              | (go_at_call 24; refine (H24.out _ V.out.P).mono ?_; clear H24; rintro e wa ⟨rfl, hb⟩; have MN := Lib.hid (M.out.next hb); have VN := Lib.hid (V.out.next hb); clear M V hb r0 r1 r2 r3 r4 r5 v0 v1 v2 v3 v4 v5 v6 v7 v8 v9; have M := MN; have V := VN; clear MN VN; obtain ⟨⟨r0, r1, r2, r3⟩, r4, r5⟩ := M.out.cells; obtain ⟨⟨v0, v1⟩, ⟨v2, v3, v4, v5⟩, v6, v7, v8, v9⟩ := V.out.cells)
              | (go_at_call 25; refine (H25.out _ M.out.H M.out.j).mono ?_; clear H25; rintro e wb ⟨rfl, hb⟩; have MN := Lib.hid (M.out.next hb); have VN := Lib.hid (V.out.next hb); clear M V hb r0 r1 r2 r3 r4 r5 v0 v1 v2 v3 v4 v5 v6 v7 v8 v9; have M := MN; have V := VN; clear MN VN; obtain ⟨⟨r0, r1, r2, r3⟩, r4, r5⟩ := M.out.cells; obtain ⟨⟨v0, v1⟩, ⟨v2, v3, v4, v5⟩, v6, v7, v8, v9⟩ := V.out.cells)
              | (go_at_call 19; refine (hauled_any _).mono ?_; rintro e wz ⟨rfl, hb⟩; have MN := Lib.hid (M.out.next hb); clear M; have M := MN))
            go_ret
            exact ⟨rfl, M.out.B⟩
          · have q8' : decide (m < lo) = false := decide_eq_false q7'
            go_wp2_with (first
              | (go_at_call 23; refine (H23.out _ V.out.O).mono ?_; clear H23; rintro e w9 ⟨rfl, hb⟩; have MN := Lib.hid (M.out.next hb); have VN := Lib.hid (V.out.next hb); clear M V hb r0 r1 r2 r3 r4 r5 v0 v1 v2 v3 v4 v5 v6 v7 v8 v9; have M := MN; have V := VN; clear MN VN; obtain ⟨⟨r0, r1, r2, r3⟩, r4, r5⟩ := M.out.cells; obtain ⟨⟨v0, v1⟩, ⟨v2, v3, v4, v5⟩, v6, v7, v8, v9⟩ := V.out.cells)
              | (go_at_call 24; refine (H24.out _ V.out.P).mono ?_; clear H24; rintro e wa ⟨rfl, hb⟩; have MN := Lib.hid (M.out.next hb); have VN := Lib.hid (V.out.next hb); clear M V hb r0 r1 r2 r3 r4 r5 v0 v1 v2 v3 v4 v5 v6 v7 v8 v9; have M := MN; have V := VN; clear MN VN; obtain ⟨⟨r0, r1, r2, r3⟩, r4, r5⟩ := M.out.cells; obtain ⟨⟨v0, v1⟩, ⟨v2, v3, v4, v5⟩, v6, v7, v8, v9⟩ := V.out.cells)
              | (go_at_call 25; refine (H25.out _ M.out.H M.out.j).mono ?_; clear H25; rintro e wb ⟨rfl, hb⟩; have MN := Lib.hid (M.out.next hb); have VN := Lib.hid (V.out.next hb); clear M V hb r0 r1 r2 r3 r4 r5 v0 v1 v2 v3 v4 v5 v6 v7 v8 v9; have M := MN; have V := VN; clear MN VN; obtain ⟨⟨r0, r1, r2, r3⟩, r4, r5⟩ := M.out.cells; obtain ⟨⟨v0, v1⟩, ⟨v2, v3, v4, v5⟩, v6, v7, v8, v9⟩ := V.out.cells)
              | (go_at_call 19; refine (hauled_any _).mono ?_; rintro e wz ⟨rfl, hb⟩; have MN := Lib.hid (M.out.next hb); clear M; have M := MN))
            go_ret
            exact ⟨rfl, M.out.B⟩
        · rw [hmo, if_neg (by omega)] at H23
          rw [hch] at H24
          clear hmo hch
          have q6' : decide (n ≤ m) = true := decide_eq_true (by omega)
          have q8' : decide (m < lo) = false := decide_eq_false (by omega)
          go_wp2_with (first
            | (go_at_call 23; refine (H23.out _ V.out.O).mono ?_; clear H23; rintro e w9 ⟨rfl, hb⟩; have MN := Lib.hid (M.out.next hb); have VN := Lib.hid (V.out.next hb); clear M V hb r0 r1 r2 r3 r4 r5 v0 v1 v2 v3 v4 v5 v6 v7 v8 v9; have M := MN; have V := VN; clear MN VN; obtain ⟨⟨r0, r1, r2, r3⟩, r4, r5⟩ := M.out.cells; obtain ⟨⟨v0, v1⟩, ⟨v2, v3, v4, v5⟩, v6, v7, v8, v9⟩ := V.out.cells)
            | (go_at_call 24; refine (H24.out _ V.out.P).mono ?_; clear H24; rintro e wa ⟨rfl, hb⟩; have MN := Lib.hid (M.out.next hb); have VN := Lib.hid (V.out.next hb); clear M V hb r0 r1 r2 r3 r4 r5 v0 v1 v2 v3 v4 v5 v6 v7 v8 v9; have M := MN; have V := VN; clear MN VN; obtain ⟨⟨r0, r1, r2, r3⟩, r4, r5⟩ := M.out.cells; obtain ⟨⟨v0, v1⟩, ⟨v2, v3, v4, v5⟩, v6, v7, v8, v9⟩ := V.out.cells)
            | (go_at_call 25; refine (H25.out _ M.out.H M.out.j).mono ?_; clear H25; rintro e wb ⟨rfl, hb⟩; have MN := Lib.hid (M.out.next hb); have VN := Lib.hid (V.out.next hb); clear M V hb r0 r1 r2 r3 r4 r5 v0 v1 v2 v3 v4 v5 v6 v7 v8 v9; have M := MN; have V := VN; clear MN VN; obtain ⟨⟨r0, r1, r2, r3⟩, r4, r5⟩ := M.out.cells; obtain ⟨⟨v0, v1⟩, ⟨v2, v3, v4, v5⟩, v6, v7, v8, v9⟩ := V.out.cells)
            | (go_at_call 19; refine (hauled_any _).mono ?_; rintro e wz ⟨rfl, hb⟩; have MN := Lib.hid (M.out.next hb); clear M; have M := MN))
          go_ret
          exact ⟨rfl, M.out.B⟩
      · rw [hcb] at H25
        have hlm := hlm hcb
        have hln := hln hcb
        rw [hlr hcb] at H27
        rw [hsr hcb] at H26
        have hsl := hsl hcb
        obtain ⟨l, hl⟩ : ∃ l, Li.liftS s c = l := ⟨_, rfl⟩
        obtain ⟨k1, hk1⟩ : ∃ k1, Li.safeN (Li.setW s n n) c = k1 := ⟨_, rfl⟩
        rw [hl] at hlm hln H27 hsl
        rw [hk1] at H26 hsl
        have HWI := Lib.hid (fun W => Li.within28_any l 0 m W)
        rw [show Li.inR l 0 m = true from Li.inR_true.2 ⟨hln, hlm⟩] at HWI
        clear hlr hsr hcb q5' hl hk1
        rcases hcs with ⟨c1', hch⟩ | ⟨c1', c2', hch⟩ | ⟨c1', k, hch⟩
        · omega
        · rw [hmo, if_neg (by omega)] at H23
          rw [hch] at H24
          clear hmo hch
          have q6' : decide (n ≤ m) = false := decide_eq_false (by omega)
          have q9' : ¬ k1 = 1 := fun h => by have := hsl.1 h; omega
          have qa' : decide (k1 = 1) = false := decide_eq_false q9'
          have qd' : (k1 == 1) = false := by simp [q9']
          have qb' : ¬ n ≤ l := by omega
          have qc' : decide (n ≤ l) = false := decide_eq_false qb'
          clear hsl
          by_cases q7' : m < lo
          · have q8' : decide (m < lo) = true := decide_eq_true q7'
            go_upto_region 22 with (first
              | (go_at_call 23; refine (H23.out _ V.out.O).mono ?_; clear H23; rintro e w9 ⟨rfl, hb⟩; have MN := Lib.hid (M.out.next hb); have VN := Lib.hid (V.out.next hb); clear M V hb r0 r1 r2 r3 r4 r5 v0 v1 v2 v3 v4 v5 v6 v7 v8 v9; have M := MN; have V := VN; clear MN VN; obtain ⟨⟨r0, r1, r2, r3⟩, r4, r5⟩ := M.out.cells; obtain ⟨⟨v0, v1⟩, ⟨v2, v3, v4, v5⟩, v6, v7, v8, v9⟩ := V.out.cells)
              | (go_at_call 24; refine (H24.out _ V.out.P).mono ?_; clear H24; rintro e wa ⟨rfl, hb⟩; have MN := Lib.hid (M.out.next hb); have VN := Lib.hid (V.out.next hb); clear M V hb r0 r1 r2 r3 r4 r5 v0 v1 v2 v3 v4 v5 v6 v7 v8 v9; have M := MN; have V := VN; clear MN VN; obtain ⟨⟨r0, r1, r2, r3⟩, r4, r5⟩ := M.out.cells; obtain ⟨⟨v0, v1⟩, ⟨v2, v3, v4, v5⟩, v6, v7, v8, v9⟩ := V.out.cells)
              | (go_at_call 25; refine (H25.out _ M.out.H M.out.j).mono ?_; clear H25; rintro e wb ⟨rfl, hb⟩; have MN := Lib.hid (M.out.next hb); have VN := Lib.hid (V.out.next hb); clear M V hb r0 r1 r2 r3 r4 r5 v0 v1 v2 v3 v4 v5 v6 v7 v8 v9; have M := MN; have V := VN; clear MN VN; obtain ⟨⟨r0, r1, r2, r3⟩, r4, r5⟩ := M.out.cells; obtain ⟨⟨v0, v1⟩, ⟨v2, v3, v4, v5⟩, v6, v7, v8, v9⟩ := V.out.cells))
            go_region_held3 (fun w' => ((w'.cell? ⟨w.heap.size, 0, none⟩ = some (.int .i64 s.wl) ∧ w'.cell? ⟨w.heap.size, 1, none⟩ = some (.int .i64 s.wh) ∧ w'.cell? ⟨w.heap.size, 2, none⟩ = some (.slice Ap s.ps.length cp) ∧ w'.cell? ⟨w.heap.size, 3, none⟩ = some (.slice Ab s.bs.length cb)) ∧ w'.cell? ⟨w.heap.size + 1, 0, none⟩ = some (.slice A2 x.length c2) ∧ w'.cell? ⟨w.heap.size + 1, 1, none⟩ = some (.slice A3 c.length c3)) ∧ (w'.cell? ⟨q1, 0, none⟩ = some (.int .i64 lo) ∧ w'.cell? ⟨q1, 1, none⟩ = some (.int .i64 hi) ∧ w'.cell? ⟨q1, 2, none⟩ = some (.slice Bp s.ps.length dp) ∧ w'.cell? ⟨q1, 3, none⟩ = some (.slice Bb s.bs.length db)) ∧ (w'.cell? ⟨q2, 0, none⟩ = some (.int .i64 n) ∧ w'.cell? ⟨q2, 1, none⟩ = some (.int .i64 n) ∧ w'.cell? ⟨q2, 2, none⟩ = some (.slice Dp s.ps.length ep) ∧ w'.cell? ⟨q2, 3, none⟩ = some (.slice Db s.bs.length eb))) (first | go_keep)
              (first
                | (refine step_copyG (by rfl) _ _ (by rfl) wb.heap.size _ [] (by rfl) (by first | exact Li.rows_made1 _ | exact Li.rows_made2 _ | exact Li.rows_made3 _) A3 c3 c c.length rfl HA3.out (by rfl) (M.out.next (by first | exact Li.rows_belowL _ _ | exact hb0to (Li.drew_belowL _) (al_below _ _) | exact al_below _ _)).j (by simp) HLL.out (by first | (simp; done) | (simp; omega)) ?_; intro v3' wc h1 h2 h3; have hb : Below wb.heap.size wb wc := (by first | exact (Li.rows_belowL _ _).trans h2 | exact (hb0to (Li.drew_belowL _) (al_below _ _)).trans h2 | exact (al_below _ _).trans h2); obtain ⟨A6, k6, rfl, -, -, hA6⟩ := (show Ints wc wb.heap.size v3' c from h1).lay; have I6 := Lib.hid (show Li.IntsAt wc wc.heap.size A6 c from hA6.at_); clear h1 h2 h3 hA6; have MN := Lib.hid (M.out.next hb); have VN := Lib.hid (V.out.next hb); clear M V hb r0 r1 r2 r3 r4 r5 v0 v1 v2 v3 v4 v5 v6 v7 v8 v9; have M := MN; have V := VN; clear MN VN; obtain ⟨⟨r0, r1, r2, r3⟩, r4, r5⟩ := M.out.cells; obtain ⟨⟨v0, v1⟩, ⟨v2, v3, v4, v5⟩, v6, v7, v8, v9⟩ := V.out.cells)
                | (go_at_call 26; refine (H26.out A6 k6 _ (V.out.next (by first | exact Below.refl _ _ | exact Li.drew_belowL _)).P (Li.ints_later I6.out (by first | exact Below.refl _ _ | exact Li.drew_belowL _))).mono ?_; clear H26; rintro e wd ⟨rfl, hb'⟩; have hb : Below wc.heap.size wc wd := (by first | exact hb' | exact hb0to (Li.drew_belowL _) hb'); clear hb' I6; have MN := Lib.hid (M.out.next hb); have VN := Lib.hid (V.out.next hb); clear M V hb r0 r1 r2 r3 r4 r5 v0 v1 v2 v3 v4 v5 v6 v7 v8 v9; have M := MN; have V := VN; clear MN VN; obtain ⟨⟨r0, r1, r2, r3⟩, r4, r5⟩ := M.out.cells; obtain ⟨⟨v0, v1⟩, ⟨v2, v3, v4, v5⟩, v6, v7, v8, v9⟩ := V.out.cells))
            go_wp2_with (fail)
            go_region_held3 (fun w' => ((w'.cell? ⟨w.heap.size, 0, none⟩ = some (.int .i64 s.wl) ∧ w'.cell? ⟨w.heap.size, 1, none⟩ = some (.int .i64 s.wh) ∧ w'.cell? ⟨w.heap.size, 2, none⟩ = some (.slice Ap s.ps.length cp) ∧ w'.cell? ⟨w.heap.size, 3, none⟩ = some (.slice Ab s.bs.length cb)) ∧ w'.cell? ⟨w.heap.size + 1, 0, none⟩ = some (.slice A2 x.length c2) ∧ w'.cell? ⟨w.heap.size + 1, 1, none⟩ = some (.slice A3 c.length c3)) ∧ (w'.cell? ⟨q1, 0, none⟩ = some (.int .i64 lo) ∧ w'.cell? ⟨q1, 1, none⟩ = some (.int .i64 hi) ∧ w'.cell? ⟨q1, 2, none⟩ = some (.slice Bp s.ps.length dp) ∧ w'.cell? ⟨q1, 3, none⟩ = some (.slice Bb s.bs.length db)) ∧ (w'.cell? ⟨q2, 0, none⟩ = some (.int .i64 n) ∧ w'.cell? ⟨q2, 1, none⟩ = some (.int .i64 n) ∧ w'.cell? ⟨q2, 2, none⟩ = some (.slice Dp s.ps.length ep) ∧ w'.cell? ⟨q2, 3, none⟩ = some (.slice Db s.bs.length eb))) (first | go_keep)
              (first
                | (refine step_copyG (by rfl) _ _ (by rfl) wd.heap.size _ [] (by rfl) (by first | exact Li.rows_made1 _ | exact Li.rows_made2 _ | exact Li.rows_made3 _) A3 c3 c c.length rfl HA3.out (by rfl) (M.out.next (by first | exact Li.rows_belowL _ _ | exact hb0to (Li.drew_belowL _) (al_below _ _) | exact al_below _ _)).j (by simp) HLL.out (by first | (simp; done) | (simp; omega)) ?_; intro v3' we h1 h2 h3; have hb : Below wd.heap.size wd we := (by first | exact (Li.rows_belowL _ _).trans h2 | exact (hb0to (Li.drew_belowL _) (al_below _ _)).trans h2 | exact (al_below _ _).trans h2); obtain ⟨A6, k6, rfl, -, -, hA6⟩ := (show Ints we wd.heap.size v3' c from h1).lay; have I6 := Lib.hid (show Li.IntsAt we we.heap.size A6 c from hA6.at_); clear h1 h2 h3 hA6; have MN := Lib.hid (M.out.next hb); have VN := Lib.hid (V.out.next hb); clear M V hb r0 r1 r2 r3 r4 r5 v0 v1 v2 v3 v4 v5 v6 v7 v8 v9; have M := MN; have V := VN; clear MN VN; obtain ⟨⟨r0, r1, r2, r3⟩, r4, r5⟩ := M.out.cells; obtain ⟨⟨v0, v1⟩, ⟨v2, v3, v4, v5⟩, v6, v7, v8, v9⟩ := V.out.cells)
                | (go_at_call 27; refine (H27.out A6 k6 _ (V.out.next (by first | exact Below.refl _ _ | exact Li.drew_belowL _)).O (Li.ints_later I6.out (by first | exact Below.refl _ _ | exact Li.drew_belowL _))).mono ?_; clear H27; rintro e wf ⟨rfl, hb'⟩; have hb : Below we.heap.size we wf := (by first | exact hb' | exact hb0to (Li.drew_belowL _) hb'); clear hb' I6; have MN := Lib.hid (M.out.next hb); have VN := Lib.hid (V.out.next hb); clear M V hb r0 r1 r2 r3 r4 r5 v0 v1 v2 v3 v4 v5 v6 v7 v8 v9; have M := MN; have V := VN; clear MN VN; obtain ⟨⟨r0, r1, r2, r3⟩, r4, r5⟩ := M.out.cells; obtain ⟨⟨v0, v1⟩, ⟨v2, v3, v4, v5⟩, v6, v7, v8, v9⟩ := V.out.cells))
            go_wp2_with (first
              | (go_at_call 28; refine (HWI.out _).mono ?_; clear HWI; rintro e wy ⟨rfl, rfl⟩)
              | (go_at_call 19; refine (hauled_any _).mono ?_; rintro e wz ⟨rfl, hb⟩; have MN := Lib.hid (M.out.next hb); clear M; have M := MN))
            go_ret
            exact ⟨rfl, M.out.B⟩
          · have q8' : decide (m < lo) = false := decide_eq_false q7'
            go_upto_region 22 with (first
              | (go_at_call 23; refine (H23.out _ V.out.O).mono ?_; clear H23; rintro e w9 ⟨rfl, hb⟩; have MN := Lib.hid (M.out.next hb); have VN := Lib.hid (V.out.next hb); clear M V hb r0 r1 r2 r3 r4 r5 v0 v1 v2 v3 v4 v5 v6 v7 v8 v9; have M := MN; have V := VN; clear MN VN; obtain ⟨⟨r0, r1, r2, r3⟩, r4, r5⟩ := M.out.cells; obtain ⟨⟨v0, v1⟩, ⟨v2, v3, v4, v5⟩, v6, v7, v8, v9⟩ := V.out.cells)
              | (go_at_call 24; refine (H24.out _ V.out.P).mono ?_; clear H24; rintro e wa ⟨rfl, hb⟩; have MN := Lib.hid (M.out.next hb); have VN := Lib.hid (V.out.next hb); clear M V hb r0 r1 r2 r3 r4 r5 v0 v1 v2 v3 v4 v5 v6 v7 v8 v9; have M := MN; have V := VN; clear MN VN; obtain ⟨⟨r0, r1, r2, r3⟩, r4, r5⟩ := M.out.cells; obtain ⟨⟨v0, v1⟩, ⟨v2, v3, v4, v5⟩, v6, v7, v8, v9⟩ := V.out.cells)
              | (go_at_call 25; refine (H25.out _ M.out.H M.out.j).mono ?_; clear H25; rintro e wb ⟨rfl, hb⟩; have MN := Lib.hid (M.out.next hb); have VN := Lib.hid (V.out.next hb); clear M V hb r0 r1 r2 r3 r4 r5 v0 v1 v2 v3 v4 v5 v6 v7 v8 v9; have M := MN; have V := VN; clear MN VN; obtain ⟨⟨r0, r1, r2, r3⟩, r4, r5⟩ := M.out.cells; obtain ⟨⟨v0, v1⟩, ⟨v2, v3, v4, v5⟩, v6, v7, v8, v9⟩ := V.out.cells))
            go_region_held3 (fun w' => ((w'.cell? ⟨w.heap.size, 0, none⟩ = some (.int .i64 s.wl) ∧ w'.cell? ⟨w.heap.size, 1, none⟩ = some (.int .i64 s.wh) ∧ w'.cell? ⟨w.heap.size, 2, none⟩ = some (.slice Ap s.ps.length cp) ∧ w'.cell? ⟨w.heap.size, 3, none⟩ = some (.slice Ab s.bs.length cb)) ∧ w'.cell? ⟨w.heap.size + 1, 0, none⟩ = some (.slice A2 x.length c2) ∧ w'.cell? ⟨w.heap.size + 1, 1, none⟩ = some (.slice A3 c.length c3)) ∧ (w'.cell? ⟨q1, 0, none⟩ = some (.int .i64 lo) ∧ w'.cell? ⟨q1, 1, none⟩ = some (.int .i64 hi) ∧ w'.cell? ⟨q1, 2, none⟩ = some (.slice Bp s.ps.length dp) ∧ w'.cell? ⟨q1, 3, none⟩ = some (.slice Bb s.bs.length db)) ∧ (w'.cell? ⟨q2, 0, none⟩ = some (.int .i64 n) ∧ w'.cell? ⟨q2, 1, none⟩ = some (.int .i64 n) ∧ w'.cell? ⟨q2, 2, none⟩ = some (.slice Dp s.ps.length ep) ∧ w'.cell? ⟨q2, 3, none⟩ = some (.slice Db s.bs.length eb))) (first | go_keep)
              (first
                | (refine step_copyG (by rfl) _ _ (by rfl) wb.heap.size _ [] (by rfl) (by first | exact Li.rows_made1 _ | exact Li.rows_made2 _ | exact Li.rows_made3 _) A3 c3 c c.length rfl HA3.out (by rfl) (M.out.next (by first | exact Li.rows_belowL _ _ | exact hb0to (Li.drew_belowL _) (al_below _ _) | exact al_below _ _)).j (by simp) HLL.out (by first | (simp; done) | (simp; omega)) ?_; intro v3' wc h1 h2 h3; have hb : Below wb.heap.size wb wc := (by first | exact (Li.rows_belowL _ _).trans h2 | exact (hb0to (Li.drew_belowL _) (al_below _ _)).trans h2 | exact (al_below _ _).trans h2); obtain ⟨A6, k6, rfl, -, -, hA6⟩ := (show Ints wc wb.heap.size v3' c from h1).lay; have I6 := Lib.hid (show Li.IntsAt wc wc.heap.size A6 c from hA6.at_); clear h1 h2 h3 hA6; have MN := Lib.hid (M.out.next hb); have VN := Lib.hid (V.out.next hb); clear M V hb r0 r1 r2 r3 r4 r5 v0 v1 v2 v3 v4 v5 v6 v7 v8 v9; have M := MN; have V := VN; clear MN VN; obtain ⟨⟨r0, r1, r2, r3⟩, r4, r5⟩ := M.out.cells; obtain ⟨⟨v0, v1⟩, ⟨v2, v3, v4, v5⟩, v6, v7, v8, v9⟩ := V.out.cells)
                | (go_at_call 26; refine (H26.out A6 k6 _ (V.out.next (by first | exact Below.refl _ _ | exact Li.drew_belowL _)).P (Li.ints_later I6.out (by first | exact Below.refl _ _ | exact Li.drew_belowL _))).mono ?_; clear H26; rintro e wd ⟨rfl, hb'⟩; have hb : Below wc.heap.size wc wd := (by first | exact hb' | exact hb0to (Li.drew_belowL _) hb'); clear hb' I6; have MN := Lib.hid (M.out.next hb); have VN := Lib.hid (V.out.next hb); clear M V hb r0 r1 r2 r3 r4 r5 v0 v1 v2 v3 v4 v5 v6 v7 v8 v9; have M := MN; have V := VN; clear MN VN; obtain ⟨⟨r0, r1, r2, r3⟩, r4, r5⟩ := M.out.cells; obtain ⟨⟨v0, v1⟩, ⟨v2, v3, v4, v5⟩, v6, v7, v8, v9⟩ := V.out.cells))
            go_wp2_with (fail)
            go_region_held3 (fun w' => ((w'.cell? ⟨w.heap.size, 0, none⟩ = some (.int .i64 s.wl) ∧ w'.cell? ⟨w.heap.size, 1, none⟩ = some (.int .i64 s.wh) ∧ w'.cell? ⟨w.heap.size, 2, none⟩ = some (.slice Ap s.ps.length cp) ∧ w'.cell? ⟨w.heap.size, 3, none⟩ = some (.slice Ab s.bs.length cb)) ∧ w'.cell? ⟨w.heap.size + 1, 0, none⟩ = some (.slice A2 x.length c2) ∧ w'.cell? ⟨w.heap.size + 1, 1, none⟩ = some (.slice A3 c.length c3)) ∧ (w'.cell? ⟨q1, 0, none⟩ = some (.int .i64 lo) ∧ w'.cell? ⟨q1, 1, none⟩ = some (.int .i64 hi) ∧ w'.cell? ⟨q1, 2, none⟩ = some (.slice Bp s.ps.length dp) ∧ w'.cell? ⟨q1, 3, none⟩ = some (.slice Bb s.bs.length db)) ∧ (w'.cell? ⟨q2, 0, none⟩ = some (.int .i64 n) ∧ w'.cell? ⟨q2, 1, none⟩ = some (.int .i64 n) ∧ w'.cell? ⟨q2, 2, none⟩ = some (.slice Dp s.ps.length ep) ∧ w'.cell? ⟨q2, 3, none⟩ = some (.slice Db s.bs.length eb))) (first | go_keep)
              (first
                | (refine step_copyG (by rfl) _ _ (by rfl) wd.heap.size _ [] (by rfl) (by first | exact Li.rows_made1 _ | exact Li.rows_made2 _ | exact Li.rows_made3 _) A3 c3 c c.length rfl HA3.out (by rfl) (M.out.next (by first | exact Li.rows_belowL _ _ | exact hb0to (Li.drew_belowL _) (al_below _ _) | exact al_below _ _)).j (by simp) HLL.out (by first | (simp; done) | (simp; omega)) ?_; intro v3' we h1 h2 h3; have hb : Below wd.heap.size wd we := (by first | exact (Li.rows_belowL _ _).trans h2 | exact (hb0to (Li.drew_belowL _) (al_below _ _)).trans h2 | exact (al_below _ _).trans h2); obtain ⟨A6, k6, rfl, -, -, hA6⟩ := (show Ints we wd.heap.size v3' c from h1).lay; have I6 := Lib.hid (show Li.IntsAt we we.heap.size A6 c from hA6.at_); clear h1 h2 h3 hA6; have MN := Lib.hid (M.out.next hb); have VN := Lib.hid (V.out.next hb); clear M V hb r0 r1 r2 r3 r4 r5 v0 v1 v2 v3 v4 v5 v6 v7 v8 v9; have M := MN; have V := VN; clear MN VN; obtain ⟨⟨r0, r1, r2, r3⟩, r4, r5⟩ := M.out.cells; obtain ⟨⟨v0, v1⟩, ⟨v2, v3, v4, v5⟩, v6, v7, v8, v9⟩ := V.out.cells)
                | (go_at_call 27; refine (H27.out A6 k6 _ (V.out.next (by first | exact Below.refl _ _ | exact Li.drew_belowL _)).O (Li.ints_later I6.out (by first | exact Below.refl _ _ | exact Li.drew_belowL _))).mono ?_; clear H27; rintro e wf ⟨rfl, hb'⟩; have hb : Below we.heap.size we wf := (by first | exact hb' | exact hb0to (Li.drew_belowL _) hb'); clear hb' I6; have MN := Lib.hid (M.out.next hb); have VN := Lib.hid (V.out.next hb); clear M V hb r0 r1 r2 r3 r4 r5 v0 v1 v2 v3 v4 v5 v6 v7 v8 v9; have M := MN; have V := VN; clear MN VN; obtain ⟨⟨r0, r1, r2, r3⟩, r4, r5⟩ := M.out.cells; obtain ⟨⟨v0, v1⟩, ⟨v2, v3, v4, v5⟩, v6, v7, v8, v9⟩ := V.out.cells))
            go_wp2_with (first
              | (go_at_call 28; refine (HWI.out _).mono ?_; clear HWI; rintro e wy ⟨rfl, rfl⟩)
              | (go_at_call 19; refine (hauled_any _).mono ?_; rintro e wz ⟨rfl, hb⟩; have MN := Lib.hid (M.out.next hb); clear M; have M := MN))
            go_ret
            exact ⟨rfl, M.out.B⟩
        · rw [hmo, if_neg (by omega)] at H23
          rw [hch] at H24
          clear hmo hch
          have q6' : decide (n ≤ m) = true := decide_eq_true (by omega)
          have q8' : decide (m < lo) = false := decide_eq_false (by omega)
          by_cases qb' : n ≤ l
          · obtain rfl := hsl.2 qb'
            have qc' : decide (n ≤ l) = true := decide_eq_true qb'
            clear hsl
            go_upto_region 22 with (first
              | (go_at_call 23; refine (H23.out _ V.out.O).mono ?_; clear H23; rintro e w9 ⟨rfl, hb⟩; have MN := Lib.hid (M.out.next hb); have VN := Lib.hid (V.out.next hb); clear M V hb r0 r1 r2 r3 r4 r5 v0 v1 v2 v3 v4 v5 v6 v7 v8 v9; have M := MN; have V := VN; clear MN VN; obtain ⟨⟨r0, r1, r2, r3⟩, r4, r5⟩ := M.out.cells; obtain ⟨⟨v0, v1⟩, ⟨v2, v3, v4, v5⟩, v6, v7, v8, v9⟩ := V.out.cells)
              | (go_at_call 24; refine (H24.out _ V.out.P).mono ?_; clear H24; rintro e wa ⟨rfl, hb⟩; have MN := Lib.hid (M.out.next hb); have VN := Lib.hid (V.out.next hb); clear M V hb r0 r1 r2 r3 r4 r5 v0 v1 v2 v3 v4 v5 v6 v7 v8 v9; have M := MN; have V := VN; clear MN VN; obtain ⟨⟨r0, r1, r2, r3⟩, r4, r5⟩ := M.out.cells; obtain ⟨⟨v0, v1⟩, ⟨v2, v3, v4, v5⟩, v6, v7, v8, v9⟩ := V.out.cells)
              | (go_at_call 25; refine (H25.out _ M.out.H M.out.j).mono ?_; clear H25; rintro e wb ⟨rfl, hb⟩; have MN := Lib.hid (M.out.next hb); have VN := Lib.hid (V.out.next hb); clear M V hb r0 r1 r2 r3 r4 r5 v0 v1 v2 v3 v4 v5 v6 v7 v8 v9; have M := MN; have V := VN; clear MN VN; obtain ⟨⟨r0, r1, r2, r3⟩, r4, r5⟩ := M.out.cells; obtain ⟨⟨v0, v1⟩, ⟨v2, v3, v4, v5⟩, v6, v7, v8, v9⟩ := V.out.cells))
            go_region_held3 (fun w' => ((w'.cell? ⟨w.heap.size, 0, none⟩ = some (.int .i64 s.wl) ∧ w'.cell? ⟨w.heap.size, 1, none⟩ = some (.int .i64 s.wh) ∧ w'.cell? ⟨w.heap.size, 2, none⟩ = some (.slice Ap s.ps.length cp) ∧ w'.cell? ⟨w.heap.size, 3, none⟩ = some (.slice Ab s.bs.length cb)) ∧ w'.cell? ⟨w.heap.size + 1, 0, none⟩ = some (.slice A2 x.length c2) ∧ w'.cell? ⟨w.heap.size + 1, 1, none⟩ = some (.slice A3 c.length c3)) ∧ (w'.cell? ⟨q1, 0, none⟩ = some (.int .i64 lo) ∧ w'.cell? ⟨q1, 1, none⟩ = some (.int .i64 hi) ∧ w'.cell? ⟨q1, 2, none⟩ = some (.slice Bp s.ps.length dp) ∧ w'.cell? ⟨q1, 3, none⟩ = some (.slice Bb s.bs.length db)) ∧ (w'.cell? ⟨q2, 0, none⟩ = some (.int .i64 n) ∧ w'.cell? ⟨q2, 1, none⟩ = some (.int .i64 n) ∧ w'.cell? ⟨q2, 2, none⟩ = some (.slice Dp s.ps.length ep) ∧ w'.cell? ⟨q2, 3, none⟩ = some (.slice Db s.bs.length eb))) (first | go_keep)
              (first
                | (refine step_copyG (by rfl) _ _ (by rfl) wb.heap.size _ [] (by rfl) (by first | exact Li.rows_made1 _ | exact Li.rows_made2 _ | exact Li.rows_made3 _) A3 c3 c c.length rfl HA3.out (by rfl) (M.out.next (by first | exact Li.rows_belowL _ _ | exact hb0to (Li.drew_belowL _) (al_below _ _) | exact al_below _ _)).j (by simp) HLL.out (by first | (simp; done) | (simp; omega)) ?_; intro v3' wc h1 h2 h3; have hb : Below wb.heap.size wb wc := (by first | exact (Li.rows_belowL _ _).trans h2 | exact (hb0to (Li.drew_belowL _) (al_below _ _)).trans h2 | exact (al_below _ _).trans h2); obtain ⟨A6, k6, rfl, -, -, hA6⟩ := (show Ints wc wb.heap.size v3' c from h1).lay; have I6 := Lib.hid (show Li.IntsAt wc wc.heap.size A6 c from hA6.at_); clear h1 h2 h3 hA6; have MN := Lib.hid (M.out.next hb); have VN := Lib.hid (V.out.next hb); clear M V hb r0 r1 r2 r3 r4 r5 v0 v1 v2 v3 v4 v5 v6 v7 v8 v9; have M := MN; have V := VN; clear MN VN; obtain ⟨⟨r0, r1, r2, r3⟩, r4, r5⟩ := M.out.cells; obtain ⟨⟨v0, v1⟩, ⟨v2, v3, v4, v5⟩, v6, v7, v8, v9⟩ := V.out.cells)
                | (go_at_call 26; refine (H26.out A6 k6 _ (V.out.next (by first | exact Below.refl _ _ | exact Li.drew_belowL _)).P (Li.ints_later I6.out (by first | exact Below.refl _ _ | exact Li.drew_belowL _))).mono ?_; clear H26; rintro e wd ⟨rfl, hb'⟩; have hb : Below wc.heap.size wc wd := (by first | exact hb' | exact hb0to (Li.drew_belowL _) hb'); clear hb' I6; have MN := Lib.hid (M.out.next hb); have VN := Lib.hid (V.out.next hb); clear M V hb r0 r1 r2 r3 r4 r5 v0 v1 v2 v3 v4 v5 v6 v7 v8 v9; have M := MN; have V := VN; clear MN VN; obtain ⟨⟨r0, r1, r2, r3⟩, r4, r5⟩ := M.out.cells; obtain ⟨⟨v0, v1⟩, ⟨v2, v3, v4, v5⟩, v6, v7, v8, v9⟩ := V.out.cells))
            go_wp2_with (fail)
            go_region_held3 (fun w' => ((w'.cell? ⟨w.heap.size, 0, none⟩ = some (.int .i64 s.wl) ∧ w'.cell? ⟨w.heap.size, 1, none⟩ = some (.int .i64 s.wh) ∧ w'.cell? ⟨w.heap.size, 2, none⟩ = some (.slice Ap s.ps.length cp) ∧ w'.cell? ⟨w.heap.size, 3, none⟩ = some (.slice Ab s.bs.length cb)) ∧ w'.cell? ⟨w.heap.size + 1, 0, none⟩ = some (.slice A2 x.length c2) ∧ w'.cell? ⟨w.heap.size + 1, 1, none⟩ = some (.slice A3 c.length c3)) ∧ (w'.cell? ⟨q1, 0, none⟩ = some (.int .i64 lo) ∧ w'.cell? ⟨q1, 1, none⟩ = some (.int .i64 hi) ∧ w'.cell? ⟨q1, 2, none⟩ = some (.slice Bp s.ps.length dp) ∧ w'.cell? ⟨q1, 3, none⟩ = some (.slice Bb s.bs.length db)) ∧ (w'.cell? ⟨q2, 0, none⟩ = some (.int .i64 n) ∧ w'.cell? ⟨q2, 1, none⟩ = some (.int .i64 n) ∧ w'.cell? ⟨q2, 2, none⟩ = some (.slice Dp s.ps.length ep) ∧ w'.cell? ⟨q2, 3, none⟩ = some (.slice Db s.bs.length eb))) (first | go_keep)
              (first
                | (refine step_copyG (by rfl) _ _ (by rfl) wd.heap.size _ [] (by rfl) (by first | exact Li.rows_made1 _ | exact Li.rows_made2 _ | exact Li.rows_made3 _) A3 c3 c c.length rfl HA3.out (by rfl) (M.out.next (by first | exact Li.rows_belowL _ _ | exact hb0to (Li.drew_belowL _) (al_below _ _) | exact al_below _ _)).j (by simp) HLL.out (by first | (simp; done) | (simp; omega)) ?_; intro v3' we h1 h2 h3; have hb : Below wd.heap.size wd we := (by first | exact (Li.rows_belowL _ _).trans h2 | exact (hb0to (Li.drew_belowL _) (al_below _ _)).trans h2 | exact (al_below _ _).trans h2); obtain ⟨A6, k6, rfl, -, -, hA6⟩ := (show Ints we wd.heap.size v3' c from h1).lay; have I6 := Lib.hid (show Li.IntsAt we we.heap.size A6 c from hA6.at_); clear h1 h2 h3 hA6; have MN := Lib.hid (M.out.next hb); have VN := Lib.hid (V.out.next hb); clear M V hb r0 r1 r2 r3 r4 r5 v0 v1 v2 v3 v4 v5 v6 v7 v8 v9; have M := MN; have V := VN; clear MN VN; obtain ⟨⟨r0, r1, r2, r3⟩, r4, r5⟩ := M.out.cells; obtain ⟨⟨v0, v1⟩, ⟨v2, v3, v4, v5⟩, v6, v7, v8, v9⟩ := V.out.cells)
                | (go_at_call 27; refine (H27.out A6 k6 _ (V.out.next (by first | exact Below.refl _ _ | exact Li.drew_belowL _)).O (Li.ints_later I6.out (by first | exact Below.refl _ _ | exact Li.drew_belowL _))).mono ?_; clear H27; rintro e wf ⟨rfl, hb'⟩; have hb : Below we.heap.size we wf := (by first | exact hb' | exact hb0to (Li.drew_belowL _) hb'); clear hb' I6; have MN := Lib.hid (M.out.next hb); have VN := Lib.hid (V.out.next hb); clear M V hb r0 r1 r2 r3 r4 r5 v0 v1 v2 v3 v4 v5 v6 v7 v8 v9; have M := MN; have V := VN; clear MN VN; obtain ⟨⟨r0, r1, r2, r3⟩, r4, r5⟩ := M.out.cells; obtain ⟨⟨v0, v1⟩, ⟨v2, v3, v4, v5⟩, v6, v7, v8, v9⟩ := V.out.cells))
            go_wp2_with (first
              | (go_at_call 28; refine (HWI.out _).mono ?_; clear HWI; rintro e wy ⟨rfl, rfl⟩)
              | (go_at_call 19; refine (hauled_any _).mono ?_; rintro e wz ⟨rfl, hb⟩; have MN := Lib.hid (M.out.next hb); clear M; have M := MN))
            go_ret
            exact ⟨rfl, M.out.B⟩
          · have q9' : ¬ k1 = 1 := fun h => qb' (hsl.1 h)
            have qa' : decide (k1 = 1) = false := decide_eq_false q9'
            have qd' : (k1 == 1) = false := by simp [q9']
            have qc' : decide (n ≤ l) = false := decide_eq_false qb'
            clear hsl
            go_upto_region 22 with (first
              | (go_at_call 23; refine (H23.out _ V.out.O).mono ?_; clear H23; rintro e w9 ⟨rfl, hb⟩; have MN := Lib.hid (M.out.next hb); have VN := Lib.hid (V.out.next hb); clear M V hb r0 r1 r2 r3 r4 r5 v0 v1 v2 v3 v4 v5 v6 v7 v8 v9; have M := MN; have V := VN; clear MN VN; obtain ⟨⟨r0, r1, r2, r3⟩, r4, r5⟩ := M.out.cells; obtain ⟨⟨v0, v1⟩, ⟨v2, v3, v4, v5⟩, v6, v7, v8, v9⟩ := V.out.cells)
              | (go_at_call 24; refine (H24.out _ V.out.P).mono ?_; clear H24; rintro e wa ⟨rfl, hb⟩; have MN := Lib.hid (M.out.next hb); have VN := Lib.hid (V.out.next hb); clear M V hb r0 r1 r2 r3 r4 r5 v0 v1 v2 v3 v4 v5 v6 v7 v8 v9; have M := MN; have V := VN; clear MN VN; obtain ⟨⟨r0, r1, r2, r3⟩, r4, r5⟩ := M.out.cells; obtain ⟨⟨v0, v1⟩, ⟨v2, v3, v4, v5⟩, v6, v7, v8, v9⟩ := V.out.cells)
              | (go_at_call 25; refine (H25.out _ M.out.H M.out.j).mono ?_; clear H25; rintro e wb ⟨rfl, hb⟩; have MN := Lib.hid (M.out.next hb); have VN := Lib.hid (V.out.next hb); clear M V hb r0 r1 r2 r3 r4 r5 v0 v1 v2 v3 v4 v5 v6 v7 v8 v9; have M := MN; have V := VN; clear MN VN; obtain ⟨⟨r0, r1, r2, r3⟩, r4, r5⟩ := M.out.cells; obtain ⟨⟨v0, v1⟩, ⟨v2, v3, v4, v5⟩, v6, v7, v8, v9⟩ := V.out.cells))
            go_region_held3 (fun w' => ((w'.cell? ⟨w.heap.size, 0, none⟩ = some (.int .i64 s.wl) ∧ w'.cell? ⟨w.heap.size, 1, none⟩ = some (.int .i64 s.wh) ∧ w'.cell? ⟨w.heap.size, 2, none⟩ = some (.slice Ap s.ps.length cp) ∧ w'.cell? ⟨w.heap.size, 3, none⟩ = some (.slice Ab s.bs.length cb)) ∧ w'.cell? ⟨w.heap.size + 1, 0, none⟩ = some (.slice A2 x.length c2) ∧ w'.cell? ⟨w.heap.size + 1, 1, none⟩ = some (.slice A3 c.length c3)) ∧ (w'.cell? ⟨q1, 0, none⟩ = some (.int .i64 lo) ∧ w'.cell? ⟨q1, 1, none⟩ = some (.int .i64 hi) ∧ w'.cell? ⟨q1, 2, none⟩ = some (.slice Bp s.ps.length dp) ∧ w'.cell? ⟨q1, 3, none⟩ = some (.slice Bb s.bs.length db)) ∧ (w'.cell? ⟨q2, 0, none⟩ = some (.int .i64 n) ∧ w'.cell? ⟨q2, 1, none⟩ = some (.int .i64 n) ∧ w'.cell? ⟨q2, 2, none⟩ = some (.slice Dp s.ps.length ep) ∧ w'.cell? ⟨q2, 3, none⟩ = some (.slice Db s.bs.length eb))) (first | go_keep)
              (first
                | (refine step_copyG (by rfl) _ _ (by rfl) wb.heap.size _ [] (by rfl) (by first | exact Li.rows_made1 _ | exact Li.rows_made2 _ | exact Li.rows_made3 _) A3 c3 c c.length rfl HA3.out (by rfl) (M.out.next (by first | exact Li.rows_belowL _ _ | exact hb0to (Li.drew_belowL _) (al_below _ _) | exact al_below _ _)).j (by simp) HLL.out (by first | (simp; done) | (simp; omega)) ?_; intro v3' wc h1 h2 h3; have hb : Below wb.heap.size wb wc := (by first | exact (Li.rows_belowL _ _).trans h2 | exact (hb0to (Li.drew_belowL _) (al_below _ _)).trans h2 | exact (al_below _ _).trans h2); obtain ⟨A6, k6, rfl, -, -, hA6⟩ := (show Ints wc wb.heap.size v3' c from h1).lay; have I6 := Lib.hid (show Li.IntsAt wc wc.heap.size A6 c from hA6.at_); clear h1 h2 h3 hA6; have MN := Lib.hid (M.out.next hb); have VN := Lib.hid (V.out.next hb); clear M V hb r0 r1 r2 r3 r4 r5 v0 v1 v2 v3 v4 v5 v6 v7 v8 v9; have M := MN; have V := VN; clear MN VN; obtain ⟨⟨r0, r1, r2, r3⟩, r4, r5⟩ := M.out.cells; obtain ⟨⟨v0, v1⟩, ⟨v2, v3, v4, v5⟩, v6, v7, v8, v9⟩ := V.out.cells)
                | (go_at_call 26; refine (H26.out A6 k6 _ (V.out.next (by first | exact Below.refl _ _ | exact Li.drew_belowL _)).P (Li.ints_later I6.out (by first | exact Below.refl _ _ | exact Li.drew_belowL _))).mono ?_; clear H26; rintro e wd ⟨rfl, hb'⟩; have hb : Below wc.heap.size wc wd := (by first | exact hb' | exact hb0to (Li.drew_belowL _) hb'); clear hb' I6; have MN := Lib.hid (M.out.next hb); have VN := Lib.hid (V.out.next hb); clear M V hb r0 r1 r2 r3 r4 r5 v0 v1 v2 v3 v4 v5 v6 v7 v8 v9; have M := MN; have V := VN; clear MN VN; obtain ⟨⟨r0, r1, r2, r3⟩, r4, r5⟩ := M.out.cells; obtain ⟨⟨v0, v1⟩, ⟨v2, v3, v4, v5⟩, v6, v7, v8, v9⟩ := V.out.cells))
            go_wp2_with (fail)
            go_region_held3 (fun w' => ((w'.cell? ⟨w.heap.size, 0, none⟩ = some (.int .i64 s.wl) ∧ w'.cell? ⟨w.heap.size, 1, none⟩ = some (.int .i64 s.wh) ∧ w'.cell? ⟨w.heap.size, 2, none⟩ = some (.slice Ap s.ps.length cp) ∧ w'.cell? ⟨w.heap.size, 3, none⟩ = some (.slice Ab s.bs.length cb)) ∧ w'.cell? ⟨w.heap.size + 1, 0, none⟩ = some (.slice A2 x.length c2) ∧ w'.cell? ⟨w.heap.size + 1, 1, none⟩ = some (.slice A3 c.length c3)) ∧ (w'.cell? ⟨q1, 0, none⟩ = some (.int .i64 lo) ∧ w'.cell? ⟨q1, 1, none⟩ = some (.int .i64 hi) ∧ w'.cell? ⟨q1, 2, none⟩ = some (.slice Bp s.ps.length dp) ∧ w'.cell? ⟨q1, 3, none⟩ = some (.slice Bb s.bs.length db)) ∧ (w'.cell? ⟨q2, 0, none⟩ = some (.int .i64 n) ∧ w'.cell? ⟨q2, 1, none⟩ = some (.int .i64 n) ∧ w'.cell? ⟨q2, 2, none⟩ = some (.slice Dp s.ps.length ep) ∧ w'.cell? ⟨q2, 3, none⟩ = some (.slice Db s.bs.length eb))) (first | go_keep)
              (first
                | (refine step_copyG (by rfl) _ _ (by rfl) wd.heap.size _ [] (by rfl) (by first | exact Li.rows_made1 _ | exact Li.rows_made2 _ | exact Li.rows_made3 _) A3 c3 c c.length rfl HA3.out (by rfl) (M.out.next (by first | exact Li.rows_belowL _ _ | exact hb0to (Li.drew_belowL _) (al_below _ _) | exact al_below _ _)).j (by simp) HLL.out (by first | (simp; done) | (simp; omega)) ?_; intro v3' we h1 h2 h3; have hb : Below wd.heap.size wd we := (by first | exact (Li.rows_belowL _ _).trans h2 | exact (hb0to (Li.drew_belowL _) (al_below _ _)).trans h2 | exact (al_below _ _).trans h2); obtain ⟨A6, k6, rfl, -, -, hA6⟩ := (show Ints we wd.heap.size v3' c from h1).lay; have I6 := Lib.hid (show Li.IntsAt we we.heap.size A6 c from hA6.at_); clear h1 h2 h3 hA6; have MN := Lib.hid (M.out.next hb); have VN := Lib.hid (V.out.next hb); clear M V hb r0 r1 r2 r3 r4 r5 v0 v1 v2 v3 v4 v5 v6 v7 v8 v9; have M := MN; have V := VN; clear MN VN; obtain ⟨⟨r0, r1, r2, r3⟩, r4, r5⟩ := M.out.cells; obtain ⟨⟨v0, v1⟩, ⟨v2, v3, v4, v5⟩, v6, v7, v8, v9⟩ := V.out.cells)
                | (go_at_call 27; refine (H27.out A6 k6 _ (V.out.next (by first | exact Below.refl _ _ | exact Li.drew_belowL _)).O (Li.ints_later I6.out (by first | exact Below.refl _ _ | exact Li.drew_belowL _))).mono ?_; clear H27; rintro e wf ⟨rfl, hb'⟩; have hb : Below we.heap.size we wf := (by first | exact hb' | exact hb0to (Li.drew_belowL _) hb'); clear hb' I6; have MN := Lib.hid (M.out.next hb); have VN := Lib.hid (V.out.next hb); clear M V hb r0 r1 r2 r3 r4 r5 v0 v1 v2 v3 v4 v5 v6 v7 v8 v9; have M := MN; have V := VN; clear MN VN; obtain ⟨⟨r0, r1, r2, r3⟩, r4, r5⟩ := M.out.cells; obtain ⟨⟨v0, v1⟩, ⟨v2, v3, v4, v5⟩, v6, v7, v8, v9⟩ := V.out.cells))
            go_wp2_with (first
              | (go_at_call 28; refine (HWI.out _).mono ?_; clear HWI; rintro e wy ⟨rfl, rfl⟩)
              | (go_at_call 19; refine (hauled_any _).mono ?_; rintro e wz ⟨rfl, hb⟩; have MN := Lib.hid (M.out.next hb); clear M; have M := MN))
            go_ret
            exact ⟨rfl, M.out.B⟩

end Go.Proofs.Ytmbcpmnigggbaaa.Cu
