import Derived.Test.YtmbcpmnigggbaaaS4
import Derived.Test.YtmbcpmnigggbaaaLiM5
import Derived.Test.YtmbcpmnigggbaaaL3
import Derived.Test.YtmbcpmnigggbaaaF6
namespace Go.Proofs.Ytmbcpmnigggbaaa.Li
open Go.RowKit
attribute [local go_sem] Oper.semAt_some
set_option maxRecDepth 100000 in
set_option maxHeartbeats 4000000 in
theorem withCatch_any (L : SL) (s : Sea) (hn : s.ps.length ≤ 1000 ∧ s.bs.length ≤ 1000) (hok : SLOK L s) (a b : Int) (h0 : 0 ≤ a ∧ a ≤ 2000) (h1 : 0 ≤ b ∧ b ≤ 2000) (w : World) (hH : SeaAt w w.heap.size L s) :
    Calls Try.prog 21 #[L.enc s, .agg #[.int .i64 a, .int .i64 b], .int .i64 1] w fun e w' => (∃ L2 : SL, e = .returned (L2.enc (setW s a b)) ∧ SeaAt w' w'.heap.size L2 (setW s a b)) ∧ Below w.heap.size w w' := by
  have hw1 : IntKind.i64.wrap a = a := IntWalk.i64_in _ (by omega)
  have hw2 : IntKind.i64.wrap b = b := IntWalk.i64_in _ (by omega)
  have hw3 : IntKind.i64.wrap (a * 1) = a := by rw [Int.mul_one]; exact hw1
  have hw4 : IntKind.i64.wrap (b * 1) = b := by rw [Int.mul_one]; exact hw2
  obtain ⟨Ap, cp, Ab, cb⟩ := L
  have hX := heap_keep (o' := .cells #[.int .i64 0, .int .i64 0, .slice none 0 0, .slice none 0 0] 44) (heap_keep (o' := .cells #[.int .i64 a, .int .i64 b] 35) (heap_new1 w (.cells #[.int .i64 s.wl, .int .i64 s.wh, .slice Ap s.ps.length cp, .slice Ab s.bs.length cb] 44)))
  have hF := heap_keep (o' := .cells #[.int .i64 0, .int .i64 0, .slice none 0 0, .slice none 0 0] 44) (heap_new2 w (.cells #[.int .i64 s.wl, .int .i64 s.wh, .slice Ap s.ps.length cp, .slice Ab s.bs.length cb] 44) (.cells #[.int .i64 a, .int .i64 b] 35))
  have hR := heap_new3 w (.cells #[.int .i64 s.wl, .int .i64 s.wh, .slice Ap s.ps.length cp, .slice Ab s.bs.length cb] 44) (.cells #[.int .i64 a, .int .i64 b] 35) (.cells #[.int .i64 0, .int .i64 0, .slice none 0 0, .slice none 0 0] 44)
  have hb := hb0to (hb0to (al_below w (.cells #[.int .i64 s.wl, .int .i64 s.wh, .slice Ap s.ps.length cp, .slice Ab s.bs.length cb] 44)) (al_below _ (.cells #[.int .i64 a, .int .i64 b] 35))) (al_below _ (.cells #[.int .i64 0, .int .i64 0, .slice none 0 0, .slice none 0 0] 44))
  obtain ⟨W0, hW0⟩ : ∃ W0, ((w.alloc (.cells #[.int .i64 s.wl, .int .i64 s.wh, .slice Ap s.ps.length cp, .slice Ab s.bs.length cb] 44)).alloc (.cells #[.int .i64 a, .int .i64 b] 35)).alloc (.cells #[.int .i64 0, .int .i64 0, .slice none 0 0, .slice none 0 0] 44) = W0 := ⟨_, rfl⟩
  rw [hW0] at hX hF hR hb
  have HC := Lib.hid (copy_any ⟨Ap, cp, Ab, cb⟩ s hn hok W0 (hH.below hb))
  have HF := Lib.hid hF
  have HR := Lib.hid hR
  have HB := Lib.hid hb
  have HW0 := Lib.hid hW0
  obtain ⟨c0, c1, c2, c3⟩ := (show SBox W0 w.heap.size ⟨Ap, cp, Ab, cb⟩ s from hX).cells
  clear hX hF hR hb hW0 hH hok
  go_enter Try.func21, Try.ntmps21
  go_upto_region 1 with (fail)
  have e := HW0.out
  rw [e]
  clear e HW0
  go_upto_region 2 with (go_at_call 72; refine HC.out.mono ?_; clear HC; rintro e w2 ⟨⟨⟨Bp, dp, Bb, db⟩, rfl, hC⟩, hb2⟩; have HB2 := Lib.hid hb2; have HC2 := Lib.hid hC; clear hb2 hC)
  have hbn := al_below w2 (.cells #[.int .i64 s.wl, .int .i64 s.wh, .slice Bp s.ps.length dp, .slice Bb s.bs.length db] 44)
  have hx3 := heap_new1 w2 (.cells #[.int .i64 s.wl, .int .i64 s.wh, .slice Bp s.ps.length dp, .slice Bb s.bs.length db] 44)
  have hb3 := hb0to HB2.out hbn
  have hc3 := HC2.out.below hbn
  have hsz : w2.heap.size ≠ w.heap.size + 1 + 1 := by have := heap_lt HR.out; have := HB2.out.size; omega
  have hsz2 : W0.heap.size ≤ w2.heap.size := HB2.out.size
  obtain ⟨z, hz⟩ : ∃ z, w2.heap.size = z := ⟨_, rfl⟩
  obtain ⟨W3, hW3⟩ : ∃ W3, w2.alloc (.cells #[.int .i64 s.wl, .int .i64 s.wh, .slice Bp s.ps.length dp, .slice Bb s.bs.length db] 44) = W3 := ⟨_, rfl⟩
  rw [hW3] at hx3 hb3 hc3 ⊢
  rw [hz] at hx3 hsz hsz2 ⊢
  have hf3 := (hb3.block _ (heap_lt HF.out)).trans HF.out
  have hr3 := (hb3.block _ (heap_lt HR.out)).trans HR.out
  have f0 := cell_of_heap (o := 0) hf3 rfl
  have f1 := cell_of_heap (o := 1) hf3 rfl
  have x0 := cell_of_heap (o := 0) hx3 rfl
  have x1 := cell_of_heap (o := 1) hx3 rfl
  have xf := frozen_of_heap hx3
  have HX3 := Lib.hid hx3
  have HR3 := Lib.hid hr3
  have HB3 := Lib.hid hb3
  have HC3 := Lib.hid hc3
  clear hbn hx3 hb3 hc3 hf3 hr3 hW3 hz c0 c1 c2 c3
  go_upto_region 3 with (fail)
  have hx4 := heap_set (o := 1) (.int .i64 b) (heap_set (o := 0) (.int .i64 a) HX3.out)
  have hx35 := heap_set (o := 0) (.int .i64 a) HX3.out
  have hp4 : OwnsP ((W3.setCell ⟨z, 0, none⟩ (.int .i64 a)).setCell ⟨z, 1, none⟩ (.int .i64 b)) 35 W0.heap.size (.slice Bp s.ps.length dp) s.ps := owns_set (owns_set HC3.out.p (by decide) HX3.out) (by decide) hx35
  have hq4 : OwnsP ((W3.setCell ⟨z, 0, none⟩ (.int .i64 a)).setCell ⟨z, 1, none⟩ (.int .i64 b)) 66 W0.heap.size (.slice Bb s.bs.length db) s.bs := owns_set (owns_set HC3.out.b (by decide) HX3.out) (by decide) hx35
  have hr4 : ZBox ((W3.setCell ⟨z, 0, none⟩ (.int .i64 a)).setCell ⟨z, 1, none⟩ (.int .i64 b)) (w.heap.size + 1 + 1) := (set_other_heap (by rw [World.size_setCell]; exact heap_lt HR3.out) (Ne.symm hsz)).trans ((set_other_heap (heap_lt HR3.out) (Ne.symm hsz)).trans HR3.out)
  have hb4 := (HB3.out.setCell (p := ⟨z, 0, none⟩) hsz2 (.int .i64 a)).setCell (p := ⟨z, 1, none⟩) hsz2 (.int .i64 b)
  obtain ⟨W4, hW4⟩ : ∃ W4, (W3.setCell ⟨z, 0, none⟩ (.int .i64 a)).setCell ⟨z, 1, none⟩ (.int .i64 b) = W4 := ⟨_, rfl⟩
  rw [hW4] at hx4 hp4 hq4 hr4 hb4 ⊢
  clear hW4 x0 x1 xf f0 f1 hx35
  have x0 := cell_of_heap (o := 0) hx4 rfl
  have x1 := cell_of_heap (o := 1) hx4 rfl
  have x2 := cell_of_heap (o := 2) hx4 rfl
  have x3 := cell_of_heap (o := 3) hx4 rfl
  have zc := hr4.cells
  have zf := hr4.frozen
  have HP4 := Lib.hid hp4
  have HQ4 := Lib.hid hq4
  have HR4 := Lib.hid hr4
  have HB4 := Lib.hid hb4
  clear hx4 hp4 hq4 hr4 hb4
  go_upto_region 4 with (fail)
  (try simp only [Exit.inBlock, Exit.then])
  refine bodyPost_ret (results_cell rfl rfl (HR4.out.load _ _ _ _)) rfl ?_
  refine ⟨⟨⟨Bp, dp, Bb, db⟩, rfl, (ownsP_at (show OwnsP _ 35 W0.heap.size _ _ from HR4.out.owns HP4.out (by decide) _ _ _ _)).1, (ownsP_at (show OwnsP _ 66 W0.heap.size _ _ from HR4.out.owns HQ4.out (by decide) _ _ _ _)).1⟩, below_set4 (hb0to HB.out HB4.out) (by omega) _ _ _ _⟩
theorem rows_made1 (w : World) : Ints (w.alloc (.cells #[] 3)).drew w.heap.size (.slice (some ⟨w.heap.size, 0, none⟩) 0 0) [] := ints_made w _ (Nat.le_refl _)
theorem rows_made2 (w : World) : Ints (w.drew.alloc (.cells #[] 3)) w.heap.size (.slice (some ⟨w.heap.size, 0, none⟩) 0 0) [] := ints_made w.drew _ (Nat.le_refl _)
theorem rows_made3 (w : World) : Ints (w.alloc (.cells #[] 3)) w.heap.size (.slice (some ⟨w.heap.size, 0, none⟩) 0 0) [] := ints_made w _ (Nat.le_refl _)
theorem drew_belowL (w : World) : Below w.heap.size w w.drew := (Below.refl _ w).drew
theorem rows_belowL (w : World) (o : Obj) : Below w.heap.size w (w.alloc o).drew := ((Below.refl _ _).alloc (Nat.le_refl _) o).drew
/-- Two seas and a crew. -/
structure TMem (w : World) (s : Sea) (n a b : Int) (Ap : Option Addr) (cp : Nat) (Ab : Option Addr) (cb : Nat) (Bp : Option Addr) (dp : Nat) (Bb : Option Addr) (db : Nat) (A : Option Addr) (c : List Int) (W : World) : Prop where
  B : Below w.heap.size w W
  H : SeaAt W W.heap.size ⟨Ap, cp, Ab, cb⟩ (setW s n n)
  O : SeaAt W W.heap.size ⟨Bp, dp, Bb, db⟩ (setW s a b)
  x : SBox W w.heap.size ⟨Ap, cp, Ab, cb⟩ (setW s n n)
  y : SBox W (w.heap.size + 1) ⟨Bp, dp, Bb, db⟩ (setW s a b)
  i : IntsAt W W.heap.size A c
section
variable {w : World} {s : Sea} {n a b : Int} {Ap : Option Addr} {cp : Nat} {Ab : Option Addr} {cb : Nat} {Bp : Option Addr} {dp : Nat} {Bb : Option Addr} {db : Nat} {A : Option Addr} {c : List Int} {W : World}
theorem TMem.next (M : TMem w s n a b Ap cp Ab cb Bp dp Bb db A c W) {wn : World} (hb : Below W.heap.size W wn) : TMem w s n a b Ap cp Ab cb Bp dp Bb db A c wn :=
  ⟨hb0to M.B hb, M.H.below hb, M.O.below hb, M.x.of (hb.block _ M.x.lt), M.y.of (hb.block _ M.y.lt), ints_later M.i hb⟩
theorem TMem.cells (M : TMem w s n a b Ap cp Ab cb Bp dp Bb db A c W) : (W.cell? ⟨w.heap.size, 0, none⟩ = some (.int .i64 n) ∧ W.cell? ⟨w.heap.size, 1, none⟩ = some (.int .i64 n) ∧ W.cell? ⟨w.heap.size, 2, none⟩ = some (.slice Ap s.ps.length cp) ∧ W.cell? ⟨w.heap.size, 3, none⟩ = some (.slice Ab s.bs.length cb)) ∧
    W.cell? ⟨w.heap.size + 1, 0, none⟩ = some (.int .i64 a) ∧ W.cell? ⟨w.heap.size + 1, 1, none⟩ = some (.int .i64 b) ∧ W.cell? ⟨w.heap.size + 1, 2, none⟩ = some (.slice Bp s.ps.length dp) ∧ W.cell? ⟨w.heap.size + 1, 3, none⟩ = some (.slice Bb s.bs.length db) := ⟨M.x.cells, M.y.cells⟩
end
/-- What Cheap says of the two. -/
theorem cheap_two {s : Sea} (hv : validS s = true) {a n b : Int} (h0 : 0 ≤ a) (h1 : a ≤ n) (h2 : n ≤ b) (h3 : b ≤ 2000) : ∃ m e k f, cheapRet (setW s a b) = (m, e) ∧ cheapRet (setW s n n) = (k, f) ∧ (e = 3 ∨ (e = 0 ∧ f = 0 ∧ 0 ≤ k ∧ k ≤ m)) := by
  have hS := SOK.ofValid hv
  have v1 := askS_true (setW_valid hv h0 (by omega : a ≤ b) h3)
  have v2 := askS_true (setW_valid hv (by omega : 0 ≤ n) (Int.le_refl n) (by omega))
  have e1 : cheapRet (setW s a b) = match cheapS (setW s a b) with | none => (0, 3) | some (_, n) => (n, 0) := by unfold cheapRet; rw [if_neg (by omega)]; rfl
  have e2 : cheapRet (setW s n n) = match cheapS (setW s n n) with | none => (0, 3) | some (_, n) => (n, 0) := by unfold cheapRet; rw [if_neg (by omega)]; rfl
  cases hc : cheapS (setW s a b) with
  | none => exact ⟨0, 3, _, _, by rw [e1, hc], rfl, .inl rfl⟩
  | some qm =>
    obtain ⟨q, m⟩ := qm
    obtain ⟨r, k, h4, h5, h6⟩ := haul_cheap hS h0 h1 h2 h3 hc
    exact ⟨m, 0, k, 0, by rw [e1, hc], by rw [e2, h4], .inr ⟨rfl, rfl, h5, h6⟩⟩
set_option maxRecDepth 100000 in
set_option maxHeartbeats 4000000 in
theorem surer_any (s : Sea) (hv : validS s = true) (n a b : Int) (h0 : 0 ≤ a) (h1 : a ≤ n) (h2 : n ≤ b) (h3 : b ≤ 2000) (Ap : Option Addr) (cp : Nat) (Ab : Option Addr) (cb : Nat) (Bp : Option Addr) (dp : Nat) (Bb : Option Addr) (db : Nat) (A : Option Addr) (cv : Nat) (c : List Int) (hA : A = none → cv = 0 ∧ c = []) (hcv : c.length ≤ cv) (hcl : c.length ≤ 40) (w : World)
    (hH : SeaAt w w.heap.size ⟨Ap, cp, Ab, cb⟩ (setW s n n)) (hO : SeaAt w w.heap.size ⟨Bp, dp, Bb, db⟩ (setW s a b)) (hI : IntsAt w w.heap.size A c) :
    Calls Try.prog 22 #[.agg #[.int .i64 n, .int .i64 n, .slice Ap s.ps.length cp, .slice Ab s.bs.length cb], .agg #[.int .i64 a, .int .i64 b, .slice Bp s.ps.length dp, .slice Bb s.bs.length db], .slice A c.length cv] w fun e w' => e = .returned (.bool true) ∧ Below w.heap.size w w' := by
  have hS := SOK.ofValid hv
  have hSn := setW_ok hS (by omega : 0 ≤ n) (Int.le_refl n) (by omega)
  have hvn := setW_valid hv (by omega : 0 ≤ n) (Int.le_refl n) (by omega)
  have hva := setW_valid hv h0 (by omega : a ≤ b) h3
  have hb := hb0to (al_below w (.cells #[.int .i64 n, .int .i64 n, .slice Ap s.ps.length cp, .slice Ab s.bs.length cb] 44)) (al_below _ (.cells #[.int .i64 a, .int .i64 b, .slice Bp s.ps.length dp, .slice Bb s.bs.length db] 44))
  have hx := heap_keep (o' := .cells #[.int .i64 a, .int .i64 b, .slice Bp s.ps.length dp, .slice Bb s.bs.length db] 44) (heap_new1 w (.cells #[.int .i64 n, .int .i64 n, .slice Ap s.ps.length cp, .slice Ab s.bs.length cb] 44))
  have hy := heap_new2 w (.cells #[.int .i64 n, .int .i64 n, .slice Ap s.ps.length cp, .slice Ab s.bs.length cb] 44) (.cells #[.int .i64 a, .int .i64 b, .slice Bp s.ps.length dp, .slice Bb s.bs.length db] 44)
  obtain ⟨W0, hW0⟩ : ∃ W0, (w.alloc (.cells #[.int .i64 n, .int .i64 n, .slice Ap s.ps.length cp, .slice Ab s.bs.length cb] 44)).alloc (.cells #[.int .i64 a, .int .i64 b, .slice Bp s.ps.length dp, .slice Bb s.bs.length db] 44) = W0 := ⟨_, rfl⟩
  rw [hW0] at hb hx hy
  have M := Lib.hid (show TMem w s n a b Ap cp Ab cb Bp dp Bb db A c W0 from ⟨hb, hH.below hb, hO.below hb, hx, hy, ints_later hI hb⟩)
  have H25 := Lib.hid (fun W hW hI => rIsCrew_any ⟨Ap, cp, Ab, cb⟩ (setW s n n) hSn c A cv (by omega) hcv W hW hI)
  obtain ⟨m, er, k2, f, hc1, hc2, hout⟩ := cheap_two hv h0 h1 h2 h3
  have H24a := Lib.hid (fun W hW => Cheap_any ⟨Bp, dp, Bb, db⟩ (setW s a b) W hW)
  have H24b := Lib.hid (fun W hW => Cheap_any ⟨Ap, cp, Ab, cb⟩ (setW s n n) W hW)
  rw [hc1] at H24a
  rw [hc2] at H24b
  have HOUT := Lib.hid hout
  have HW0 := Lib.hid hW0
  have HA := Lib.hid hA
  have HLL : Hid (c.length ≤ 1000) := Lib.hid (by omega)
  obtain ⟨⟨r0, r1, r2, r3⟩, r4, r5, r6, r7⟩ := M.out.cells
  cases hcb : crewB (setW s n n) c
  · rw [hcb] at H25
    clear hb hx hy hW0 hH hO hI hv hvn hva hSn hS hc1 hc2 hout hA hcb
    go_enter Try.func22, Try.ntmps22
    go_upto_region 1 with (fail)
    have e := HW0.out
    rw [e]
    clear e HW0
    go_upto_region 6 with (go_at_call 25; refine (H25.out W0 M.out.H M.out.i).mono ?_; clear H25; rintro e w1 ⟨rfl, hb⟩; have MN := Lib.hid (M.out.next hb); clear M hb r0 r1 r2 r3 r4 r5 r6 r7; have M := MN; clear MN; obtain ⟨⟨r0, r1, r2, r3⟩, r4, r5, r6, r7⟩ := M.out.cells)
    go_upto_region 8 with (first
      | (go_at_call 24; have HX := H24a; clear H24a; refine (HX.out _ M.out.O).mono ?_; clear HX; rintro e w5 ⟨rfl, hb⟩; have MN := Lib.hid (M.out.next hb); clear M hb r0 r1 r2 r3 r4 r5 r6 r7; have M := MN; clear MN; obtain ⟨⟨r0, r1, r2, r3⟩, r4, r5, r6, r7⟩ := M.out.cells)
      | (go_at_call 24; refine (H24b.out _ M.out.H).mono ?_; clear H24b; rintro e w6 ⟨rfl, hb⟩; have MN := Lib.hid (M.out.next hb); clear M hb; have M := MN; clear MN))
    clear r0 r1 r2 r3 r4 r5 r6 r7
    rcases HOUT.out with rfl | ⟨rfl, rfl, ho1, ho2⟩
    · go_wp2_with (fail)
      go_ret
      exact ⟨rfl, M.out.B⟩
    · go_wp2_with (fail)
      go_ret
      exact ⟨rfl, M.out.B⟩
  · rw [hcb] at H25
    have hcr : CrewOf s.bs.length s.ps.length c := crewB_iff.1 hcb
    have hcb2 : crewB (setW s a b) c = true := hcb
    obtain ⟨g1, g2⟩ := haul_safe hS h0 h1 h2 h3 hcr
    have H26a := Lib.hid (fun A' cx W hW hI => Safe_any ⟨Bp, dp, Bb, db⟩ (setW s a b) c A' cx (by omega) W hW hI)
    have H26b := Lib.hid (fun A' cx W hW hI => Safe_any ⟨Ap, cp, Ab, cb⟩ (setW s n n) c A' cx (by omega) W hW hI)
    rw [safe_ret hva hcb2] at H26a
    rw [safe_ret hvn hcb] at H26b
    have hk123 : safeN (setW s a b) c = 1 ∨ safeN (setW s a b) c = 2 ∨ safeN (setW s a b) c = 3 := by
      rcases safeN_cases (setW s a b) c with ⟨h, _⟩ | ⟨h, _⟩ | ⟨h, _⟩
      · exact .inl h
      · exact .inr (.inl h)
      · exact .inr (.inr h)
    obtain ⟨k, hk⟩ : ∃ k, safeN (setW s a b) c = k := ⟨_, rfl⟩
    obtain ⟨l, hl⟩ : ∃ l, safeN (setW s n n) c = l := ⟨_, rfl⟩
    rw [hk] at H26a g1 g2 hk123
    rw [hl] at H26b g1 g2
    have HG1 := Lib.hid g1
    have HG2 := Lib.hid g2
    have HK := Lib.hid hk123
    clear hb hx hy hW0 hH hO hI hv hvn hva hSn hS hc1 hc2 hout hA hcb hcb2 hcr g1 g2 hk hl hk123
    go_enter Try.func22, Try.ntmps22
    go_upto_region 1 with (fail)
    have e := HW0.out
    rw [e]
    clear e HW0
    go_upto_region 2 with (go_at_call 25; refine (H25.out W0 M.out.H M.out.i).mono ?_; clear H25; rintro e w1 ⟨rfl, hb⟩; have MN := Lib.hid (M.out.next hb); clear M hb r0 r1 r2 r3 r4 r5 r6 r7; have M := MN; clear MN; obtain ⟨⟨r0, r1, r2, r3⟩, r4, r5, r6, r7⟩ := M.out.cells)
    go_region_held3 (fun w' => (w'.cell? ⟨w.heap.size, 0, none⟩ = some (.int .i64 n) ∧ w'.cell? ⟨w.heap.size, 1, none⟩ = some (.int .i64 n) ∧ w'.cell? ⟨w.heap.size, 2, none⟩ = some (.slice Ap s.ps.length cp) ∧ w'.cell? ⟨w.heap.size, 3, none⟩ = some (.slice Ab s.bs.length cb)) ∧ w'.cell? ⟨w.heap.size + 1, 0, none⟩ = some (.int .i64 a) ∧ w'.cell? ⟨w.heap.size + 1, 1, none⟩ = some (.int .i64 b) ∧ w'.cell? ⟨w.heap.size + 1, 2, none⟩ = some (.slice Bp s.ps.length dp) ∧ w'.cell? ⟨w.heap.size + 1, 3, none⟩ = some (.slice Bb s.bs.length db)) (first | go_keep)
      (first
        | (refine step_copyG (by rfl) _ _ (by rfl) w1.heap.size _ [] (by rfl) (by first | exact rows_made1 _ | exact rows_made2 _ | exact rows_made3 _) A cv c c.length rfl HA.out (by rfl) (M.out.next (by first | exact rows_belowL _ _ | exact hb0to (drew_belowL _) (al_below _ _) | exact al_below _ _)).i (by simp) HLL.out (by first | (simp; done) | (simp; omega)) ?_; intro v3 w2 h1 h2 h3; have hb3 : Below w1.heap.size w1 w2 := (by first | exact (rows_belowL _ _).trans h2 | exact (hb0to (drew_belowL _) (al_below _ _)).trans h2 | exact (al_below _ _).trans h2); have M3 := Lib.hid (M.out.next hb3); obtain ⟨A3, k3, rfl, -, -, hA3⟩ := (show Ints w2 w1.heap.size v3 c from h1).lay; have I3 := Lib.hid (show IntsAt w2 w2.heap.size A3 c from hA3.at_); obtain ⟨⟨t0, t1, t2, t3⟩, t4, t5, t6, t7⟩ := M3.out.cells; clear h1 h2 h3 hb3 hA3)
        | (go_at_call 26; refine (H26a.out A3 k3 _ (M3.out.next (by first | exact Below.refl _ _ | exact drew_belowL _)).O (ints_later I3.out (by first | exact Below.refl _ _ | exact drew_belowL _))).mono ?_; rintro e w3 ⟨rfl, hb4⟩; have M4 := Lib.hid (M3.out.next (by first | exact hb4 | exact hb0to (drew_belowL _) hb4)); obtain ⟨⟨x0, x1, x2, x3⟩, x4, x5, x6, x7⟩ := M4.out.cells; clear hb4))
    have MN := M4
    clear M M3 M4 I3 t0 t1 t2 t3 t4 t5 t6 t7 x0 x1 x2 x3 x4 x5 x6 x7 r0 r1 r2 r3 r4 r5 r6 r7
    have M := MN
    clear MN
    obtain ⟨⟨r0, r1, r2, r3⟩, r4, r5, r6, r7⟩ := M.out.cells
    go_wp2_with (fail)
    go_region_held3 (fun w' => (w'.cell? ⟨w.heap.size, 0, none⟩ = some (.int .i64 n) ∧ w'.cell? ⟨w.heap.size, 1, none⟩ = some (.int .i64 n) ∧ w'.cell? ⟨w.heap.size, 2, none⟩ = some (.slice Ap s.ps.length cp) ∧ w'.cell? ⟨w.heap.size, 3, none⟩ = some (.slice Ab s.bs.length cb)) ∧ w'.cell? ⟨w.heap.size + 1, 0, none⟩ = some (.int .i64 a) ∧ w'.cell? ⟨w.heap.size + 1, 1, none⟩ = some (.int .i64 b) ∧ w'.cell? ⟨w.heap.size + 1, 2, none⟩ = some (.slice Bp s.ps.length dp) ∧ w'.cell? ⟨w.heap.size + 1, 3, none⟩ = some (.slice Bb s.bs.length db)) (first | go_keep)
      (first
        | (refine step_copyG (by rfl) _ _ (by rfl) w3.heap.size _ [] (by rfl) (by first | exact rows_made1 _ | exact rows_made2 _ | exact rows_made3 _) A cv c c.length rfl HA.out (by rfl) (M.out.next (by first | exact rows_belowL _ _ | exact hb0to (drew_belowL _) (al_below _ _) | exact al_below _ _)).i (by simp) HLL.out (by first | (simp; done) | (simp; omega)) ?_; intro v3 w4 h1 h2 h3; have hb3 : Below w3.heap.size w3 w4 := (by first | exact (rows_belowL _ _).trans h2 | exact (hb0to (drew_belowL _) (al_below _ _)).trans h2 | exact (al_below _ _).trans h2); have M3 := Lib.hid (M.out.next hb3); obtain ⟨A3, k3, rfl, -, -, hA3⟩ := (show Ints w4 w3.heap.size v3 c from h1).lay; have I3 := Lib.hid (show IntsAt w4 w4.heap.size A3 c from hA3.at_); obtain ⟨⟨t0, t1, t2, t3⟩, t4, t5, t6, t7⟩ := M3.out.cells; clear h1 h2 h3 hb3 hA3)
        | (go_at_call 26; refine (H26b.out A3 k3 _ (M3.out.next (by first | exact Below.refl _ _ | exact drew_belowL _)).H (ints_later I3.out (by first | exact Below.refl _ _ | exact drew_belowL _))).mono ?_; rintro e w5 ⟨rfl, hb4⟩; have M4 := Lib.hid (M3.out.next (by first | exact hb4 | exact hb0to (drew_belowL _) hb4)); obtain ⟨⟨x0, x1, x2, x3⟩, x4, x5, x6, x7⟩ := M4.out.cells; clear hb4))
    have MN := M4
    clear M M3 M4 I3 t0 t1 t2 t3 t4 t5 t6 t7 x0 x1 x2 x3 x4 x5 x6 x7 r0 r1 r2 r3 r4 r5 r6 r7
    have M := MN
    clear MN
    obtain ⟨⟨r0, r1, r2, r3⟩, r4, r5, r6, r7⟩ := M.out.cells
    rcases HK.out with rfl | rfl | rfl
    · obtain rfl : l = 1 := HG1.out rfl
      go_upto_region 6 with (go_at_call 28; refine (within28_any 1 1 3 _).mono ?_; rw [show inR 1 1 3 = true from rfl]; rintro e w7 ⟨rfl, rfl⟩)
      go_upto_region 8 with (first
        | (go_at_call 24; have HX := H24a; clear H24a; refine (HX.out _ M.out.O).mono ?_; clear HX; rintro e w5 ⟨rfl, hb⟩; have MN := Lib.hid (M.out.next hb); clear M hb r0 r1 r2 r3 r4 r5 r6 r7; have M := MN; clear MN; obtain ⟨⟨r0, r1, r2, r3⟩, r4, r5, r6, r7⟩ := M.out.cells)
        | (go_at_call 24; refine (H24b.out _ M.out.H).mono ?_; clear H24b; rintro e w6 ⟨rfl, hb⟩; have MN := Lib.hid (M.out.next hb); clear M hb; have M := MN; clear MN))
      clear r0 r1 r2 r3 r4 r5 r6 r7
      rcases HOUT.out with rfl | ⟨rfl, rfl, ho1, ho2⟩
      · go_wp2_with (fail)
        go_ret
        exact ⟨rfl, M.out.B⟩
      · go_wp2_with (fail)
        go_ret
        exact ⟨rfl, M.out.B⟩
    · obtain rfl : l = 2 := HG2.out rfl
      go_upto_region 6 with (go_at_call 28; refine (within28_any 2 1 3 _).mono ?_; rw [show inR 2 1 3 = true from rfl]; rintro e w7 ⟨rfl, rfl⟩)
      go_upto_region 8 with (first
        | (go_at_call 24; have HX := H24a; clear H24a; refine (HX.out _ M.out.O).mono ?_; clear HX; rintro e w5 ⟨rfl, hb⟩; have MN := Lib.hid (M.out.next hb); clear M hb r0 r1 r2 r3 r4 r5 r6 r7; have M := MN; clear MN; obtain ⟨⟨r0, r1, r2, r3⟩, r4, r5, r6, r7⟩ := M.out.cells)
        | (go_at_call 24; refine (H24b.out _ M.out.H).mono ?_; clear H24b; rintro e w6 ⟨rfl, hb⟩; have MN := Lib.hid (M.out.next hb); clear M hb; have M := MN; clear MN))
      clear r0 r1 r2 r3 r4 r5 r6 r7
      rcases HOUT.out with rfl | ⟨rfl, rfl, ho1, ho2⟩
      · go_wp2_with (fail)
        go_ret
        exact ⟨rfl, M.out.B⟩
      · go_wp2_with (fail)
        go_ret
        exact ⟨rfl, M.out.B⟩
    · go_upto_region 6 with (go_at_call 28; refine (within28_any 3 1 3 _).mono ?_; rw [show inR 3 1 3 = true from rfl]; rintro e w7 ⟨rfl, rfl⟩)
      go_upto_region 8 with (first
        | (go_at_call 24; have HX := H24a; clear H24a; refine (HX.out _ M.out.O).mono ?_; clear HX; rintro e w5 ⟨rfl, hb⟩; have MN := Lib.hid (M.out.next hb); clear M hb r0 r1 r2 r3 r4 r5 r6 r7; have M := MN; clear MN; obtain ⟨⟨r0, r1, r2, r3⟩, r4, r5, r6, r7⟩ := M.out.cells)
        | (go_at_call 24; refine (H24b.out _ M.out.H).mono ?_; clear H24b; rintro e w6 ⟨rfl, hb⟩; have MN := Lib.hid (M.out.next hb); clear M hb; have M := MN; clear MN))
      clear r0 r1 r2 r3 r4 r5 r6 r7
      rcases HOUT.out with rfl | ⟨rfl, rfl, ho1, ho2⟩
      · go_wp2_with (fail)
        go_ret
        exact ⟨rfl, M.out.B⟩
      · go_wp2_with (fail)
        go_ret
        exact ⟨rfl, M.out.B⟩

end Go.Proofs.Ytmbcpmnigggbaaa.Li
namespace Go.Proofs.Ytmbcpmnigggbaaa.Cu
/-! Cuts in plain words: a table, costs of weights, and the least cost of a parting as the program finds it. -/
structure CP where
  of : Int
  wl : Int
  wh : Int
  sl : Int
  sh : Int
  pe : Int
def far : Int := 1099511627776
def cat (c : List Int) (n : Nat) : Int := c.getD n far
def nothingL : List Int := 0 :: List.replicate 30 far
/-- The least of the costs of a weight in two parts, of which the first is one of the first k. -/
def convTo (c d : List Int) (n : Nat) : Nat → Int
  | 0 => far
  | k + 1 => if k ≤ n ∧ cat c k < far ∧ cat d (n - k) < far then min (convTo c d n k) (cat c k + cat d (n - k)) else convTo c d n k
def plusL (c d : List Int) : List Int := (List.range 31).map fun n => convTo c d n 31
def lostL (p : CP) : List Int := (List.range 31).map fun w : Nat => if p.sl ≤ (w : Int) ∧ (w : Int) ≤ p.sh then 0 else far
def canCut (t : List CP) (i : Nat) : Bool := t.any fun p => decide (p.of = (i : Int))
/-- The costs of a part with its pieces. -/
def baseL (t : List CP) (i : Nat) (p : CP) (pc : List Int) : List Int := if canCut t i then plusL pc (lostL p) else List.replicate 31 0
def ownL (cost : Nat → Int) (base : List Int) : List Int := (List.range 31).map fun w => if cost w < far ∧ cat base w < far then cat base w + cost w else far
def minL : List Int → Int
  | [] => 0
  | x :: xs => xs.foldl min x
/-- One part more, from the last one on: the costs of each part's pieces, and of all whole ones; none: there is no parting. -/
def stepC (t : List CP) (cost : Nat → Nat → Int) (i : Nat) (p : CP) : Option (List (List Int) × Int) → Option (List (List Int) × Int)
  | none => none
  | some (ps, all) =>
    let own := ownL (cost i) (baseL t i p (ps.getD i []))
    if p.of ≠ -1 then some (ps.set p.of.toNat (plusL (ps.getD p.of.toNat []) own), all)
    else if far ≤ minL own then none else some (ps, all + minL own)
def runC (t : List CP) (cost : Nat → Nat → Int) : Nat → Option (List (List Int) × Int)
  | 0 => some (List.replicate t.length nothingL, 0)
  | k + 1 => match t[t.length - 1 - k]? with
    | none => runC t cost k
    | some p => stepC t cost (t.length - 1 - k) p (runC t cost k)
def leastF (t : List CP) (cost : Nat → Nat → Int) : Int := match runC t cost t.length with
  | none => far
  | some (_, all) => all
theorem plusL_len (c d : List Int) : (plusL c d).length = 31 := by simp [plusL]
theorem nothingL_len : nothingL.length = 31 := rfl
theorem lostL_len (p : CP) : (lostL p).length = 31 := by simp [lostL]
theorem ownL_len (cost : Nat → Int) (b : List Int) : (ownL cost b).length = 31 := by simp [ownL]
theorem baseL_len (t : List CP) (i : Nat) (p : CP) (pc : List Int) : (baseL t i p pc).length = 31 := by
  unfold baseL
  split
  · exact plusL_len _ _
  · simp
theorem cat_some {c : List Int} {n : Nat} {x : Int} (h : c[n]? = some x) : cat c n = x := by unfold cat; rw [List.getD_eq_getElem?_getD, h]; rfl
theorem cat_at {c : List Int} {n : Nat} (h : n < c.length) : c[n]? = some (cat c n) := by
  unfold cat
  rw [List.getD_eq_getElem?_getD, List.getElem?_eq_getElem h]
  rfl
theorem plusL_at (c d : List Int) {n : Nat} (h : n < 31) : (plusL c d)[n]? = some (convTo c d n 31) := by simp [plusL, h]
theorem conv_skip {c d : List Int} {n k : Nat} (h : n < k) : convTo c d n (k + 1) = convTo c d n k := by
  rw [convTo, if_neg (by omega)]
theorem conv_yes {c d : List Int} {v w : Nat} (h1 : cat c v < far) (h2 : cat d w < far) : convTo c d (v + w) (v + 1) = min (convTo c d (v + w) v) (cat c v + cat d w) := by
  rw [convTo, Nat.add_sub_cancel_left, if_pos ⟨by omega, h1, h2⟩]
theorem conv_no {c d : List Int} {v w : Nat} (h : ¬ (cat c v < far ∧ cat d w < far)) : convTo c d (v + w) (v + 1) = convTo c d (v + w) v := by
  rw [convTo, Nat.add_sub_cancel_left, if_neg (fun e => h ⟨e.2.1, e.2.2⟩)]
/-- Costs are far, or within a bound. -/
def Fin (b : Int) (c : List Int) : Prop := c.length = 31 ∧ ∀ (n : Nat) (x : Int), c[n]? = some x → x = far ∨ (-b ≤ x ∧ x ≤ b)
theorem conv_fin {a b : Int} {c d : List Int} (hc : Fin a c) (hd : Fin b d) (hab : a + b < far) (n : Nat) : ∀ k, convTo c d n k = far ∨ (-(a + b) ≤ convTo c d n k ∧ convTo c d n k ≤ a + b)
  | 0 => .inl rfl
  | k + 1 => by
    have ih := conv_fin hc hd hab n k
    rw [convTo]
    split
    · rename_i h
      have h1 : cat c k = far ∨ (-a ≤ cat c k ∧ cat c k ≤ a) := by
        by_cases hk : k < c.length
        · exact hc.2 k _ (cat_at hk)
        · left; unfold cat; rw [List.getD_eq_getElem?_getD, List.getElem?_eq_none (by omega)]; rfl
      have h2 : cat d (n - k) = far ∨ (-b ≤ cat d (n - k) ∧ cat d (n - k) ≤ b) := by
        by_cases hk : n - k < d.length
        · exact hd.2 _ _ (cat_at hk)
        · left; unfold cat; rw [List.getD_eq_getElem?_getD, List.getElem?_eq_none (by omega)]; rfl
      omega
    · exact ih
theorem plus_fin {a b : Int} {c d : List Int} (hc : Fin a c) (hd : Fin b d) (hab : a + b < far) : Fin (a + b) (plusL c d) := by
  refine ⟨plusL_len c d, fun n x hx => ?_⟩
  have hn : n < 31 := by have := (List.getElem?_eq_some_iff.1 hx).1; rwa [plusL_len] at this
  rw [plusL_at c d hn] at hx
  cases hx
  exact conv_fin hc hd hab n 31
theorem Fin.mono {a b : Int} {c : List Int} (h : Fin a c) (hab : a ≤ b) : Fin b c := ⟨h.1, fun n x hx => by
  rcases h.2 n x hx with h | h
  · exact .inl h
  · exact .inr (by omega)⟩
theorem nothing_fin : Fin 0 nothingL := ⟨rfl, fun n x hx => by
  match n, hx with
  | 0, hx => simp [nothingL] at hx; subst hx; exact .inr (by omega)
  | n + 1, hx =>
    unfold nothingL at hx
    rw [List.getElem?_cons_succ] at hx
    exact .inl (List.eq_of_mem_replicate (List.mem_of_getElem? hx))⟩
end Go.Proofs.Ytmbcpmnigggbaaa.Cu
namespace Go.Proofs.Ytmbcpmnigggbaaa
open Go.RowKit

/-! brings 91. -/
theorem bits_lt {n m i : Nat} (h : i ∈ bitsL n m) : i < n := (mem_bits.1 h).1
theorem br_no {q : List Bid} {rd : List Int} {l : List Nat} {k i : Nat} (hk : l[k]? = some i) (h : ¬ SaleL q rd (l.take k ++ [i])) : brV q rd l = -1 := by
  refine brV_no fun hs => h ?_
  have e : l = (l.take k ++ [i]) ++ l.drop (k + 1) := by
    obtain ⟨h1, h2⟩ := List.getElem?_eq_some_iff.1 hk
    rw [List.append_assoc, ← h2, List.singleton_append, ← List.drop_eq_getElem_cons h1, List.take_append_drop]
  rw [e] at hs
  exact sale_pre hs
theorem bits_before {n m k i : Nat} (h : (bitsL n m)[k]? = some i) : ∀ j ∈ (bitsL n m).take k, j < i := fun j hj => by
  obtain ⟨h1, h2⟩ := List.getElem?_eq_some_iff.1 h
  obtain ⟨t, ht, e⟩ := List.mem_take_iff_getElem.1 hj
  have := List.pairwise_iff_getElem.1 (bits_up n m) t k (by omega) h1 (by omega)
  rw [e, h2] at this; exact this
theorem bd_next {n x k : Int} (h0 : 0 ≤ n) (h1 : n ≤ 99 * k) (h2 : 0 ≤ x) (h3 : x ≤ 99) : 0 ≤ n + x ∧ n + x ≤ 99 * (k + 1) := by omega
set_option maxRecDepth 100000 in
set_option maxHeartbeats 4000000 in
theorem brings_any (F : FL) (f : Fair) (hf : FOK f) (rd : List Int) (b : Nat) (m : Nat) (hm : m < 2 ^ f.q.length) (w : World) (hO : OpenAt w b F f rd) :
    Calls Try.prog 183 #[.pointer (some ⟨b, 0, none⟩), .int .i64 (m : Int)] w fun e w' => e = .returned (.int .i64 (brV f.q rd (bitsL f.q.length m))) ∧ Below w.heap.size w w' := by
  have hm8 : m < 256 := Nat.lt_of_lt_of_le hm (pow_eight hf.ql)
  have hbe := bits_eight hf.ql hm
  have H69 := Lib.hid (by have := list_any m hm8 w; rw [hbe] at this; exact this)
  obtain ⟨Al, cl, r, hOB, hLA, hR⟩ := hO.ex
  have HOB := Lib.hid hOB
  have HLA := Lib.hid hLA
  have HR := Lib.hid hR
  have hr16 := hR.lt
  have HFO := Lib.hid hf
  have hql := hf.ql
  have HBU := Lib.hid (fun (k i : Nat) => bits_before (n := f.q.length) (m := m) (k := k) (i := i))
  have HMB := Lib.hid (fun i => bits_lt (n := f.q.length) (m := m) (i := i))
  have hlen := bits_len f.q.length m
  obtain ⟨l, hl⟩ : ∃ l, bitsL f.q.length m = l := ⟨_, rfl⟩
  rw [hl] at H69 HBU HMB hlen ⊢
  clear hO hOB hLA hR hf hbe hl hm
  go_enter Try.func183, Try.ntmps183
  go_wp2_with (go_at_call 93; refine H69.out.mono ?_; rintro e w1 ⟨⟨v0, rfl, hv0⟩, hb1⟩; have B1 := Lib.hid hb1; obtain ⟨A1, c1, rfl, _, _, hI1⟩ := hv0.lay; rw [intsN_len]; have HI1 := Lib.hid hI1.at_; clear hb1 hv0 hI1)
  go_loopw [14, 5, 6, 7] (fun i bv bu bn wr => ∃ (k u v : Nat) (n : Int), k ≤ l.length ∧ i = .int .i64 k ∧ bv = .int .i64 (v : Int) ∧ bu = .int .i64 (u : Int) ∧ bn = .int .i64 n ∧ 0 ≤ n ∧ n ≤ 99 * (k : Int) ∧ Hid (BrTo f.q rd (l.take k) u v n) ∧ Hid (Below w1.heap.size w1 wr)) (fun i _ _ _ _ => l.length - (intOf i).toNat)
  case atStart => exact ⟨0, 0, 0, 0, Nat.zero_le _, rfl, rfl, rfl, rfl, by omega, by omega, Lib.hid (BrTo.nil _ _), Lib.hid (Below.refl _ _)⟩
  case round =>
    obtain ⟨k, u, v, n, hk, rfl, rfl, rfl, rfl, hn0, hn1, hbr, hb⟩ := hrel
    by_cases hlt : k < l.length
    · obtain ⟨i, hi⟩ : ∃ i, l[k]? = some i := ⟨_, List.getElem?_eq_getElem hlt⟩
      have hiq : i < f.q.length := HMB.out i (List.mem_of_getElem? hi)
      obtain ⟨x, hx⟩ : ∃ x, f.q[i]? = some x := ⟨_, List.getElem?_eq_getElem hiq⟩
      have hxm := List.mem_of_getElem? hx
      have hwho := HFO.out.who x hxm
      have hpay := HFO.out.pay x hxm
      have hnb := HFO.out.n1
      have hbl := HFO.out.bl
      have hbar := HFO.out.bar x hxm
      obtain ⟨wn, hwn⟩ := Int.eq_ofNat_of_zero_le hwho.1
      have hwn4 : wn < 4 := by omega
      obtain ⟨bi, oi, eA, blt, d0⟩ := HI1.out.at_ (intsN_at hi)
      have e0 := below_cell hb.out d0
      obtain ⟨lb, ol, eL, lblt, mb, hmb, d1, d2, d3⟩ := HLA.out.at_ hx
      have hbw := hb0to B1.out hb.out
      have e1 := below_cell hbw d1
      have e2 := below_cell hbw d2
      have e3 := below_cell hbw d3
      rw [hwn] at e1
      subst eL
      subst eA
      obtain ⟨_, _, _, _, _, _, _, _, g8, g9⟩ := (HOB.out.of (hbw.block _ HOB.out.lt)).cells
      have hu16 := hbr.out.bu.lt
      have hv16 := hbr.out.bv.lt
      have hm16 := hmb.lt
      have HIF := hbr.out.iff (HBU.out k i hi) hx hwn hwn4 hmb (fun y hy => by have := hbar y hy; omega) HR.out
      have HT := Lib.hid (show l.take (k + 1) = l.take k ++ [i] from (take_snoc_next hi).symm)
      have HSH := Lib.hid (one_shl wn (by omega))
      have HOR1 := Lib.hid (or_bits u hu16 (1 <<< wn) (shl_lt wn hwn4))
      have HOR2 := Lib.hid (or_bits v hv16 mb hm16)
      have HAN := and_bits v hv16 mb hm16
      have HAD := andnot_bits mb hm16 r hr16
      have HBD := Lib.hid (bd_next hn0 hn1 hpay.1 hpay.2)
      have hhas := fun W => has_any u wn (by omega) (by omega) W
      have HI := Lib.hid hi
      have HMBK := Lib.hid hmb
      have HX := Lib.hid hx
      have HWN := Lib.hid hwn
      clear hi hx hmb d0 d1 d2 d3 hbar hxm hbw hwn hwho
      cases hA : u.testBit wn
      · rw [hA] at hhas
        have H102 := Lib.hid hhas
        by_cases hB : v &&& mb = 0
        · by_cases hC : mb &&& (15 - r) = 0
          · have HNX := Lib.hid (show BrTo f.q rd (l.take (k + 1)) (u ||| (1 <<< wn)) (v ||| mb) (n + x.pay) by rw [HT.out]; exact hbr.out.next (HIF.2 ⟨hA, hB, hC⟩) HX.out HWN.out hwn4 HMBK.out)
            have hd2 : (bits BinOp.and IntKind.i64 (v : Int) (mb : Int) != 0) = false := by rw [HAN, hB]; rfl
            have hd3 : (bits BinOp.andNot IntKind.i64 (mb : Int) (r : Int) != 0) = false := by rw [HAD, hC]; rfl
            clear hhas hA hB hC HIF HAN HAD
            as_aux_lemma =>
            go_upto_region 7 with (fail)
            obtain ⟨W5, hW5⟩ : ∃ W5, wr.alloc (.cells #[.int .i64 (wn : Int), .int .i64 (mb : Int), .int .i64 x.pay] 191) = W5 := ⟨_, rfl⟩
            have hb5 := al_below wr (.cells #[.int .i64 (wn : Int), .int .i64 (mb : Int), .int .i64 x.pay] 191)
            have z0 := cell_of_heap (o := 0) (heap_new1 wr (.cells #[.int .i64 (wn : Int), .int .i64 (mb : Int), .int .i64 x.pay] 191)) rfl
            have z1 := cell_of_heap (o := 1) (heap_new1 wr (.cells #[.int .i64 (wn : Int), .int .i64 (mb : Int), .int .i64 x.pay] 191)) rfl
            have z2 := cell_of_heap (o := 2) (heap_new1 wr (.cells #[.int .i64 (wn : Int), .int .i64 (mb : Int), .int .i64 x.pay] 191)) rfl
            rw [hW5] at hb5 z0 z1 z2 ⊢
            have z9 := below_cell hb5 g9
            have y0 := extB_cell z0
            have y1 := extB_cell z1
            have y9 := extB_cell z9
            have HB5 := Lib.hid hb5
            have Z0 := Lib.hid z0
            have Z1 := Lib.hid z1
            have Z2 := Lib.hid z2
            clear hW5 hb5 z0 z1 z2 z9 g8 g9 e1 e2 e3
            refine wp_region_ext (by kernel_rfl) (by kernel_rfl) ?_
            repeat (go_big_quiet_step ((go_at_call 143; exact ext_same (H102.out _))))
            refine wpQuiet_nil ?_
            rintro _ ⟨t1, rfl⟩
            clear y0 y1 y9
            have HB6 := Lib.hid (extB_below W5 t1)
            have q0 := below_cell HB6.out Z0.out
            have q1 := below_cell HB6.out Z1.out
            have q2 := below_cell HB6.out Z2.out
            obtain ⟨W6, hW6⟩ : ∃ W6, extB W5 t1 = W6 := ⟨_, rfl⟩
            rw [hW6] at HB6 q0 q1 q2 ⊢
            clear hW6
            go_wp2_with (fail)
            go_roundw
            case rel => exact ⟨k + 1, u ||| (1 <<< wn), v ||| mb, n + x.pay, by omega, by go_num, by rw [HOR2.out], congrArg _ (by rw [HSH.out, HOR1.out]), rfl, HBD.out.1, HBD.out.2, HNX, Lib.hid (hb0to hb.out (hb0to HB5.out HB6.out))⟩
            case measure => simp [intOf]; omega
          · have HNO := Lib.hid (br_no HI.out (fun hs => hC (HIF.1 hs).2.2))
            have hd2 : (bits BinOp.and IntKind.i64 (v : Int) (mb : Int) != 0) = false := by rw [HAN, hB]; rfl
            have hd3 : (bits BinOp.andNot IntKind.i64 (mb : Int) (r : Int) != 0) = true := by rw [HAD, bne_iff_ne]; omega
            clear hhas hA hB hC HIF HAN HAD
            as_aux_lemma =>
            go_upto_region 7 with (fail)
            obtain ⟨W5, hW5⟩ : ∃ W5, wr.alloc (.cells #[.int .i64 (wn : Int), .int .i64 (mb : Int), .int .i64 x.pay] 191) = W5 := ⟨_, rfl⟩
            have hb5 := al_below wr (.cells #[.int .i64 (wn : Int), .int .i64 (mb : Int), .int .i64 x.pay] 191)
            have z0 := cell_of_heap (o := 0) (heap_new1 wr (.cells #[.int .i64 (wn : Int), .int .i64 (mb : Int), .int .i64 x.pay] 191)) rfl
            have z1 := cell_of_heap (o := 1) (heap_new1 wr (.cells #[.int .i64 (wn : Int), .int .i64 (mb : Int), .int .i64 x.pay] 191)) rfl
            have z2 := cell_of_heap (o := 2) (heap_new1 wr (.cells #[.int .i64 (wn : Int), .int .i64 (mb : Int), .int .i64 x.pay] 191)) rfl
            rw [hW5] at hb5 z0 z1 z2 ⊢
            have z9 := below_cell hb5 g9
            have y0 := extB_cell z0
            have y1 := extB_cell z1
            have y9 := extB_cell z9
            have HB5 := Lib.hid hb5
            have Z0 := Lib.hid z0
            have Z1 := Lib.hid z1
            have Z2 := Lib.hid z2
            clear hW5 hb5 z0 z1 z2 z9 g8 g9 e1 e2 e3
            refine wp_region_ext (by kernel_rfl) (by kernel_rfl) ?_
            repeat (go_big_quiet_step ((go_at_call 143; exact ext_same (H102.out _))))
            refine wpQuiet_nil ?_
            rintro _ ⟨t1, rfl⟩
            clear y0 y1 y9
            have HB6 := Lib.hid (extB_below W5 t1)
            have q0 := below_cell HB6.out Z0.out
            have q1 := below_cell HB6.out Z1.out
            have q2 := below_cell HB6.out Z2.out
            obtain ⟨W6, hW6⟩ : ∃ W6, extB W5 t1 = W6 := ⟨_, rfl⟩
            rw [hW6] at HB6 q0 q1 q2 ⊢
            clear hW6
            go_wp2_with (fail)
            go_ret
            exact ⟨by rw [HNO.out]; rfl, hb0to B1.out (hb0to hb.out (hb0to HB5.out HB6.out))⟩
        · have HNO := Lib.hid (br_no HI.out (fun hs => hB (HIF.1 hs).2.1))
          have hd2 : (bits BinOp.and IntKind.i64 (v : Int) (mb : Int) != 0) = true := by rw [HAN, bne_iff_ne]; omega
          clear hhas hA hB HIF HAN HAD
          as_aux_lemma =>
          go_upto_region 7 with (fail)
          obtain ⟨W5, hW5⟩ : ∃ W5, wr.alloc (.cells #[.int .i64 (wn : Int), .int .i64 (mb : Int), .int .i64 x.pay] 191) = W5 := ⟨_, rfl⟩
          have hb5 := al_below wr (.cells #[.int .i64 (wn : Int), .int .i64 (mb : Int), .int .i64 x.pay] 191)
          have z0 := cell_of_heap (o := 0) (heap_new1 wr (.cells #[.int .i64 (wn : Int), .int .i64 (mb : Int), .int .i64 x.pay] 191)) rfl
          have z1 := cell_of_heap (o := 1) (heap_new1 wr (.cells #[.int .i64 (wn : Int), .int .i64 (mb : Int), .int .i64 x.pay] 191)) rfl
          have z2 := cell_of_heap (o := 2) (heap_new1 wr (.cells #[.int .i64 (wn : Int), .int .i64 (mb : Int), .int .i64 x.pay] 191)) rfl
          rw [hW5] at hb5 z0 z1 z2 ⊢
          have z9 := below_cell hb5 g9
          have y0 := extB_cell z0
          have y1 := extB_cell z1
          have y9 := extB_cell z9
          have HB5 := Lib.hid hb5
          have Z0 := Lib.hid z0
          have Z1 := Lib.hid z1
          have Z2 := Lib.hid z2
          clear hW5 hb5 z0 z1 z2 z9 g8 g9 e1 e2 e3
          refine wp_region_ext (by kernel_rfl) (by kernel_rfl) ?_
          repeat (go_big_quiet_step ((go_at_call 143; exact ext_same (H102.out _))))
          refine wpQuiet_nil ?_
          rintro _ ⟨t1, rfl⟩
          clear y0 y1 y9
          have HB6 := Lib.hid (extB_below W5 t1)
          have q0 := below_cell HB6.out Z0.out
          have q1 := below_cell HB6.out Z1.out
          have q2 := below_cell HB6.out Z2.out
          obtain ⟨W6, hW6⟩ : ∃ W6, extB W5 t1 = W6 := ⟨_, rfl⟩
          rw [hW6] at HB6 q0 q1 q2 ⊢
          clear hW6
          go_wp2_with (fail)
          go_ret
          exact ⟨by rw [HNO.out]; rfl, hb0to B1.out (hb0to hb.out (hb0to HB5.out HB6.out))⟩
      · rw [hA] at hhas
        have H102 := Lib.hid hhas
        have HNO := Lib.hid (br_no HI.out (fun hs => by rw [(HIF.1 hs).1] at hA; cases hA))
        clear hhas hA HIF HAN HAD
        as_aux_lemma =>
        go_upto_region 7 with (fail)
        obtain ⟨W5, hW5⟩ : ∃ W5, wr.alloc (.cells #[.int .i64 (wn : Int), .int .i64 (mb : Int), .int .i64 x.pay] 191) = W5 := ⟨_, rfl⟩
        have hb5 := al_below wr (.cells #[.int .i64 (wn : Int), .int .i64 (mb : Int), .int .i64 x.pay] 191)
        have z0 := cell_of_heap (o := 0) (heap_new1 wr (.cells #[.int .i64 (wn : Int), .int .i64 (mb : Int), .int .i64 x.pay] 191)) rfl
        have z1 := cell_of_heap (o := 1) (heap_new1 wr (.cells #[.int .i64 (wn : Int), .int .i64 (mb : Int), .int .i64 x.pay] 191)) rfl
        have z2 := cell_of_heap (o := 2) (heap_new1 wr (.cells #[.int .i64 (wn : Int), .int .i64 (mb : Int), .int .i64 x.pay] 191)) rfl
        rw [hW5] at hb5 z0 z1 z2 ⊢
        have z9 := below_cell hb5 g9
        have y0 := extB_cell z0
        have y1 := extB_cell z1
        have y9 := extB_cell z9
        have HB5 := Lib.hid hb5
        have Z0 := Lib.hid z0
        have Z1 := Lib.hid z1
        have Z2 := Lib.hid z2
        clear hW5 hb5 z0 z1 z2 z9 g8 g9 e1 e2 e3
        refine wp_region_ext (by kernel_rfl) (by kernel_rfl) ?_
        repeat (go_big_quiet_step ((go_at_call 143; exact ext_same (H102.out _))))
        refine wpQuiet_nil ?_
        rintro _ ⟨t1, rfl⟩
        clear y0 y1 y9
        have HB6 := Lib.hid (extB_below W5 t1)
        have q0 := below_cell HB6.out Z0.out
        have q1 := below_cell HB6.out Z1.out
        have q2 := below_cell HB6.out Z2.out
        obtain ⟨W6, hW6⟩ : ∃ W6, extB W5 t1 = W6 := ⟨_, rfl⟩
        rw [hW6] at HB6 q0 q1 q2 ⊢
        clear hW6
        go_wp2_with (fail)
        go_ret
        exact ⟨by rw [HNO.out]; rfl, hb0to B1.out (hb0to hb.out (hb0to HB5.out HB6.out))⟩
    · obtain rfl : k = l.length := by omega
      have hbr2 := hbr.out
      rw [List.take_length] at hbr2
      have HQ := Lib.hid (show brV f.q rd l = n by rw [brV_yes hbr2.sale, hbr2.val])
      clear hbr hbr2
      go_wp2_with (fail)
      go_ret
      exact ⟨by rw [HQ.out]; rfl, hb0to B1.out hb.out⟩


end Go.Proofs.Ytmbcpmnigggbaaa
