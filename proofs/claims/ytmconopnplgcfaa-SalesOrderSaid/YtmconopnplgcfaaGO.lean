import Derived.Test.YtmconopnplgcfaaPQ
namespace Go.Proofs.Ytmconopnplgcfaa
open Go.RowKit

/-! SalesOrder. -/
set_option maxRecDepth 100000 in
set_option maxHeartbeats 4000000 in
theorem order_two (F : FL) (f : Fair) (xp xb mn mx : Int) (w W0 : World) (hok : FLOK F f) (hn : FN f) (hf : FOK f) (hmn : (if xb < xp then xb else xp) = mn) (hmx : (if xp < xb then xb else xp) = mx) (dm : decide (mn < 0) = false) (dx : decide (100 < mx) = false) (h0 : 0 ≤ xp ∧ xp ≤ 100 ∧ 0 ≤ xb ∧ xb ≤ 100) (r : Nat) (hr : r ≤ f.q.length)
    (Hr : Hid (∀ k : Nat, k < f.q.length → ((k : Int) + xp) % (f.q.length : Int) = (fromP f.q.length r k : Int))) (n : Int) (wl : List Nat) (kwF : Nat → Int) (hn0 : 0 ≤ n) (hwl : wl.length ≤ 8)
    (HW0 : Hid (w.alloc (.cells #[.slice F.L.Ak f.h.ks.length F.L.ck, .int .i64 f.h.fl, .slice F.L.Ap f.h.ps.length F.L.cp, .slice F.L.Ab f.h.bs.length F.L.cb, .slice F.Ap f.pk.length F.cp, .int .i64 f.day, .int .i64 f.nb, .slice F.Aq f.q.length F.cq] 29) = W0)) (HBW : Hid (Below w.heap.size w W0)) (HB : Hid (FBox W0 w.heap.size F f)) (HF : Hid (FairAt W0 W0.heap.size F f))
    (H16 : Hid (∀ W, FairAt W W.heap.size F f → Calls Try.prog 16 #[F.enc f] W fun e w' => e = .returned (.bool true) ∧ Below W.heap.size W w'))
    (H25f : Hid (∀ W, FairAt W W.heap.size F f → Calls Try.prog 25 #[F.enc f] W fun e w' => e = .returned (.int .i64 n) ∧ Below W.heap.size W w'))
    (H25a : Hid (∀ G W, FairAt W W.heap.size G (rotF f r) → Calls Try.prog 25 #[G.enc (rotF f r)] W fun e w' => e = .returned (.int .i64 n) ∧ Below W.heap.size W w'))
    (H25b : Hid (∀ G W, FairAt W W.heap.size G (whoF f xb) → Calls Try.prog 25 #[G.enc (whoF f xb)] W fun e w' => e = .returned (.int .i64 n) ∧ Below W.heap.size W w'))
    (H20f : Hid (∀ W, FairAt W W.heap.size F f → Calls Try.prog 20 #[F.enc f] W fun e w' => (∃ A c, e = .returned (.tuple #[.slice A wl.length c, .bool true]) ∧ IntsAt w' w'.heap.size A (intsN wl)) ∧ Below W.heap.size W w'))
    (H20b : Hid (∀ G W, FairAt W W.heap.size G (whoF f xb) → Calls Try.prog 20 #[G.enc (whoF f xb)] W fun e w' => (∃ A c, e = .returned (.tuple #[.slice A wl.length c, .bool true]) ∧ IntsAt w' w'.heap.size A (intsN wl)) ∧ Below W.heap.size W w'))
    (H36f : Hid (∀ k : Nat, k < f.q.length → ∀ W, FairAt W W.heap.size F f → Calls Try.prog 36 #[F.enc f, .int .i64 (k : Int)] W fun e w' => NumEnd (kwF k, 0) e ∧ Below W.heap.size W w'))
    (H36a : Hid (∀ k : Nat, k < f.q.length → ∀ G W, FairAt W W.heap.size G (rotF f r) → Calls Try.prog 36 #[G.enc (rotF f r), .int .i64 (k : Int)] W fun e w' => NumEnd (kwF (fromP f.q.length r k), 0) e ∧ Below W.heap.size W w')) :
    Calls Try.prog 9 #[F.enc f, .int .i64 xp, .int .i64 xb] w fun e w' => e = .returned (.bool true) ∧ Below w.heap.size w w' := by
  have M := Lib.hid (FIn.mk HF.out HB.out)
  have B := Lib.hid (Below.refl W0.heap.size W0)
  obtain ⟨c0, c1, c2, c3, c4, c5, c6, c7⟩ := HB.out.cells
  have H33 := Lib.hid (fun W hW => copy_line F f hn hok W hW)
  have H38 := Lib.hid (fun (A A' : Option Addr) (c c' : Nat) (W : World) (h1 : IntsAt W W.heap.size A (intsN wl)) (h2 : IntsAt W W.heap.size A' (intsN wl)) => (by
    have h := sameInts_is A A' c c' (intsN wl) (by rw [intsN_len]; omega) W h1 h2
    rw [intsN_len] at h
    exact h : Calls Try.prog 38 #[.slice A wl.length c, .slice A' wl.length c'] W fun e w' => e = .returned (.bool true) ∧ Below W.heap.size W w'))
  have HBAR := Lib.hid hn.b
  have HWHO := Lib.hid hf.who
  have hnb4 := hf.n1
  have hql := hf.ql
  have HRR := Lib.hid hr
  clear hok hn hf hr
  obtain ⟨xp0, xp1, xb0, xb1⟩ := h0
  obtain ⟨L, Ap, cp, Aq, cq⟩ := F
  go_enter Try.func9, Try.ntmps9
  go_upto_region 1 with (fail)
  have e := HW0.out
  rw [e]
  clear e

  go_upto_region 3 with (go_at_call 16; refine (H16.out _ M.out.H).mono ?_; rintro e wn ⟨rfl, hb⟩; have MN := Lib.hid (M.out.next hb); have BN := Lib.hid (hb0to B.out hb); have M := MN; have B := BN; clear MN BN; (first | (have IN := Lib.hid (ints_later I.out hb); have I := IN; clear IN) | skip); obtain ⟨r0, r1, r2, r3, r4, r5, r6, r7⟩ := M.out.x.cells; clear hb)
  have hwn := B.out.size
  have hbw := HB.out.lt
  have hwl2 := M.out.x.lt
  have n3 : ¬ wn.heap.size = w.heap.size := by omega
  have n4 : ¬ w.heap.size = wn.heap.size := by omega
  have HNC := Lib.hid True.intro
  have hwl := hwl2
  go_cut [7, 8] (fun s t wx => NewF2 wn f f s t wx)
  case first =>
    clear H16 H25f H25a H25b H20f H20b H36f H36a H38 hmn hmx dm dx Hr hn0 HBAR HWHO HRR
    go_region_held3 (fun w' => w'.cell? ⟨w.heap.size, 0, none⟩ = some (.slice L.Ak f.h.ks.length L.ck) ∧ w'.cell? ⟨w.heap.size, 1, none⟩ = some (.int .i64 f.h.fl) ∧ w'.cell? ⟨w.heap.size, 2, none⟩ = some (.slice L.Ap f.h.ps.length L.cp) ∧ w'.cell? ⟨w.heap.size, 3, none⟩ = some (.slice L.Ab f.h.bs.length L.cb) ∧ w'.cell? ⟨w.heap.size, 4, none⟩ = some (.slice Ap f.pk.length cp) ∧ w'.cell? ⟨w.heap.size, 5, none⟩ = some (.int .i64 f.day) ∧ w'.cell? ⟨w.heap.size, 6, none⟩ = some (.int .i64 f.nb) ∧ w'.cell? ⟨w.heap.size, 7, none⟩ = some (.slice Aq f.q.length cq)) (first | go_keep)
      (first
        | (have HHA := HCA.out; go_at_call 33; refine (H33.out _ (M.out.H.below (by first | ((repeat (first | with_reducible exact B5.out | with_reducible refine Below.drew ?_ | with_reducible refine alB ?_ _ | with_reducible refine below_s8 ?_ (by first | exact Nat.le_refl _ | exact Nat.le_succ _ | exact hs5 | exact Nat.le_succ_of_le hs5 | exact hs8 | exact Nat.le_succ_of_le hs8) _ _ _ _ _ _ _ _)); done) | fail))).mono ?_; rintro e w8 ⟨⟨⟨⟨j1, j2, j3, j4, j5, j6⟩, j7, j8, j9, j10⟩, rfl, hcf, hq⟩, hb⟩; have hbX := chainB (w := wn) hb (by first | ((repeat (first | with_reducible exact B5.out | with_reducible refine Below.drew ?_ | with_reducible refine alB ?_ _ | with_reducible refine below_s8 ?_ (by first | exact Nat.le_refl _ | exact Nat.le_succ _ | exact hs5 | exact Nat.le_succ_of_le hs5 | exact hs8 | exact Nat.le_succ_of_le hs8) _ _ _ _ _ _ _ _)); done) | fail); have B8 : Hid (Below wn.heap.size wn w8) := Lib.hid (hb0to hbX hb); have hk8 := chainK (w := w5) hb (by first | ((repeat (first | with_reducible exact K29.refl _ | with_reducible refine K29.drew ?_ | with_reducible refine K29.alloc ?_ _ | with_reducible refine K29.set8z ?_ (by first | ((repeat (first | with_reducible exact Hy0.out | with_reducible exact Hy1.out | with_reducible exact Hv0.out | with_reducible exact Hv1.out | with_reducible exact Hv2.out | with_reducible exact Hv3.out | with_reducible assumption | with_reducible exact heap_new1 _ _ | with_reducible exact heap_new2 _ _ _ | with_reducible exact set8_new | with_reducible refine drew_at ?_ | with_reducible refine set8_same ?_ | with_reducible refine set8_other ?_ (by first | with_reducible assumption | exact Nat.ne_of_lt (Nat.lt_succ_self _) | exact Nat.ne_of_gt (Nat.lt_succ_self _)) | with_reducible refine heap_keep ?_)); done) | fail))); done) | fail); have HCA8 := Lib.hid ((copF_of hk8 HCA.out).below hb); have HQA8 := Lib.hid ((ownsQ_of hk8 HQA.out).belowO hb); clear hk8 HHA; have HLT := Lib.hid HQA.out.lt; have hl5 := chainL (w := w5) hb (by first | exact Nat.le_refl _ | (simp only [World.size_setCell, World.size_alloc, at_drew]; done) | (simp only [World.size_setCell, World.size_alloc, at_drew]; first | exact Nat.le_refl _ | exact Nat.le_succ _ | exact Nat.le_succ_of_le (Nat.le_succ _) | exact Nat.le_add_right _ _)); have HCB := Lib.hid (hcf.mono hl5); have HQB := Lib.hid (hq.mono hl5); have hs8 := B8.out.size; have lS8 := Nat.lt_of_lt_of_le hwl hs8; (first | (have v0 : w8.heap[wn.heap.size]? = some (Obj.cells #[.slice none 0 0, .int .i64 0, .slice none 0 0, .slice none 0 0, .slice none 0 0, .int .i64 0, .int .i64 0, .slice none 0 0] 29) := zkeep hb (by first | ((repeat (first | with_reducible exact Hy0.out | with_reducible exact Hy1.out | with_reducible exact Hv0.out | with_reducible exact Hv1.out | with_reducible exact Hv2.out | with_reducible exact Hv3.out | with_reducible assumption | with_reducible exact heap_new1 _ _ | with_reducible exact heap_new2 _ _ _ | with_reducible exact set8_new | with_reducible refine drew_at ?_ | with_reducible refine set8_same ?_ | with_reducible refine set8_other ?_ (by first | with_reducible assumption | exact Nat.ne_of_lt (Nat.lt_succ_self _) | exact Nat.ne_of_gt (Nat.lt_succ_self _)) | with_reducible refine heap_keep ?_)); done) | fail); have Hv0 := Lib.hid v0; have lv0 := heap_lt v0; have n5a := Nat.ne_of_lt lv0; have n5b := Nat.ne_of_gt lv0; have n13a := Nat.ne_of_lt (Nat.lt_succ_of_lt lv0); have n13b := Nat.ne_of_gt (Nat.lt_succ_of_lt lv0); have cv00 := cell_of_heap (o := 0) v0 rfl; have cv01 := cell_of_heap (o := 1) v0 rfl; have cv02 := cell_of_heap (o := 2) v0 rfl; have cv03 := cell_of_heap (o := 3) v0 rfl; have cv04 := cell_of_heap (o := 4) v0 rfl; have cv05 := cell_of_heap (o := 5) v0 rfl; have cv06 := cell_of_heap (o := 6) v0 rfl; have cv07 := cell_of_heap (o := 7) v0 rfl; have cv0f := frozen_of_heap v0) | (have v0 : w8.heap[wn.heap.size]? = some (Obj.cells #[.slice k1 f.h.ks.length k2, .int .i64 f.h.fl, .slice k3 f.h.ps.length k4, .slice k5 f.h.bs.length k6, .slice k7 f.pk.length k8, .int .i64 f.day, .int .i64 f.nb, .slice k9 f.q.length k10] 29) := zkeep hb (by first | ((repeat (first | with_reducible exact Hy0.out | with_reducible exact Hy1.out | with_reducible exact Hv0.out | with_reducible exact Hv1.out | with_reducible exact Hv2.out | with_reducible exact Hv3.out | with_reducible assumption | with_reducible exact heap_new1 _ _ | with_reducible exact heap_new2 _ _ _ | with_reducible exact set8_new | with_reducible refine drew_at ?_ | with_reducible refine set8_same ?_ | with_reducible refine set8_other ?_ (by first | with_reducible assumption | exact Nat.ne_of_lt (Nat.lt_succ_self _) | exact Nat.ne_of_gt (Nat.lt_succ_self _)) | with_reducible refine heap_keep ?_)); done) | fail); have Hv0 := Lib.hid v0; have lv0 := heap_lt v0; have n5a := Nat.ne_of_lt lv0; have n5b := Nat.ne_of_gt lv0; have n13a := Nat.ne_of_lt (Nat.lt_succ_of_lt lv0); have n13b := Nat.ne_of_gt (Nat.lt_succ_of_lt lv0)) | skip); (first | (have v1 : w8.heap[wn.heap.size + 1]? = some (Obj.cells #[.slice none 0 0, .int .i64 0, .slice none 0 0, .slice none 0 0, .slice none 0 0, .int .i64 0, .int .i64 0, .slice none 0 0] 29) := zkeep hb (by first | ((repeat (first | with_reducible exact Hy0.out | with_reducible exact Hy1.out | with_reducible exact Hv0.out | with_reducible exact Hv1.out | with_reducible exact Hv2.out | with_reducible exact Hv3.out | with_reducible assumption | with_reducible exact heap_new1 _ _ | with_reducible exact heap_new2 _ _ _ | with_reducible exact set8_new | with_reducible refine drew_at ?_ | with_reducible refine set8_same ?_ | with_reducible refine set8_other ?_ (by first | with_reducible assumption | exact Nat.ne_of_lt (Nat.lt_succ_self _) | exact Nat.ne_of_gt (Nat.lt_succ_self _)) | with_reducible refine heap_keep ?_)); done) | fail); have Hv1 := Lib.hid v1; have lv1 := heap_lt v1; have n6a := Nat.ne_of_lt lv1; have n6b := Nat.ne_of_gt lv1; have n14a := Nat.ne_of_lt (Nat.lt_succ_of_lt lv1); have n14b := Nat.ne_of_gt (Nat.lt_succ_of_lt lv1); have cv10 := cell_of_heap (o := 0) v1 rfl; have cv11 := cell_of_heap (o := 1) v1 rfl; have cv12 := cell_of_heap (o := 2) v1 rfl; have cv13 := cell_of_heap (o := 3) v1 rfl; have cv14 := cell_of_heap (o := 4) v1 rfl; have cv15 := cell_of_heap (o := 5) v1 rfl; have cv16 := cell_of_heap (o := 6) v1 rfl; have cv17 := cell_of_heap (o := 7) v1 rfl; have cv1f := frozen_of_heap v1) | (have v1 : w8.heap[wn.heap.size + 1]? = some (Obj.cells #[.slice k1 f.h.ks.length k2, .int .i64 f.h.fl, .slice k3 f.h.ps.length k4, .slice k5 f.h.bs.length k6, .slice k7 f.pk.length k8, .int .i64 f.day, .int .i64 f.nb, .slice k9 f.q.length k10] 29) := zkeep hb (by first | ((repeat (first | with_reducible exact Hy0.out | with_reducible exact Hy1.out | with_reducible exact Hv0.out | with_reducible exact Hv1.out | with_reducible exact Hv2.out | with_reducible exact Hv3.out | with_reducible assumption | with_reducible exact heap_new1 _ _ | with_reducible exact heap_new2 _ _ _ | with_reducible exact set8_new | with_reducible refine drew_at ?_ | with_reducible refine set8_same ?_ | with_reducible refine set8_other ?_ (by first | with_reducible assumption | exact Nat.ne_of_lt (Nat.lt_succ_self _) | exact Nat.ne_of_gt (Nat.lt_succ_self _)) | with_reducible refine heap_keep ?_)); done) | fail); have Hv1 := Lib.hid v1; have lv1 := heap_lt v1; have n6a := Nat.ne_of_lt lv1; have n6b := Nat.ne_of_gt lv1; have n14a := Nat.ne_of_lt (Nat.lt_succ_of_lt lv1); have n14b := Nat.ne_of_gt (Nat.lt_succ_of_lt lv1)) | skip); (first | (have v2 : w8.heap[w5.heap.size]? = some (Obj.cells #[.slice none 0 0, .int .i64 0, .slice none 0 0, .slice none 0 0, .slice none 0 0, .int .i64 0, .int .i64 0, .slice none 0 0] 29) := zkeep hb (by first | ((repeat (first | with_reducible exact Hy0.out | with_reducible exact Hy1.out | with_reducible exact Hv0.out | with_reducible exact Hv1.out | with_reducible exact Hv2.out | with_reducible exact Hv3.out | with_reducible assumption | with_reducible exact heap_new1 _ _ | with_reducible exact heap_new2 _ _ _ | with_reducible exact set8_new | with_reducible refine drew_at ?_ | with_reducible refine set8_same ?_ | with_reducible refine set8_other ?_ (by first | with_reducible assumption | exact Nat.ne_of_lt (Nat.lt_succ_self _) | exact Nat.ne_of_gt (Nat.lt_succ_self _)) | with_reducible refine heap_keep ?_)); done) | fail); have Hv2 := Lib.hid v2; have lv2 := heap_lt v2; have n7a := Nat.ne_of_lt lv2; have n7b := Nat.ne_of_gt lv2; have n15a := Nat.ne_of_lt (Nat.lt_succ_of_lt lv2); have n15b := Nat.ne_of_gt (Nat.lt_succ_of_lt lv2); have cv20 := cell_of_heap (o := 0) v2 rfl; have cv21 := cell_of_heap (o := 1) v2 rfl; have cv22 := cell_of_heap (o := 2) v2 rfl; have cv23 := cell_of_heap (o := 3) v2 rfl; have cv24 := cell_of_heap (o := 4) v2 rfl; have cv25 := cell_of_heap (o := 5) v2 rfl; have cv26 := cell_of_heap (o := 6) v2 rfl; have cv27 := cell_of_heap (o := 7) v2 rfl; have cv2f := frozen_of_heap v2) | (have v2 : w8.heap[w5.heap.size]? = some (Obj.cells #[.slice k1 f.h.ks.length k2, .int .i64 f.h.fl, .slice k3 f.h.ps.length k4, .slice k5 f.h.bs.length k6, .slice k7 f.pk.length k8, .int .i64 f.day, .int .i64 f.nb, .slice k9 f.q.length k10] 29) := zkeep hb (by first | ((repeat (first | with_reducible exact Hy0.out | with_reducible exact Hy1.out | with_reducible exact Hv0.out | with_reducible exact Hv1.out | with_reducible exact Hv2.out | with_reducible exact Hv3.out | with_reducible assumption | with_reducible exact heap_new1 _ _ | with_reducible exact heap_new2 _ _ _ | with_reducible exact set8_new | with_reducible refine drew_at ?_ | with_reducible refine set8_same ?_ | with_reducible refine set8_other ?_ (by first | with_reducible assumption | exact Nat.ne_of_lt (Nat.lt_succ_self _) | exact Nat.ne_of_gt (Nat.lt_succ_self _)) | with_reducible refine heap_keep ?_)); done) | fail); have Hv2 := Lib.hid v2; have lv2 := heap_lt v2; have n7a := Nat.ne_of_lt lv2; have n7b := Nat.ne_of_gt lv2; have n15a := Nat.ne_of_lt (Nat.lt_succ_of_lt lv2); have n15b := Nat.ne_of_gt (Nat.lt_succ_of_lt lv2)) | skip); (first | (have v3 : w8.heap[w5.heap.size + 1]? = some (Obj.cells #[.slice none 0 0, .int .i64 0, .slice none 0 0, .slice none 0 0, .slice none 0 0, .int .i64 0, .int .i64 0, .slice none 0 0] 29) := zkeep hb (by first | ((repeat (first | with_reducible exact Hy0.out | with_reducible exact Hy1.out | with_reducible exact Hv0.out | with_reducible exact Hv1.out | with_reducible exact Hv2.out | with_reducible exact Hv3.out | with_reducible assumption | with_reducible exact heap_new1 _ _ | with_reducible exact heap_new2 _ _ _ | with_reducible exact set8_new | with_reducible refine drew_at ?_ | with_reducible refine set8_same ?_ | with_reducible refine set8_other ?_ (by first | with_reducible assumption | exact Nat.ne_of_lt (Nat.lt_succ_self _) | exact Nat.ne_of_gt (Nat.lt_succ_self _)) | with_reducible refine heap_keep ?_)); done) | fail); have Hv3 := Lib.hid v3; have lv3 := heap_lt v3; have n8a := Nat.ne_of_lt lv3; have n8b := Nat.ne_of_gt lv3; have n16a := Nat.ne_of_lt (Nat.lt_succ_of_lt lv3); have n16b := Nat.ne_of_gt (Nat.lt_succ_of_lt lv3); have cv30 := cell_of_heap (o := 0) v3 rfl; have cv31 := cell_of_heap (o := 1) v3 rfl; have cv32 := cell_of_heap (o := 2) v3 rfl; have cv33 := cell_of_heap (o := 3) v3 rfl; have cv34 := cell_of_heap (o := 4) v3 rfl; have cv35 := cell_of_heap (o := 5) v3 rfl; have cv36 := cell_of_heap (o := 6) v3 rfl; have cv37 := cell_of_heap (o := 7) v3 rfl; have cv3f := frozen_of_heap v3) | (have v3 : w8.heap[w5.heap.size + 1]? = some (Obj.cells #[.slice k1 f.h.ks.length k2, .int .i64 f.h.fl, .slice k3 f.h.ps.length k4, .slice k5 f.h.bs.length k6, .slice k7 f.pk.length k8, .int .i64 f.day, .int .i64 f.nb, .slice k9 f.q.length k10] 29) := zkeep hb (by first | ((repeat (first | with_reducible exact Hy0.out | with_reducible exact Hy1.out | with_reducible exact Hv0.out | with_reducible exact Hv1.out | with_reducible exact Hv2.out | with_reducible exact Hv3.out | with_reducible assumption | with_reducible exact heap_new1 _ _ | with_reducible exact heap_new2 _ _ _ | with_reducible exact set8_new | with_reducible refine drew_at ?_ | with_reducible refine set8_same ?_ | with_reducible refine set8_other ?_ (by first | with_reducible assumption | exact Nat.ne_of_lt (Nat.lt_succ_self _) | exact Nat.ne_of_gt (Nat.lt_succ_self _)) | with_reducible refine heap_keep ?_)); done) | fail); have Hv3 := Lib.hid v3; have lv3 := heap_lt v3; have n8a := Nat.ne_of_lt lv3; have n8b := Nat.ne_of_gt lv3; have n16a := Nat.ne_of_lt (Nat.lt_succ_of_lt lv3); have n16b := Nat.ne_of_gt (Nat.lt_succ_of_lt lv3)) | skip); have M8 := Lib.hid (M.out.next B8.out); obtain ⟨r0, r1, r2, r3, r4, r5, r6, r7⟩ := M8.out.x.cells; have n9a := Nat.ne_of_lt lS8; have n9b := Nat.ne_of_gt lS8; have n17a := Nat.ne_of_lt (Nat.lt_succ_of_lt lS8); have n17b := Nat.ne_of_gt (Nat.lt_succ_of_lt lS8); clear hcf hq hb hbX hl5)
        | (have hnc := HNC.out; clear HNC hnc; go_at_call 33; refine (H33.out _ (M.out.H.below (by first | ((repeat (first | with_reducible exact Below.refl _ _ | with_reducible refine Below.drew ?_ | with_reducible refine alB ?_ _ | with_reducible refine below_s8 ?_ (by first | exact Nat.le_refl _ | exact Nat.le_succ _ | exact hs5 | exact Nat.le_succ_of_le hs5 | exact hs8 | exact Nat.le_succ_of_le hs8) _ _ _ _ _ _ _ _)); done) | fail))).mono ?_; rintro e w5 ⟨⟨⟨⟨k1, k2, k3, k4, k5, k6⟩, k7, k8, k9, k10⟩, rfl, hcf, hq⟩, hb⟩; have hbX := chainB (w := wn) hb (by first | ((repeat (first | with_reducible exact Below.refl _ _ | with_reducible refine Below.drew ?_ | with_reducible refine alB ?_ _ | with_reducible refine below_s8 ?_ (by first | exact Nat.le_refl _ | exact Nat.le_succ _ | exact hs5 | exact Nat.le_succ_of_le hs5 | exact hs8 | exact Nat.le_succ_of_le hs8) _ _ _ _ _ _ _ _)); done) | fail); have B5 : Hid (Below wn.heap.size wn w5) := Lib.hid (hb0to hbX hb); have HCA := Lib.hid (hcf.mono hbX.size); have HQA := Lib.hid (hq.mono hbX.size); have hs5 := B5.out.size; have lS5 := Nat.lt_of_lt_of_le hwl hs5; (first | (have y0 : w5.heap[wn.heap.size]? = some (Obj.cells #[.slice none 0 0, .int .i64 0, .slice none 0 0, .slice none 0 0, .slice none 0 0, .int .i64 0, .int .i64 0, .slice none 0 0] 29) := zkeep hb (by first | ((repeat (first | with_reducible exact Hy0.out | with_reducible exact Hy1.out | with_reducible exact Hv0.out | with_reducible exact Hv1.out | with_reducible exact Hv2.out | with_reducible exact Hv3.out | with_reducible assumption | with_reducible exact heap_new1 _ _ | with_reducible exact heap_new2 _ _ _ | with_reducible exact set8_new | with_reducible refine drew_at ?_ | with_reducible refine set8_same ?_ | with_reducible refine set8_other ?_ (by first | with_reducible assumption | exact Nat.ne_of_lt (Nat.lt_succ_self _) | exact Nat.ne_of_gt (Nat.lt_succ_self _)) | with_reducible refine heap_keep ?_)); done) | fail); have Hy0 := Lib.hid y0; have ly0 := heap_lt y0; have n1a := Nat.ne_of_lt ly0; have n1b := Nat.ne_of_gt ly0; have n10a := Nat.ne_of_lt (Nat.lt_succ_of_lt ly0); have n10b := Nat.ne_of_gt (Nat.lt_succ_of_lt ly0); have cy00 := cell_of_heap (o := 0) y0 rfl; have cy01 := cell_of_heap (o := 1) y0 rfl; have cy02 := cell_of_heap (o := 2) y0 rfl; have cy03 := cell_of_heap (o := 3) y0 rfl; have cy04 := cell_of_heap (o := 4) y0 rfl; have cy05 := cell_of_heap (o := 5) y0 rfl; have cy06 := cell_of_heap (o := 6) y0 rfl; have cy07 := cell_of_heap (o := 7) y0 rfl; have cy0f := frozen_of_heap y0) | skip); (first | (have y1 : w5.heap[wn.heap.size + 1]? = some (Obj.cells #[.slice none 0 0, .int .i64 0, .slice none 0 0, .slice none 0 0, .slice none 0 0, .int .i64 0, .int .i64 0, .slice none 0 0] 29) := zkeep hb (by first | ((repeat (first | with_reducible exact Hy0.out | with_reducible exact Hy1.out | with_reducible exact Hv0.out | with_reducible exact Hv1.out | with_reducible exact Hv2.out | with_reducible exact Hv3.out | with_reducible assumption | with_reducible exact heap_new1 _ _ | with_reducible exact heap_new2 _ _ _ | with_reducible exact set8_new | with_reducible refine drew_at ?_ | with_reducible refine set8_same ?_ | with_reducible refine set8_other ?_ (by first | with_reducible assumption | exact Nat.ne_of_lt (Nat.lt_succ_self _) | exact Nat.ne_of_gt (Nat.lt_succ_self _)) | with_reducible refine heap_keep ?_)); done) | fail); have Hy1 := Lib.hid y1; have ly1 := heap_lt y1; have n2a := Nat.ne_of_lt ly1; have n2b := Nat.ne_of_gt ly1; have n11a := Nat.ne_of_lt (Nat.lt_succ_of_lt ly1); have n11b := Nat.ne_of_gt (Nat.lt_succ_of_lt ly1); have cy10 := cell_of_heap (o := 0) y1 rfl; have cy11 := cell_of_heap (o := 1) y1 rfl; have cy12 := cell_of_heap (o := 2) y1 rfl; have cy13 := cell_of_heap (o := 3) y1 rfl; have cy14 := cell_of_heap (o := 4) y1 rfl; have cy15 := cell_of_heap (o := 5) y1 rfl; have cy16 := cell_of_heap (o := 6) y1 rfl; have cy17 := cell_of_heap (o := 7) y1 rfl; have cy1f := frozen_of_heap y1) | skip); have M5 := Lib.hid (M.out.next B5.out); obtain ⟨r0, r1, r2, r3, r4, r5, r6, r7⟩ := M5.out.x.cells; have n3a := Nat.ne_of_lt lS5; have n3b := Nat.ne_of_gt lS5; have n12a := Nat.ne_of_lt (Nat.lt_succ_of_lt lS5); have n12b := Nat.ne_of_gt (Nat.lt_succ_of_lt lS5); have n4a := Nat.ne_of_lt (Nat.lt_succ_of_lt hwl); have n4b := Nat.ne_of_gt (Nat.lt_succ_of_lt hwl); clear hcf hq hb hbX))
    all_goals
      go_wp2_with (fail)
      go_meet
      exact ⟨_, _, w5.heap.size, ⟨⟨k1, k2, k3, k4, k5, k6⟩, k7, k8, k9, k10⟩, ⟨⟨j1, j2, j3, j4, j5, j6⟩, j7, j8, j9, j10⟩, rfl, rfl, Two.of HCA8.out HQA8.out HCB.out HQB.out HLT.out hs5 (by first | ((repeat (first | with_reducible exact K29.refl _ | with_reducible refine K29.drew ?_ | with_reducible refine K29.alloc ?_ _ | with_reducible refine K29.set8z ?_ (by first | ((repeat (first | with_reducible exact Hy0.out | with_reducible exact Hy1.out | with_reducible exact Hv0.out | with_reducible exact Hv1.out | with_reducible exact Hv2.out | with_reducible exact Hv3.out | with_reducible assumption | with_reducible exact heap_new1 _ _ | with_reducible exact heap_new2 _ _ _ | with_reducible exact set8_new | with_reducible refine drew_at ?_ | with_reducible refine set8_same ?_ | with_reducible refine set8_other ?_ (by first | with_reducible assumption | exact Nat.ne_of_lt (Nat.lt_succ_self _) | exact Nat.ne_of_gt (Nat.lt_succ_self _)) | with_reducible refine heap_keep ?_)); done) | fail))); done) | fail) (show _ = some (Obj.cells #[.slice k1 f.h.ks.length k2, .int .i64 f.h.fl, .slice k3 f.h.ps.length k4, .slice k5 f.h.bs.length k6, .slice k7 f.pk.length k8, .int .i64 f.day, .int .i64 f.nb, .slice k9 f.q.length k10] 29) from (by first | ((repeat (first | with_reducible exact Hy0.out | with_reducible exact Hy1.out | with_reducible exact Hv0.out | with_reducible exact Hv1.out | with_reducible exact Hv2.out | with_reducible exact Hv3.out | with_reducible assumption | with_reducible exact heap_new1 _ _ | with_reducible exact heap_new2 _ _ _ | with_reducible exact set8_new | with_reducible refine drew_at ?_ | with_reducible refine set8_same ?_ | with_reducible refine set8_other ?_ (by first | with_reducible assumption | exact Nat.ne_of_lt (Nat.lt_succ_self _) | exact Nat.ne_of_gt (Nat.lt_succ_self _)) | with_reducible refine heap_keep ?_)); done) | fail)) (show _ = some (Obj.cells #[.slice j1 f.h.ks.length j2, .int .i64 f.h.fl, .slice j3 f.h.ps.length j4, .slice j5 f.h.bs.length j6, .slice j7 f.pk.length j8, .int .i64 f.day, .int .i64 f.nb, .slice j9 f.q.length j10] 29) from (by first | ((repeat (first | with_reducible exact Hy0.out | with_reducible exact Hy1.out | with_reducible exact Hv0.out | with_reducible exact Hv1.out | with_reducible exact Hv2.out | with_reducible exact Hv3.out | with_reducible assumption | with_reducible exact heap_new1 _ _ | with_reducible exact heap_new2 _ _ _ | with_reducible exact set8_new | with_reducible refine drew_at ?_ | with_reducible refine set8_same ?_ | with_reducible refine set8_other ?_ (by first | with_reducible assumption | exact Nat.ne_of_lt (Nat.lt_succ_self _) | exact Nat.ne_of_gt (Nat.lt_succ_self _)) | with_reducible refine heap_keep ?_)); done) | fail)) (by first | exact Nat.le_refl _ | exact Nat.le_succ _ | exact hs5 | exact Nat.le_succ_of_le hs5 | exact hs8 | exact Nat.le_succ_of_le hs8) (by first | exact Nat.le_refl _ | exact Nat.le_succ _ | exact hs5 | exact Nat.le_succ_of_le hs5 | exact hs8 | exact Nat.le_succ_of_le hs8) (by first | with_reducible assumption | exact Nat.ne_of_lt (Nat.lt_succ_self _) | exact Nat.ne_of_gt (Nat.lt_succ_self _)) (by first | ((repeat (first | with_reducible exact B8.out | with_reducible refine Below.drew ?_ | with_reducible refine alB ?_ _ | with_reducible refine below_s8 ?_ (by first | exact Nat.le_refl _ | exact Nat.le_succ _ | exact hs5 | exact Nat.le_succ_of_le hs5 | exact hs8 | exact Nat.le_succ_of_le hs8) _ _ _ _ _ _ _ _)); done) | fail)⟩
  case rest =>
    obtain ⟨z1, z2, n2, F1, F2, rfl, rfl, hT⟩ := hcut
    obtain ⟨wx, rfl⟩ : ∃ x : World, x = wc := ⟨_, rfl⟩
    have MW := M
    have BW := B
    have O := Lib.hid (OrM.of hT)
    clear M B hT r0 r1 r2 r3 r4 r5 r6 r7 c0 c1 c2 c3 c4 c5 c6 c7 H33 H16 n3 n4 HNC hmn hmx dm dx
    obtain ⟨⟨k1, k2, k3, k4, k5, k6⟩, k7, k8, k9, k10⟩ := F1
    obtain ⟨⟨j1, j2, j3, j4, j5, j6⟩, j7, j8, j9, j10⟩ := F2
    have M := Lib.hid (MW.out.next O.out.B)
    obtain ⟨r0, r1, r2, r3, r4, r5, r6, r7⟩ := M.out.x.cells
    go_wp2_with (fail)
    go_loopw [9] (fun i wr => ∃ k : Nat, k ≤ f.q.length ∧ i = .int .i64 k ∧ Hid (OrM wn f (mixL f.q (rotL f.q r) k) (mixL f.q (whoL f.q f.nb xb) k) z1 z2 n2 ⟨⟨k1, k2, k3, k4, k5, k6⟩, k7, k8, k9, k10⟩ ⟨⟨j1, j2, j3, j4, j5, j6⟩, j7, j8, j9, j10⟩ wr)) (fun i _ => f.q.length - (intOf i).toNat)
    case atStart => exact ⟨0, Nat.zero_le _, rfl, Lib.hid (by rw [mixL_zero, mixL_zero]; exact O.out)⟩
    case round =>
      clear O M r0 r1 r2 r3 r4 r5 r6 r7
      obtain ⟨k, hk, rfl, O⟩ := hrel
      have M := Lib.hid (MW.out.next O.out.B)
      obtain ⟨r0, r1, r2, r3, r4, r5, r6, r7⟩ := M.out.x.cells
      by_cases hlt : k < f.q.length
      · have HNX1 := HRR.out
        have hil := fromP_lt HRR.out hlt
        have hrx0 : (rotL f.q r)[k]? = f.q[fromP f.q.length r k]? := rotL_at HRR.out hlt
        have hrem := Hr.out k hlt
        obtain ⟨idx, hidx⟩ : ∃ idx, fromP f.q.length r k = idx := ⟨_, rfl⟩
        rw [hidx] at hil hrx0 hrem
        obtain ⟨x, hx⟩ : ∃ x, f.q[idx]? = some x := ⟨_, List.getElem?_eq_getElem hil⟩
        obtain ⟨y, hy⟩ : ∃ y, f.q[k]? = some y := ⟨_, List.getElem?_eq_getElem hlt⟩
        have hxb := HBAR.out x (List.mem_of_getElem? hx)
        have hyb := HBAR.out y (List.mem_of_getElem? hy)
        have hyw := HWHO.out y (List.mem_of_getElem? hy)
        have HM1 := Lib.hid (mixL_next (rotL_len f.q r) hlt (hrx0.trans hx))
        have HM2 := Lib.hid (mixL_next (whoL_len f.q f.nb xb) hlt (whoL_at (n := f.nb) (d := xb) hy))
        obtain ⟨b1, o1, A1, c1, eAq, hb1, d1, d2, d3, hA1, hI1⟩ := MW.out.H.q.at_ hx
        obtain ⟨b2, o2, A2, c2, eAq2, hb2, d4, d5, d6, hA2, hI2⟩ := MW.out.H.q.at_ hy
        simp only at eAq eAq2
        subst eAq
        cases eAq2
        have hbO := O.out.B
        have e1 := below_cell hbO d1
        have e2 := below_cell hbO d2
        have e3 := below_cell hbO d3
        have e4 := below_cell hbO d4
        have e5 := below_cell hbO d5
        have e6 := below_cell hbO d6
        have E1 := Lib.hid e1
        have E2 := Lib.hid e2
        have E3 := Lib.hid e3
        have E4 := Lib.hid (And.intro e4 (And.intro e5 e6))
        have H34a := Lib.hid (fun W (hb : Below wr.heap.size wr W) => copyBid_any A1 c1 x hA1 hxb W (ints_later (ints_later hI1 hbO) hb))
        have H34b := Lib.hid (fun W (hb : Below wn.heap.size wn W) => copyBid_any A2 c2 y hA2 hyb W (ints_later hI2 hb))
        obtain ⟨gA, eA, ga1, ga2, ga3, ga4, -, -, -⟩ := O.out.set1 (i := k) hlt
        obtain ⟨gB, eB, gb1, gb2, gb3, gb4, -, -, -⟩ := O.out.set2 (i := k) hlt
        simp only at eA eB
        subst eA eB
        obtain ⟨-, -, -, -, -, -, -, p7⟩ := O.out.x1.cells
        have R7 := Lib.hid r7
        have P7 := Lib.hid p7
        have nn1 : ¬ gA = w.heap.size := by omega
        have nn2 : ¬ w.heap.size = gA := by omega
        have nn3 : ¬ z1 = gA := fun e => ga3 e.symm
        have nn4 : ¬ gA = b1 := by omega
        have nn5 : ¬ b1 = gA := by omega
        have nn6 : ¬ gA = z1 := ga3
        have hn0' : ¬ (f.q.length : Int) = 0 := by omega
        have hn1' : ¬ f.q = [] := fun e => by rw [e] at hlt; simp at hlt
        have hwr : IntKind.i64.wrap ((k : Int) + xp) = (k : Int) + xp := IntWalk.i64_in _ (by omega)
        have hk0 : (0 : Int) ≤ (k : Int) + xp := by omega
        have htm : Int.tmod ((k : Int) + xp) (f.q.length : Int) = (idx : Int) := by rw [Int.tmod_eq_emod_of_nonneg hk0]; exact hrem
        clear d1 d2 d3 d4 d5 d6 hA1 hA2 hI1 hI2 hx hy hrx0 hidx hxb hyb HNX1 hbO r0 r1 r2 r3 r4 r5 r6 e4 e5 e6
        go_upto_region 7 with (fail)
        go_region_held3 (fun w' => w'.cell? ⟨w.heap.size, 7, none⟩ = some (.slice (some ⟨b1, o1, none⟩) f.q.length cq) ∧ w'.cell? ⟨z1, 7, none⟩ = some (.slice (some ⟨gA, 0, none⟩) f.q.length k10) ∧ w'.cell? ⟨b1, o1 + idx * 3, none⟩ = some (.int .i64 x.who) ∧ w'.cell? ⟨b1, o1 + idx * 3 + 1, none⟩ = some (.slice A1 x.bar.length c1) ∧ w'.cell? ⟨b1, o1 + idx * 3 + 2, none⟩ = some (.int .i64 x.pay)) (first | go_keep) (first
          | (go_at_call 34; refine (H34a.out _ (by first | exact Below.refl _ _ | exact drew_below _)).mono ?_; rintro e w5 ⟨⟨u, rfl, hu⟩, hb⟩; have HBX : Hid (Below wr.heap.size wr w5) := Lib.hid (by first | exact hb | exact hb0to (drew_below _) hb); have HU := Lib.hid (Ints.mono hu (Nat.zero_le _)); obtain ⟨Au, cu, rfl, -, -, -⟩ := ints_slice hu; have O5 := Lib.hid (O.out.next HBX.out); obtain ⟨g9, e9, gl1, gl2, gz1, gz2, gfz, ⟨ya, yb, yc, y0, y1, y2⟩, hput⟩ := O5.out.set1 (i := k) hlt; cases e9; have HPUT := Lib.hid hput; have r7 := below_cell HBX.out R7.out; have p7 := below_cell HBX.out P7.out; have e1 := below_cell HBX.out E1.out; have e2 := below_cell HBX.out E2.out; have e3 := below_cell HBX.out E3.out; clear hu hb hput))
        all_goals
          go_upto_region 8 with (fail)
          have O7 := HPUT.out x _ HU.out
          generalize ((w5.setCell ⟨gA, k * 3, none⟩ (.int .i64 x.who)).setCell ⟨gA, k * 3 + 1, none⟩ (.slice Au x.bar.length cu)).setCell ⟨gA, k * 3 + 2, none⟩ (.int .i64 x.pay) = W7 at O7 ⊢
          have O7 := Lib.hid O7
          have M7 := Lib.hid (MW.out.next O7.out.B)
          clear r7 p7 e1 e2 e3 y0 y1 y2 gfz HPUT O5 HBX HU hwr hk0 htm nn3 nn4 nn5 nn6
          obtain ⟨r0, r1, r2, r3, r4, r5, r6, r7⟩ := M7.out.x.cells
          clear r0 r1 r2 r3 r4 r5
          have e4 := (O7.out.B.cell (p := ⟨b1, o1 + k * 3, none⟩) hb1).trans ((O.out.B.cell (p := ⟨b1, o1 + k * 3, none⟩) hb1).symm.trans E4.out.1)
          have e5 := (O7.out.B.cell (p := ⟨b1, o1 + k * 3 + 1, none⟩) hb1).trans ((O.out.B.cell (p := ⟨b1, o1 + k * 3 + 1, none⟩) hb1).symm.trans E4.out.2.1)
          have e6 := (O7.out.B.cell (p := ⟨b1, o1 + k * 3 + 2, none⟩) hb1).trans ((O.out.B.cell (p := ⟨b1, o1 + k * 3 + 2, none⟩) hb1).symm.trans E4.out.2.2)
          have H34b := Lib.hid (fun W (hb : Below W7.heap.size W7 W) => H34b.out W (hb0to O7.out.B hb))
          go_upto_region 9 with (go_at_call 34; refine (H34b.out _ (Below.refl _ _)).mono ?_; rintro e w8 ⟨⟨u, rfl, hu⟩, hb⟩; have HBY := Lib.hid hb; have HU2 := Lib.hid (Ints.mono hu (Nat.zero_le _)); obtain ⟨Av, cv, rfl, -, -, -⟩ := ints_slice hu; clear hu hb)
          have M8 := Lib.hid (M7.out.next HBY.out)
          obtain ⟨r0, r1, r2, r3, r4, r5, r6, r7⟩ := M8.out.x.cells
          have hs8 := M8.out.x.lt
          have m1 : ¬ w8.heap.size = w.heap.size := by omega
          have m2 : ¬ w.heap.size = w8.heap.size := by omega
          have hnz : ¬ f.nb = 0 := by omega
          have hwr2 : IntKind.i64.wrap (y.who + xb) = y.who + xb := IntWalk.i64_in _ (by omega)
          have hk2 : (0 : Int) ≤ y.who + xb := by omega
          have htm2 : Int.tmod (y.who + xb) f.nb = (y.who + xb) % f.nb := Int.tmod_eq_emod_of_nonneg hk2
          go_upto_region 10 with (fail)
          obtain ⟨W9, hW9⟩ : ∃ W, w8.alloc (.cells #[.int .i64 ((y.who + xb) % f.nb), .slice Av y.bar.length cv, .int .i64 y.pay] 38) = W := ⟨_, rfl⟩
          have hz : W9.heap[w8.heap.size]? = some (.cells #[.int .i64 ((y.who + xb) % f.nb), .slice Av y.bar.length cv, .int .i64 y.pay] 38) := by rw [← hW9]; exact heap_new1 _ _
          have hb89 : Below w8.heap.size w8 W9 := by rw [← hW9]; exact al_below _ _
          rw [hW9]
          have HB89 := Lib.hid hb89
          have s0 := cell_of_heap (o := 0) hz rfl
          have s1 := cell_of_heap (o := 1) hz rfl
          have s2 := cell_of_heap (o := 2) hz rfl
          clear hW9 r0 r1 r2 r3 r4 r5 r6 r7 e4 e5 e6 hwr2 htm2 hb89
          have O9 := Lib.hid (O7.out.next (hb0to HBY.out HB89.out))
          have HU9 := Lib.hid (Ints.keepT HU2.out (KeepT.below HB89.out))
          obtain ⟨g9, e9, -, -, -, -, gfz, ⟨ya, yb, yc, y0, y1, y2⟩, hput⟩ := O9.out.set2 (i := k) hlt
          cases e9
          have HPUT := Lib.hid hput
          obtain ⟨-, -, -, -, -, -, -, q7⟩ := O9.out.x2.cells
          have lz := heap_lt hz
          have hgz : ¬ gB = w8.heap.size := by
            have h1 := O7.out.o2.lt _ rfl
            have h2 := HBY.out.size
            simp only at h1
            omega
          have hgz2 : ¬ w8.heap.size = gB := fun e => hgz e.symm
          have hgz3 : ¬ z2 = gB := fun e => gb4 e.symm
          clear hput hz
          go_wp2_with (fail)
          have O10 := HPUT.out ({ y with who := (y.who + xb) % f.nb }) _ HU9.out
          rw [← HM1.out, ← HM2.out] at O10
          go_roundw
          case rel => exact ⟨k + 1, by omega, by go_num, Lib.hid O10⟩
          case measure => simp [intOf]; omega
      · obtain rfl : k = f.q.length := by omega
        have O3 := O.out
        rw [mixL_all (rotL_len f.q r), mixL_all (whoL_len f.q f.nb xb)] at O3
        have P := Lib.hid (show FIn wr z1 ⟨⟨k1, k2, k3, k4, k5, k6⟩, k7, k8, k9, k10⟩ (rotF f r) from O3.fair1)
        have Q := Lib.hid (show FIn wr z2 ⟨⟨j1, j2, j3, j4, j5, j6⟩, j7, j8, j9, j10⟩ (whoF f xb) from O3.fair2)
        have B := Lib.hid (hb0to BW.out O3.B)
        have T25f := Lib.hid True.intro
        have T25a := Lib.hid True.intro
        have T20 := Lib.hid True.intro
        have dn : decide (n < 0) = false := decide_eq_false (by omega)
        clear O O3
        obtain ⟨p0, p1, p2, p3, p4, p5, p6, p7⟩ := P.out.x.cells
        obtain ⟨q0, q1, q2, q3, q4, q5, q6, q7⟩ := Q.out.x.cells
        go_upto_region 16 with (first
          | (have t9 := T25f.out; clear T25f t9; go_at_call 25; refine (H25f.out _ M.out.H).mono ?_; rintro e wn ⟨rfl, hb⟩; have MN := Lib.hid (M.out.next hb); have BN := Lib.hid (hb0to B.out hb); have PN := Lib.hid (P.out.next hb); have QN := Lib.hid (Q.out.next hb); have M := MN; have B := BN; have P := PN; have Q := QN; clear MN BN PN QN; (first | (have VN := Lib.hid (ints_later V.out hb); have V := VN; clear VN) | skip); (first | (have UN := Lib.hid (ints_later U.out hb); have U := UN; clear UN) | skip); obtain ⟨r0, r1, r2, r3, r4, r5, r6, r7⟩ := M.out.x.cells; obtain ⟨p0, p1, p2, p3, p4, p5, p6, p7⟩ := P.out.x.cells; obtain ⟨q0, q1, q2, q3, q4, q5, q6, q7⟩ := Q.out.x.cells; clear hb)
          | (have t9 := T25a.out; clear T25a t9; go_at_call 25; refine (H25a.out _ _ P.out.H).mono ?_; rintro e wn ⟨rfl, hb⟩; have MN := Lib.hid (M.out.next hb); have BN := Lib.hid (hb0to B.out hb); have PN := Lib.hid (P.out.next hb); have QN := Lib.hid (Q.out.next hb); have M := MN; have B := BN; have P := PN; have Q := QN; clear MN BN PN QN; (first | (have VN := Lib.hid (ints_later V.out hb); have V := VN; clear VN) | skip); (first | (have UN := Lib.hid (ints_later U.out hb); have U := UN; clear UN) | skip); obtain ⟨r0, r1, r2, r3, r4, r5, r6, r7⟩ := M.out.x.cells; obtain ⟨p0, p1, p2, p3, p4, p5, p6, p7⟩ := P.out.x.cells; obtain ⟨q0, q1, q2, q3, q4, q5, q6, q7⟩ := Q.out.x.cells; clear hb)
          | (go_at_call 25; refine (H25b.out _ _ Q.out.H).mono ?_; rintro e wn ⟨rfl, hb⟩; have MN := Lib.hid (M.out.next hb); have BN := Lib.hid (hb0to B.out hb); have PN := Lib.hid (P.out.next hb); have QN := Lib.hid (Q.out.next hb); have M := MN; have B := BN; have P := PN; have Q := QN; clear MN BN PN QN; (first | (have VN := Lib.hid (ints_later V.out hb); have V := VN; clear VN) | skip); (first | (have UN := Lib.hid (ints_later U.out hb); have U := UN; clear UN) | skip); obtain ⟨r0, r1, r2, r3, r4, r5, r6, r7⟩ := M.out.x.cells; obtain ⟨p0, p1, p2, p3, p4, p5, p6, p7⟩ := P.out.x.cells; obtain ⟨q0, q1, q2, q3, q4, q5, q6, q7⟩ := Q.out.x.cells; clear hb)
          | (have t9 := T20.out; clear T20 t9; go_at_call 20; refine (H20f.out _ M.out.H).mono ?_; rintro e wn ⟨⟨A7, c7, rfl, hv⟩, hb⟩; have MN := Lib.hid (M.out.next hb); have BN := Lib.hid (hb0to B.out hb); have PN := Lib.hid (P.out.next hb); have QN := Lib.hid (Q.out.next hb); have M := MN; have B := BN; have P := PN; have Q := QN; clear MN BN PN QN; (first | (have VN := Lib.hid (ints_later V.out hb); have V := VN; clear VN) | skip); (first | (have UN := Lib.hid (ints_later U.out hb); have U := UN; clear UN) | skip); have V := Lib.hid hv; clear hv; obtain ⟨r0, r1, r2, r3, r4, r5, r6, r7⟩ := M.out.x.cells; obtain ⟨p0, p1, p2, p3, p4, p5, p6, p7⟩ := P.out.x.cells; obtain ⟨q0, q1, q2, q3, q4, q5, q6, q7⟩ := Q.out.x.cells; clear hb)
          | (go_at_call 20; refine (H20b.out _ _ Q.out.H).mono ?_; rintro e wn ⟨⟨A8, c8, rfl, hv⟩, hb⟩; have MN := Lib.hid (M.out.next hb); have BN := Lib.hid (hb0to B.out hb); have PN := Lib.hid (P.out.next hb); have QN := Lib.hid (Q.out.next hb); have M := MN; have B := BN; have P := PN; have Q := QN; clear MN BN PN QN; (first | (have VN := Lib.hid (ints_later V.out hb); have V := VN; clear VN) | skip); (first | (have UN := Lib.hid (ints_later U.out hb); have U := UN; clear UN) | skip); have U := Lib.hid hv; clear hv; obtain ⟨r0, r1, r2, r3, r4, r5, r6, r7⟩ := M.out.x.cells; obtain ⟨p0, p1, p2, p3, p4, p5, p6, p7⟩ := P.out.x.cells; obtain ⟨q0, q1, q2, q3, q4, q5, q6, q7⟩ := Q.out.x.cells; clear hb)
          | (go_at_call 38; refine (H38.out A7 A8 c7 c8 _ V.out U.out).mono ?_; rintro e wn ⟨rfl, hb⟩; have MN := Lib.hid (M.out.next hb); have BN := Lib.hid (hb0to B.out hb); have PN := Lib.hid (P.out.next hb); have QN := Lib.hid (Q.out.next hb); have M := MN; have B := BN; have P := PN; have Q := QN; clear MN BN PN QN; (first | (have VN := Lib.hid (ints_later V.out hb); have V := VN; clear VN) | skip); (first | (have UN := Lib.hid (ints_later U.out hb); have U := UN; clear UN) | skip); obtain ⟨r0, r1, r2, r3, r4, r5, r6, r7⟩ := M.out.x.cells; obtain ⟨p0, p1, p2, p3, p4, p5, p6, p7⟩ := P.out.x.cells; obtain ⟨q0, q1, q2, q3, q4, q5, q6, q7⟩ := Q.out.x.cells; clear hb))
        clear r0 r1 r2 r3 r4 r5 r6 r7 p0 p1 p2 p3 p4 p5 p6 p7 q0 q1 q2 q3 q4 q5 q6 q7
        go_wp2_with (fail)
        go_loopw [16] (fun i wr => ∃ k : Nat, k ≤ f.q.length ∧ i = .int .i64 k ∧ Hid (FIn wr w.heap.size ⟨L, Ap, cp, Aq, cq⟩ f) ∧ Hid (FIn wr z1 ⟨⟨k1, k2, k3, k4, k5, k6⟩, k7, k8, k9, k10⟩ (rotF f r)) ∧ Hid (Below W0.heap.size W0 wr)) (fun i _ => f.q.length - (intOf i).toNat)
        case atStart => exact ⟨0, Nat.zero_le _, rfl, M, P, B⟩
        case round =>
          obtain ⟨k, hk, rfl, M, P, B⟩ := hrel
          obtain ⟨r0, r1, r2, r3, r4, r5, r6, r7⟩ := M.out.x.cells
          by_cases hlt : k < f.q.length
          · have hil := fromP_lt HRR.out hlt
            have hrem := Hr.out k hlt
            have X36a := Lib.hid (fun G W hW => H36a.out k hlt G W hW)
            have X36f := Lib.hid (fun W hW => H36f.out _ hil W hW)
            generalize fromP f.q.length r k = idx at hil hrem X36a X36f
            generalize kwF idx = kw at X36a X36f
            obtain ⟨p0, p1, p2, p3, p4, p5, p6, p7⟩ := P.out.x.cells
            have hn0' : ¬ (f.q.length : Int) = 0 := by omega
            have hn1' : ¬ f.q = [] := fun e => by rw [e] at hlt; simp at hlt
            have hwr : IntKind.i64.wrap ((k : Int) + xp) = (k : Int) + xp := IntWalk.i64_in _ (by omega)
            have hk0 : (0 : Int) ≤ (k : Int) + xp := by omega
            have htm : Int.tmod ((k : Int) + xp) (f.q.length : Int) = (idx : Int) := by rw [Int.tmod_eq_emod_of_nonneg hk0]; exact hrem
            go_upto_region 20 with (go_at_call 36; refine (X36a.out _ wr P.out.H).mono ?_; rintro e w5 ⟨rfl, hb⟩; have B5 := Lib.hid (hb0to B.out hb); have M5 := Lib.hid (M.out.next hb); have P5 := Lib.hid (P.out.next hb); obtain ⟨r0, r1, r2, r3, r4, r5, r6, r7⟩ := M5.out.x.cells; clear hb)
            clear p0 p1 p2 p3 p4 p5 p6 p7
            go_region_held3 (fun w' => w'.cell? ⟨w.heap.size, 0, none⟩ = some (.slice L.Ak f.h.ks.length L.ck) ∧ w'.cell? ⟨w.heap.size, 1, none⟩ = some (.int .i64 f.h.fl) ∧ w'.cell? ⟨w.heap.size, 2, none⟩ = some (.slice L.Ap f.h.ps.length L.cp) ∧ w'.cell? ⟨w.heap.size, 3, none⟩ = some (.slice L.Ab f.h.bs.length L.cb) ∧ w'.cell? ⟨w.heap.size, 4, none⟩ = some (.slice Ap f.pk.length cp) ∧ w'.cell? ⟨w.heap.size, 5, none⟩ = some (.int .i64 f.day) ∧ w'.cell? ⟨w.heap.size, 6, none⟩ = some (.int .i64 f.nb) ∧ w'.cell? ⟨w.heap.size, 7, none⟩ = some (.slice Aq f.q.length cq)) (first | go_keep) (first
              | (go_at_call 36; refine (X36f.out _ (M5.out.H.below (by first | exact Below.refl _ _ | exact drew_below _))).mono ?_; rintro e w6 ⟨rfl, hb⟩; have HBZ : Hid (Below w5.heap.size w5 w6) := Lib.hid (by first | exact hb | exact hb0to (drew_below _) hb); have M6 := Lib.hid (M5.out.next HBZ.out); have P6 := Lib.hid (P5.out.next HBZ.out); have B6 := Lib.hid (hb0to B5.out HBZ.out); obtain ⟨r0, r1, r2, r3, r4, r5, r6, r7⟩ := M6.out.x.cells; clear hb))
            all_goals
              go_wp2_with (fail)
              go_roundw
              case rel => exact ⟨k + 1, by omega, by go_num, M6, P6, B6⟩
              case measure => simp [intOf]; omega
          · obtain rfl : k = f.q.length := by omega
            go_wp2_with (go_at_call 19; refine (works_any _).mono ?_; rintro e w9 ⟨rfl, hb⟩; have B9 := Lib.hid (hb0to B.out hb); clear hb)
            go_ret
            exact ⟨rfl, hb0to HBW.out B9.out⟩
set_option maxRecDepth 100000 in
set_option maxHeartbeats 4000000 in
theorem order_law (F : FL) (f : Fair) (xp xb : Int) (w : World) (hok : FLOK F f) (hF : FairAt w w.heap.size F f) : Calls Try.prog 9 #[F.enc f, .int .i64 xp, .int .i64 xb] w fun e w' => e = .returned (.bool true) ∧ Below w.heap.size w w' := by
  have hbw := al_below w (.cells #[.slice F.L.Ak f.h.ks.length F.L.ck, .int .i64 f.h.fl, .slice F.L.Ap f.h.ps.length F.L.cp, .slice F.L.Ab f.h.bs.length F.L.cb, .slice F.Ap f.pk.length F.cp, .int .i64 f.day, .int .i64 f.nb, .slice F.Aq f.q.length F.cq] 29)
  have HB := Lib.hid (FBox.new w F f)
  obtain ⟨c0, c1, c2, c3, c4, c5, c6, c7⟩ := (FBox.new w F f).cells
  obtain ⟨W0, hW0⟩ : ∃ W0, w.alloc (.cells #[.slice F.L.Ak f.h.ks.length F.L.ck, .int .i64 f.h.fl, .slice F.L.Ap f.h.ps.length F.L.cp, .slice F.L.Ab f.h.bs.length F.L.cb, .slice F.Ap f.pk.length F.cp, .int .i64 f.day, .int .i64 f.nb, .slice F.Aq f.q.length F.cq] 29) = W0 := ⟨_, rfl⟩
  rw [hW0] at hbw HB c0 c1 c2 c3 c4 c5 c6 c7
  have HBW := Lib.hid hbw
  have HW0 := Lib.hid hW0
  have HF := Lib.hid (hF.below hbw)
  clear hbw hW0 hF
  have M := Lib.hid (FIn.mk HF.out HB.out)
  have B := Lib.hid (Below.refl W0.heap.size W0)
  have H16 := Lib.hid (fun W hW => readyF_any F f W hW)
  obtain ⟨mn, hmn⟩ : ∃ mn, (if xb < xp then xb else xp) = mn := ⟨_, rfl⟩
  obtain ⟨mx, hmx⟩ : ∃ mx, (if xp < xb then xb else xp) = mx := ⟨_, rfl⟩
  cases hr : readyB9 f
  · rw [hr] at H16
    clear hok hr
    obtain ⟨L, Ap, cp, Aq, cq⟩ := F
    go_enter Try.func9, Try.ntmps9
    go_upto_region 1 with (fail)
    have e := HW0.out
    rw [e]
    clear e

    go_wp2_with (first
      | (go_at_call 16; refine (H16.out _ M.out.H).mono ?_; rintro e wn ⟨rfl, hb⟩; have MN := Lib.hid (M.out.next hb); have BN := Lib.hid (hb0to B.out hb); have M := MN; have B := BN; clear MN BN; (first | (have IN := Lib.hid (ints_later I.out hb); have I := IN; clear IN) | skip); obtain ⟨r0, r1, r2, r3, r4, r5, r6, r7⟩ := M.out.x.cells; clear hb)
      | (go_at_call 19; refine (works_any _).mono ?_; rintro e wn ⟨rfl, hb⟩; have MN := Lib.hid (M.out.next hb); have BN := Lib.hid (hb0to B.out hb); have M := MN; have B := BN; clear MN BN; (first | (have IN := Lib.hid (ints_later I.out hb); have I := IN; clear IN) | skip); obtain ⟨r0, r1, r2, r3, r4, r5, r6, r7⟩ := M.out.x.cells; clear hb))
    go_ret
    exact ⟨rfl, hb0to HBW.out B.out⟩
  · rw [hr] at H16
    by_cases h1 : mn < 0
    · have dm : decide (mn < 0) = true := decide_eq_true h1
      clear hok hr
      obtain ⟨L, Ap, cp, Aq, cq⟩ := F
      go_enter Try.func9, Try.ntmps9
      go_upto_region 1 with (fail)
      have e := HW0.out
      rw [e]
      clear e

      go_wp2_with (first
        | (go_at_call 16; refine (H16.out _ M.out.H).mono ?_; rintro e wn ⟨rfl, hb⟩; have MN := Lib.hid (M.out.next hb); have BN := Lib.hid (hb0to B.out hb); have M := MN; have B := BN; clear MN BN; (first | (have IN := Lib.hid (ints_later I.out hb); have I := IN; clear IN) | skip); obtain ⟨r0, r1, r2, r3, r4, r5, r6, r7⟩ := M.out.x.cells; clear hb)
        | (go_at_call 19; refine (works_any _).mono ?_; rintro e wn ⟨rfl, hb⟩; have MN := Lib.hid (M.out.next hb); have BN := Lib.hid (hb0to B.out hb); have M := MN; have B := BN; clear MN BN; (first | (have IN := Lib.hid (ints_later I.out hb); have I := IN; clear IN) | skip); obtain ⟨r0, r1, r2, r3, r4, r5, r6, r7⟩ := M.out.x.cells; clear hb))
      go_ret
      exact ⟨rfl, hb0to HBW.out B.out⟩
    · have dm : decide (mn < 0) = false := decide_eq_false h1
      by_cases h2 : 100 < mx
      · have dx : decide (100 < mx) = true := decide_eq_true h2
        clear hok hr
        obtain ⟨L, Ap, cp, Aq, cq⟩ := F
        go_enter Try.func9, Try.ntmps9
        go_upto_region 1 with (fail)
        have e := HW0.out
        rw [e]
        clear e

        go_wp2_with (first
          | (go_at_call 16; refine (H16.out _ M.out.H).mono ?_; rintro e wn ⟨rfl, hb⟩; have MN := Lib.hid (M.out.next hb); have BN := Lib.hid (hb0to B.out hb); have M := MN; have B := BN; clear MN BN; (first | (have IN := Lib.hid (ints_later I.out hb); have I := IN; clear IN) | skip); obtain ⟨r0, r1, r2, r3, r4, r5, r6, r7⟩ := M.out.x.cells; clear hb)
          | (go_at_call 19; refine (works_any _).mono ?_; rintro e wn ⟨rfl, hb⟩; have MN := Lib.hid (M.out.next hb); have BN := Lib.hid (hb0to B.out hb); have M := MN; have B := BN; clear MN BN; (first | (have IN := Lib.hid (ints_later I.out hb); have I := IN; clear IN) | skip); obtain ⟨r0, r1, r2, r3, r4, r5, r6, r7⟩ := M.out.x.cells; clear hb))
        go_ret
        exact ⟨rfl, hb0to HBW.out B.out⟩
      · have dx : decide (100 < mx) = false := decide_eq_false h2
        obtain ⟨hh, hv⟩ := readyB9_iff.1 hr
        have hf := FOK.of hv
        have hn := hugeF_fn hh
        have h0 : 0 ≤ xp ∧ xp ≤ 100 ∧ 0 ≤ xb ∧ xb ≤ 100 := by
          split at hmn <;> split at hmx <;> omega
        obtain ⟨r, hr1, hr2⟩ := rot_ex f.q.length xp
        obtain ⟨t1, t2, t3⟩ := order_plain hf hr1 xb
        refine order_two F f xp xb mn mx w W0 hok hn hf hmn hmx dm dx h0 r hr1 (Lib.hid hr2) (mW f) (wL f) (fun k => wonN (withV f.q (rdF f) k) (outV f.q (rdF f) k)) (mW_bd hf).1 (Nat.le_trans (wL_len hf) hf.ql) HW0 HBW HB HF H16
          (Lib.hid fun W hW => mostF_any F f hn hv W hW) (Lib.hid fun G W hW => ?_) (Lib.hid fun G W hW => ?_) (Lib.hid fun W hW => winnersF_any F f hn hv W hW) (Lib.hid fun G W hW => ?_) (Lib.hid fun k hk W hW => ?_) (Lib.hid fun k hk G W hW => ?_)
        · have h := mostF_any G (rotF f r) (rot_fn hn r) (rot_valid hv r) W hW
          rw [t1] at h
          exact h
        · have h := mostF_any G (whoF f xb) (who_fn hn xb) (who_valid hv xb) W hW
          rw [t2] at h
          exact h
        · have h := winnersF_any G (whoF f xb) (who_fn hn xb) (who_valid hv xb) W hW
          rw [t3] at h
          exact h
        · have h := Won_any F f hn (k : Int) W hW
          rw [won_ret hv hk] at h
          exact h
        · have h := Won_any G (rotF f r) (rot_fn hn r) (k : Int) W hW
          rw [won_ret (rot_valid hv r) (by show k < (rotL f.q r).length; rw [rotL_len]; exact hk)] at h
          obtain ⟨u1, u2⟩ := rot_won (rd := rdF f) hf.ql hf.pos' hr1 hk
          rw [show withV (rotF f r).q (rdF (rotF f r)) k = _ from u1, show outV (rotF f r).q (rdF (rotF f r)) k = _ from u2] at h
          exact h

end Go.Proofs.Ytmconopnplgcfaa
