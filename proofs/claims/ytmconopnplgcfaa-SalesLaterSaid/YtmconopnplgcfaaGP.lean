import Derived.Test.YtmconopnplgcfaaPP
namespace Go.Proofs.Ytmconopnplgcfaa
open Go.RowKit

/-! SalesLater. -/
theorem on_ret {f : Fair} (hv : validF f = true) {d : Int} (hd : inR d 0 20 = true) : onRet f d = (dayV f d, 0) := by
  unfold onRet
  rw [hd]
  exact numRF_ok (ask_valid hv)
theorem ready_ret {f : Fair} (hv : validF f = true) : readyRet f = (rdF f, 0) := listRF_ok (ask_valid hv)
set_option maxRecDepth 100000 in
set_option maxHeartbeats 4000000 in
theorem later_two (F : FL) (f : Fair) (a b : Int) (w W0 : World) (hok : FLOK F f) (hn : FN f) (HDA : Hid (inR a 0 20 = true)) (HDB : Hid (inR b 0 20 = true)) (hab : a ≤ b) (kl ll : List Int) (m n : Int) (d : Nat) (pv : Int)
    (HW0 : Hid (w.alloc (.cells #[.slice F.L.Ak f.h.ks.length F.L.ck, .int .i64 f.h.fl, .slice F.L.Ap f.h.ps.length F.L.cp, .slice F.L.Ab f.h.bs.length F.L.cb, .slice F.Ap f.pk.length F.cp, .int .i64 f.day, .int .i64 f.nb, .slice F.Aq f.q.length F.cq] 29) = W0)) (HBW : Hid (Below w.heap.size w W0)) (HB : Hid (FBox W0 w.heap.size F f)) (HF : Hid (FairAt W0 W0.heap.size F f))
    (H16 : Hid (∀ W, FairAt W W.heap.size F f → Calls Try.prog 16 #[F.enc f] W fun e w' => e = .returned (.bool true) ∧ Below W.heap.size W w'))
    (H29a : Hid (∀ G W, FairAt W W.heap.size G (dayF f a) → Calls Try.prog 29 #[G.enc (dayF f a)] W fun e w' => ListEnd (kl, 0) W.heap.size w' e ∧ Below W.heap.size W w'))
    (H29b : Hid (∀ G W, FairAt W W.heap.size G (dayF f b) → Calls Try.prog 29 #[G.enc (dayF f b)] W fun e w' => ListEnd (ll, 0) W.heap.size w' e ∧ Below W.heap.size W w'))
    (H30a : Hid (∀ W, FairAt W W.heap.size F f → Calls Try.prog 30 #[F.enc f, .int .i64 a] W fun e w' => NumEnd (m, 0) e ∧ Below W.heap.size W w'))
    (H30b : Hid (∀ W, FairAt W W.heap.size F f → Calls Try.prog 30 #[F.enc f, .int .i64 b] W fun e w' => NumEnd (n, 0) e ∧ Below W.heap.size W w'))
    (H30c : Hid (∀ W, FairAt W W.heap.size F f → Calls Try.prog 30 #[F.enc f, .int .i64 (d : Int)] W fun e w' => NumEnd (pv, 0) e ∧ Below W.heap.size W w'))
    (H31 : Hid (∀ W, FairAt W W.heap.size F f → Calls Try.prog 31 #[F.enc f] W fun e w' => NumEnd ((d : Int), 0) e ∧ Below W.heap.size W w'))
    (H25a : Hid (∀ G W, FairAt W W.heap.size G (dayF f a) → Calls Try.prog 25 #[G.enc (dayF f a)] W fun e w' => e = .returned (.int .i64 m) ∧ Below W.heap.size W w'))
    (H25b : Hid (∀ G W, FairAt W W.heap.size G (dayF f b) → Calls Try.prog 25 #[G.enc (dayF f b)] W fun e w' => e = .returned (.int .i64 n) ∧ Below W.heap.size W w'))
    (hkl : kl.length ≤ ll.length) (hlb : ll.length ≤ f.h.bs.length) (hbl : f.h.bs.length ≤ 4) (HMEM : Hid (∀ x ∈ kl, x ∈ ll)) (hm0 : 0 ≤ m) (hmn : m ≤ n) (HDD : Hid (inR (d : Int) 0 20 = true)) (hnp : n ≤ pv) (hway : (d : Int) ≤ a ∨ (¬ (d : Int) ≤ a ∧ m < pv)) :
    Calls Try.prog 5 #[F.enc f, .int .i64 a, .int .i64 b] w fun e w' => e = .returned (.bool true) ∧ Below w.heap.size w w' := by
  have M := Lib.hid (FIn.mk HF.out HB.out)
  have B := Lib.hid (Below.refl W0.heap.size W0)
  obtain ⟨c0, c1, c2, c3, c4, c5, c6, c7⟩ := HB.out.cells
  have d1 : decide (b < a) = false := decide_eq_false (by omega)
  have H28a := Lib.hid (fun W hW => onDay_any F f hn hok a W hW)
  have H28b := Lib.hid (fun W hW => onDay_any F f hn hok b W hW)
  have H24 := Lib.hid (fun (x : Int) A c W hI => rIn_any ll (by omega) x A c W hI)
  clear hok hn
  obtain ⟨L, Ap, cp, Aq, cq⟩ := F
  go_enter Try.func5, Try.ntmps5
  go_upto_region 1 with (fail)
  have e := HW0.out
  rw [e]
  clear e

  go_upto_region 3 with (first
    | (go_at_call 16; refine (H16.out _ M.out.H).mono ?_; rintro e wn ⟨rfl, hb⟩; have MN := Lib.hid (M.out.next hb); have BN := Lib.hid (hb0to B.out hb); have M := MN; have B := BN; clear MN BN; (first | (have IN := Lib.hid (ints_later I.out hb); have I := IN; clear IN) | skip); obtain ⟨r0, r1, r2, r3, r4, r5, r6, r7⟩ := M.out.x.cells; clear hb)
    | (go_at_call 27; refine (rIsDay_any _ _).mono ?_; rintro e w' ⟨rfl, rfl⟩; (first | rw [HDA.out] | skip); (first | rw [HDB.out] | skip)))
  have hwn := B.out.size
  have hbw := HB.out.lt
  have hwl := M.out.x.lt
  have n3 : ¬ wn.heap.size = w.heap.size := by omega
  have n4 : ¬ w.heap.size = wn.heap.size := by omega
  have HNC := Lib.hid True.intro
  go_cut [7, 8] (fun s t wx => NewF2 wn (dayF f a) (dayF f b) s t wx)
  case first =>
    clear H16 H29a H29b H30a H30b H30c H31 H25a H25b H24 HMEM hkl hlb hbl hm0 hmn HDD hnp hway d1
    go_region_held3 (fun w' => w'.cell? ⟨w.heap.size, 0, none⟩ = some (.slice L.Ak f.h.ks.length L.ck) ∧ w'.cell? ⟨w.heap.size, 1, none⟩ = some (.int .i64 f.h.fl) ∧ w'.cell? ⟨w.heap.size, 2, none⟩ = some (.slice L.Ap f.h.ps.length L.cp) ∧ w'.cell? ⟨w.heap.size, 3, none⟩ = some (.slice L.Ab f.h.bs.length L.cb) ∧ w'.cell? ⟨w.heap.size, 4, none⟩ = some (.slice Ap f.pk.length cp) ∧ w'.cell? ⟨w.heap.size, 5, none⟩ = some (.int .i64 f.day) ∧ w'.cell? ⟨w.heap.size, 6, none⟩ = some (.int .i64 f.nb) ∧ w'.cell? ⟨w.heap.size, 7, none⟩ = some (.slice Aq f.q.length cq)) (first | go_keep)
      (first
        | (have HHA := HCA.out; go_at_call 28; refine (H28b.out _ (M.out.H.below (by first | ((repeat (first | with_reducible exact B5.out | with_reducible refine Below.drew ?_ | with_reducible refine alB ?_ _ | with_reducible refine below_s8 ?_ (by first | exact Nat.le_refl _ | exact Nat.le_succ _ | exact hs5 | exact Nat.le_succ_of_le hs5 | exact hs8 | exact Nat.le_succ_of_le hs8) _ _ _ _ _ _ _ _)); done) | fail))).mono ?_; rintro e w8 ⟨⟨⟨⟨j1, j2, j3, j4, j5, j6⟩, j7, j8, j9, j10⟩, rfl, hcf, hq⟩, hb⟩; have hbX := chainB (w := wn) hb (by first | ((repeat (first | with_reducible exact B5.out | with_reducible refine Below.drew ?_ | with_reducible refine alB ?_ _ | with_reducible refine below_s8 ?_ (by first | exact Nat.le_refl _ | exact Nat.le_succ _ | exact hs5 | exact Nat.le_succ_of_le hs5 | exact hs8 | exact Nat.le_succ_of_le hs8) _ _ _ _ _ _ _ _)); done) | fail); have B8 : Hid (Below wn.heap.size wn w8) := Lib.hid (hb0to hbX hb); have hk8 := chainK (w := w5) hb (by first | ((repeat (first | with_reducible exact K29.refl _ | with_reducible refine K29.drew ?_ | with_reducible refine K29.alloc ?_ _ | with_reducible refine K29.set8z ?_ (by first | ((repeat (first | with_reducible exact Hy0.out | with_reducible exact Hy1.out | with_reducible exact Hv0.out | with_reducible exact Hv1.out | with_reducible exact Hv2.out | with_reducible exact Hv3.out | with_reducible assumption | with_reducible exact heap_new1 _ _ | with_reducible exact heap_new2 _ _ _ | with_reducible exact set8_new | with_reducible refine drew_at ?_ | with_reducible refine set8_same ?_ | with_reducible refine set8_other ?_ (by first | with_reducible assumption | exact Nat.ne_of_lt (Nat.lt_succ_self _) | exact Nat.ne_of_gt (Nat.lt_succ_self _)) | with_reducible refine heap_keep ?_)); done) | fail))); done) | fail); have HCA8 := Lib.hid ((copF_of hk8 HCA.out).below hb); have HQA8 := Lib.hid ((ownsQ_of hk8 HQA.out).belowO hb); clear hk8 HHA; have HLT := Lib.hid HQA.out.lt; have hl5 := chainL (w := w5) hb (by first | exact Nat.le_refl _ | (simp only [World.size_setCell, World.size_alloc, at_drew]; done) | (simp only [World.size_setCell, World.size_alloc, at_drew]; first | exact Nat.le_refl _ | exact Nat.le_succ _ | exact Nat.le_succ_of_le (Nat.le_succ _) | exact Nat.le_add_right _ _)); have HCB := Lib.hid (hcf.mono hl5); have HQB := Lib.hid (hq.mono hl5); have hs8 := B8.out.size; have lS8 := Nat.lt_of_lt_of_le hwl hs8; (first | (have v0 : w8.heap[wn.heap.size]? = some (Obj.cells #[.slice none 0 0, .int .i64 0, .slice none 0 0, .slice none 0 0, .slice none 0 0, .int .i64 0, .int .i64 0, .slice none 0 0] 29) := zkeep hb (by first | ((repeat (first | with_reducible exact Hy0.out | with_reducible exact Hy1.out | with_reducible exact Hv0.out | with_reducible exact Hv1.out | with_reducible exact Hv2.out | with_reducible exact Hv3.out | with_reducible assumption | with_reducible exact heap_new1 _ _ | with_reducible exact heap_new2 _ _ _ | with_reducible exact set8_new | with_reducible refine drew_at ?_ | with_reducible refine set8_same ?_ | with_reducible refine set8_other ?_ (by first | with_reducible assumption | exact Nat.ne_of_lt (Nat.lt_succ_self _) | exact Nat.ne_of_gt (Nat.lt_succ_self _)) | with_reducible refine heap_keep ?_)); done) | fail); have Hv0 := Lib.hid v0; have lv0 := heap_lt v0; have n5a := Nat.ne_of_lt lv0; have n5b := Nat.ne_of_gt lv0; have n13a := Nat.ne_of_lt (Nat.lt_succ_of_lt lv0); have n13b := Nat.ne_of_gt (Nat.lt_succ_of_lt lv0); have cv00 := cell_of_heap (o := 0) v0 rfl; have cv01 := cell_of_heap (o := 1) v0 rfl; have cv02 := cell_of_heap (o := 2) v0 rfl; have cv03 := cell_of_heap (o := 3) v0 rfl; have cv04 := cell_of_heap (o := 4) v0 rfl; have cv05 := cell_of_heap (o := 5) v0 rfl; have cv06 := cell_of_heap (o := 6) v0 rfl; have cv07 := cell_of_heap (o := 7) v0 rfl; have cv0f := frozen_of_heap v0) | (have v0 : w8.heap[wn.heap.size]? = some (Obj.cells #[.slice k1 (dayF f a).h.ks.length k2, .int .i64 (dayF f a).h.fl, .slice k3 (dayF f a).h.ps.length k4, .slice k5 (dayF f a).h.bs.length k6, .slice k7 (dayF f a).pk.length k8, .int .i64 (dayF f a).day, .int .i64 (dayF f a).nb, .slice k9 (dayF f a).q.length k10] 29) := zkeep hb (by first | ((repeat (first | with_reducible exact Hy0.out | with_reducible exact Hy1.out | with_reducible exact Hv0.out | with_reducible exact Hv1.out | with_reducible exact Hv2.out | with_reducible exact Hv3.out | with_reducible assumption | with_reducible exact heap_new1 _ _ | with_reducible exact heap_new2 _ _ _ | with_reducible exact set8_new | with_reducible refine drew_at ?_ | with_reducible refine set8_same ?_ | with_reducible refine set8_other ?_ (by first | with_reducible assumption | exact Nat.ne_of_lt (Nat.lt_succ_self _) | exact Nat.ne_of_gt (Nat.lt_succ_self _)) | with_reducible refine heap_keep ?_)); done) | fail); have Hv0 := Lib.hid v0; have lv0 := heap_lt v0; have n5a := Nat.ne_of_lt lv0; have n5b := Nat.ne_of_gt lv0; have n13a := Nat.ne_of_lt (Nat.lt_succ_of_lt lv0); have n13b := Nat.ne_of_gt (Nat.lt_succ_of_lt lv0)) | skip); (first | (have v1 : w8.heap[wn.heap.size + 1]? = some (Obj.cells #[.slice none 0 0, .int .i64 0, .slice none 0 0, .slice none 0 0, .slice none 0 0, .int .i64 0, .int .i64 0, .slice none 0 0] 29) := zkeep hb (by first | ((repeat (first | with_reducible exact Hy0.out | with_reducible exact Hy1.out | with_reducible exact Hv0.out | with_reducible exact Hv1.out | with_reducible exact Hv2.out | with_reducible exact Hv3.out | with_reducible assumption | with_reducible exact heap_new1 _ _ | with_reducible exact heap_new2 _ _ _ | with_reducible exact set8_new | with_reducible refine drew_at ?_ | with_reducible refine set8_same ?_ | with_reducible refine set8_other ?_ (by first | with_reducible assumption | exact Nat.ne_of_lt (Nat.lt_succ_self _) | exact Nat.ne_of_gt (Nat.lt_succ_self _)) | with_reducible refine heap_keep ?_)); done) | fail); have Hv1 := Lib.hid v1; have lv1 := heap_lt v1; have n6a := Nat.ne_of_lt lv1; have n6b := Nat.ne_of_gt lv1; have n14a := Nat.ne_of_lt (Nat.lt_succ_of_lt lv1); have n14b := Nat.ne_of_gt (Nat.lt_succ_of_lt lv1); have cv10 := cell_of_heap (o := 0) v1 rfl; have cv11 := cell_of_heap (o := 1) v1 rfl; have cv12 := cell_of_heap (o := 2) v1 rfl; have cv13 := cell_of_heap (o := 3) v1 rfl; have cv14 := cell_of_heap (o := 4) v1 rfl; have cv15 := cell_of_heap (o := 5) v1 rfl; have cv16 := cell_of_heap (o := 6) v1 rfl; have cv17 := cell_of_heap (o := 7) v1 rfl; have cv1f := frozen_of_heap v1) | (have v1 : w8.heap[wn.heap.size + 1]? = some (Obj.cells #[.slice k1 (dayF f a).h.ks.length k2, .int .i64 (dayF f a).h.fl, .slice k3 (dayF f a).h.ps.length k4, .slice k5 (dayF f a).h.bs.length k6, .slice k7 (dayF f a).pk.length k8, .int .i64 (dayF f a).day, .int .i64 (dayF f a).nb, .slice k9 (dayF f a).q.length k10] 29) := zkeep hb (by first | ((repeat (first | with_reducible exact Hy0.out | with_reducible exact Hy1.out | with_reducible exact Hv0.out | with_reducible exact Hv1.out | with_reducible exact Hv2.out | with_reducible exact Hv3.out | with_reducible assumption | with_reducible exact heap_new1 _ _ | with_reducible exact heap_new2 _ _ _ | with_reducible exact set8_new | with_reducible refine drew_at ?_ | with_reducible refine set8_same ?_ | with_reducible refine set8_other ?_ (by first | with_reducible assumption | exact Nat.ne_of_lt (Nat.lt_succ_self _) | exact Nat.ne_of_gt (Nat.lt_succ_self _)) | with_reducible refine heap_keep ?_)); done) | fail); have Hv1 := Lib.hid v1; have lv1 := heap_lt v1; have n6a := Nat.ne_of_lt lv1; have n6b := Nat.ne_of_gt lv1; have n14a := Nat.ne_of_lt (Nat.lt_succ_of_lt lv1); have n14b := Nat.ne_of_gt (Nat.lt_succ_of_lt lv1)) | skip); (first | (have v2 : w8.heap[w5.heap.size]? = some (Obj.cells #[.slice none 0 0, .int .i64 0, .slice none 0 0, .slice none 0 0, .slice none 0 0, .int .i64 0, .int .i64 0, .slice none 0 0] 29) := zkeep hb (by first | ((repeat (first | with_reducible exact Hy0.out | with_reducible exact Hy1.out | with_reducible exact Hv0.out | with_reducible exact Hv1.out | with_reducible exact Hv2.out | with_reducible exact Hv3.out | with_reducible assumption | with_reducible exact heap_new1 _ _ | with_reducible exact heap_new2 _ _ _ | with_reducible exact set8_new | with_reducible refine drew_at ?_ | with_reducible refine set8_same ?_ | with_reducible refine set8_other ?_ (by first | with_reducible assumption | exact Nat.ne_of_lt (Nat.lt_succ_self _) | exact Nat.ne_of_gt (Nat.lt_succ_self _)) | with_reducible refine heap_keep ?_)); done) | fail); have Hv2 := Lib.hid v2; have lv2 := heap_lt v2; have n7a := Nat.ne_of_lt lv2; have n7b := Nat.ne_of_gt lv2; have n15a := Nat.ne_of_lt (Nat.lt_succ_of_lt lv2); have n15b := Nat.ne_of_gt (Nat.lt_succ_of_lt lv2); have cv20 := cell_of_heap (o := 0) v2 rfl; have cv21 := cell_of_heap (o := 1) v2 rfl; have cv22 := cell_of_heap (o := 2) v2 rfl; have cv23 := cell_of_heap (o := 3) v2 rfl; have cv24 := cell_of_heap (o := 4) v2 rfl; have cv25 := cell_of_heap (o := 5) v2 rfl; have cv26 := cell_of_heap (o := 6) v2 rfl; have cv27 := cell_of_heap (o := 7) v2 rfl; have cv2f := frozen_of_heap v2) | (have v2 : w8.heap[w5.heap.size]? = some (Obj.cells #[.slice k1 (dayF f a).h.ks.length k2, .int .i64 (dayF f a).h.fl, .slice k3 (dayF f a).h.ps.length k4, .slice k5 (dayF f a).h.bs.length k6, .slice k7 (dayF f a).pk.length k8, .int .i64 (dayF f a).day, .int .i64 (dayF f a).nb, .slice k9 (dayF f a).q.length k10] 29) := zkeep hb (by first | ((repeat (first | with_reducible exact Hy0.out | with_reducible exact Hy1.out | with_reducible exact Hv0.out | with_reducible exact Hv1.out | with_reducible exact Hv2.out | with_reducible exact Hv3.out | with_reducible assumption | with_reducible exact heap_new1 _ _ | with_reducible exact heap_new2 _ _ _ | with_reducible exact set8_new | with_reducible refine drew_at ?_ | with_reducible refine set8_same ?_ | with_reducible refine set8_other ?_ (by first | with_reducible assumption | exact Nat.ne_of_lt (Nat.lt_succ_self _) | exact Nat.ne_of_gt (Nat.lt_succ_self _)) | with_reducible refine heap_keep ?_)); done) | fail); have Hv2 := Lib.hid v2; have lv2 := heap_lt v2; have n7a := Nat.ne_of_lt lv2; have n7b := Nat.ne_of_gt lv2; have n15a := Nat.ne_of_lt (Nat.lt_succ_of_lt lv2); have n15b := Nat.ne_of_gt (Nat.lt_succ_of_lt lv2)) | skip); (first | (have v3 : w8.heap[w5.heap.size + 1]? = some (Obj.cells #[.slice none 0 0, .int .i64 0, .slice none 0 0, .slice none 0 0, .slice none 0 0, .int .i64 0, .int .i64 0, .slice none 0 0] 29) := zkeep hb (by first | ((repeat (first | with_reducible exact Hy0.out | with_reducible exact Hy1.out | with_reducible exact Hv0.out | with_reducible exact Hv1.out | with_reducible exact Hv2.out | with_reducible exact Hv3.out | with_reducible assumption | with_reducible exact heap_new1 _ _ | with_reducible exact heap_new2 _ _ _ | with_reducible exact set8_new | with_reducible refine drew_at ?_ | with_reducible refine set8_same ?_ | with_reducible refine set8_other ?_ (by first | with_reducible assumption | exact Nat.ne_of_lt (Nat.lt_succ_self _) | exact Nat.ne_of_gt (Nat.lt_succ_self _)) | with_reducible refine heap_keep ?_)); done) | fail); have Hv3 := Lib.hid v3; have lv3 := heap_lt v3; have n8a := Nat.ne_of_lt lv3; have n8b := Nat.ne_of_gt lv3; have n16a := Nat.ne_of_lt (Nat.lt_succ_of_lt lv3); have n16b := Nat.ne_of_gt (Nat.lt_succ_of_lt lv3); have cv30 := cell_of_heap (o := 0) v3 rfl; have cv31 := cell_of_heap (o := 1) v3 rfl; have cv32 := cell_of_heap (o := 2) v3 rfl; have cv33 := cell_of_heap (o := 3) v3 rfl; have cv34 := cell_of_heap (o := 4) v3 rfl; have cv35 := cell_of_heap (o := 5) v3 rfl; have cv36 := cell_of_heap (o := 6) v3 rfl; have cv37 := cell_of_heap (o := 7) v3 rfl; have cv3f := frozen_of_heap v3) | (have v3 : w8.heap[w5.heap.size + 1]? = some (Obj.cells #[.slice k1 (dayF f a).h.ks.length k2, .int .i64 (dayF f a).h.fl, .slice k3 (dayF f a).h.ps.length k4, .slice k5 (dayF f a).h.bs.length k6, .slice k7 (dayF f a).pk.length k8, .int .i64 (dayF f a).day, .int .i64 (dayF f a).nb, .slice k9 (dayF f a).q.length k10] 29) := zkeep hb (by first | ((repeat (first | with_reducible exact Hy0.out | with_reducible exact Hy1.out | with_reducible exact Hv0.out | with_reducible exact Hv1.out | with_reducible exact Hv2.out | with_reducible exact Hv3.out | with_reducible assumption | with_reducible exact heap_new1 _ _ | with_reducible exact heap_new2 _ _ _ | with_reducible exact set8_new | with_reducible refine drew_at ?_ | with_reducible refine set8_same ?_ | with_reducible refine set8_other ?_ (by first | with_reducible assumption | exact Nat.ne_of_lt (Nat.lt_succ_self _) | exact Nat.ne_of_gt (Nat.lt_succ_self _)) | with_reducible refine heap_keep ?_)); done) | fail); have Hv3 := Lib.hid v3; have lv3 := heap_lt v3; have n8a := Nat.ne_of_lt lv3; have n8b := Nat.ne_of_gt lv3; have n16a := Nat.ne_of_lt (Nat.lt_succ_of_lt lv3); have n16b := Nat.ne_of_gt (Nat.lt_succ_of_lt lv3)) | skip); have M8 := Lib.hid (M.out.next B8.out); obtain ⟨r0, r1, r2, r3, r4, r5, r6, r7⟩ := M8.out.x.cells; have n9a := Nat.ne_of_lt lS8; have n9b := Nat.ne_of_gt lS8; have n17a := Nat.ne_of_lt (Nat.lt_succ_of_lt lS8); have n17b := Nat.ne_of_gt (Nat.lt_succ_of_lt lS8); clear hcf hq hb hbX hl5)
        | (have hnc := HNC.out; clear HNC hnc; go_at_call 28; refine (H28a.out _ (M.out.H.below (by first | ((repeat (first | with_reducible exact Below.refl _ _ | with_reducible refine Below.drew ?_ | with_reducible refine alB ?_ _ | with_reducible refine below_s8 ?_ (by first | exact Nat.le_refl _ | exact Nat.le_succ _ | exact hs5 | exact Nat.le_succ_of_le hs5 | exact hs8 | exact Nat.le_succ_of_le hs8) _ _ _ _ _ _ _ _)); done) | fail))).mono ?_; rintro e w5 ⟨⟨⟨⟨k1, k2, k3, k4, k5, k6⟩, k7, k8, k9, k10⟩, rfl, hcf, hq⟩, hb⟩; have hbX := chainB (w := wn) hb (by first | ((repeat (first | with_reducible exact Below.refl _ _ | with_reducible refine Below.drew ?_ | with_reducible refine alB ?_ _ | with_reducible refine below_s8 ?_ (by first | exact Nat.le_refl _ | exact Nat.le_succ _ | exact hs5 | exact Nat.le_succ_of_le hs5 | exact hs8 | exact Nat.le_succ_of_le hs8) _ _ _ _ _ _ _ _)); done) | fail); have B5 : Hid (Below wn.heap.size wn w5) := Lib.hid (hb0to hbX hb); have HCA := Lib.hid (hcf.mono hbX.size); have HQA := Lib.hid (hq.mono hbX.size); have hs5 := B5.out.size; have lS5 := Nat.lt_of_lt_of_le hwl hs5; (first | (have y0 : w5.heap[wn.heap.size]? = some (Obj.cells #[.slice none 0 0, .int .i64 0, .slice none 0 0, .slice none 0 0, .slice none 0 0, .int .i64 0, .int .i64 0, .slice none 0 0] 29) := zkeep hb (by first | ((repeat (first | with_reducible exact Hy0.out | with_reducible exact Hy1.out | with_reducible exact Hv0.out | with_reducible exact Hv1.out | with_reducible exact Hv2.out | with_reducible exact Hv3.out | with_reducible assumption | with_reducible exact heap_new1 _ _ | with_reducible exact heap_new2 _ _ _ | with_reducible exact set8_new | with_reducible refine drew_at ?_ | with_reducible refine set8_same ?_ | with_reducible refine set8_other ?_ (by first | with_reducible assumption | exact Nat.ne_of_lt (Nat.lt_succ_self _) | exact Nat.ne_of_gt (Nat.lt_succ_self _)) | with_reducible refine heap_keep ?_)); done) | fail); have Hy0 := Lib.hid y0; have ly0 := heap_lt y0; have n1a := Nat.ne_of_lt ly0; have n1b := Nat.ne_of_gt ly0; have n10a := Nat.ne_of_lt (Nat.lt_succ_of_lt ly0); have n10b := Nat.ne_of_gt (Nat.lt_succ_of_lt ly0); have cy00 := cell_of_heap (o := 0) y0 rfl; have cy01 := cell_of_heap (o := 1) y0 rfl; have cy02 := cell_of_heap (o := 2) y0 rfl; have cy03 := cell_of_heap (o := 3) y0 rfl; have cy04 := cell_of_heap (o := 4) y0 rfl; have cy05 := cell_of_heap (o := 5) y0 rfl; have cy06 := cell_of_heap (o := 6) y0 rfl; have cy07 := cell_of_heap (o := 7) y0 rfl; have cy0f := frozen_of_heap y0) | skip); (first | (have y1 : w5.heap[wn.heap.size + 1]? = some (Obj.cells #[.slice none 0 0, .int .i64 0, .slice none 0 0, .slice none 0 0, .slice none 0 0, .int .i64 0, .int .i64 0, .slice none 0 0] 29) := zkeep hb (by first | ((repeat (first | with_reducible exact Hy0.out | with_reducible exact Hy1.out | with_reducible exact Hv0.out | with_reducible exact Hv1.out | with_reducible exact Hv2.out | with_reducible exact Hv3.out | with_reducible assumption | with_reducible exact heap_new1 _ _ | with_reducible exact heap_new2 _ _ _ | with_reducible exact set8_new | with_reducible refine drew_at ?_ | with_reducible refine set8_same ?_ | with_reducible refine set8_other ?_ (by first | with_reducible assumption | exact Nat.ne_of_lt (Nat.lt_succ_self _) | exact Nat.ne_of_gt (Nat.lt_succ_self _)) | with_reducible refine heap_keep ?_)); done) | fail); have Hy1 := Lib.hid y1; have ly1 := heap_lt y1; have n2a := Nat.ne_of_lt ly1; have n2b := Nat.ne_of_gt ly1; have n11a := Nat.ne_of_lt (Nat.lt_succ_of_lt ly1); have n11b := Nat.ne_of_gt (Nat.lt_succ_of_lt ly1); have cy10 := cell_of_heap (o := 0) y1 rfl; have cy11 := cell_of_heap (o := 1) y1 rfl; have cy12 := cell_of_heap (o := 2) y1 rfl; have cy13 := cell_of_heap (o := 3) y1 rfl; have cy14 := cell_of_heap (o := 4) y1 rfl; have cy15 := cell_of_heap (o := 5) y1 rfl; have cy16 := cell_of_heap (o := 6) y1 rfl; have cy17 := cell_of_heap (o := 7) y1 rfl; have cy1f := frozen_of_heap y1) | skip); have M5 := Lib.hid (M.out.next B5.out); obtain ⟨r0, r1, r2, r3, r4, r5, r6, r7⟩ := M5.out.x.cells; have n3a := Nat.ne_of_lt lS5; have n3b := Nat.ne_of_gt lS5; have n12a := Nat.ne_of_lt (Nat.lt_succ_of_lt lS5); have n12b := Nat.ne_of_gt (Nat.lt_succ_of_lt lS5); have n4a := Nat.ne_of_lt (Nat.lt_succ_of_lt hwl); have n4b := Nat.ne_of_gt (Nat.lt_succ_of_lt hwl); clear hcf hq hb hbX))
    all_goals
      go_wp2_with (fail)
      go_meet
      exact ⟨_, _, w5.heap.size, ⟨⟨k1, k2, k3, k4, k5, k6⟩, k7, k8, k9, k10⟩, ⟨⟨j1, j2, j3, j4, j5, j6⟩, j7, j8, j9, j10⟩, rfl, rfl, Two.of HCA8.out HQA8.out HCB.out HQB.out HLT.out hs5 (by first | ((repeat (first | with_reducible exact K29.refl _ | with_reducible refine K29.drew ?_ | with_reducible refine K29.alloc ?_ _ | with_reducible refine K29.set8z ?_ (by first | ((repeat (first | with_reducible exact Hy0.out | with_reducible exact Hy1.out | with_reducible exact Hv0.out | with_reducible exact Hv1.out | with_reducible exact Hv2.out | with_reducible exact Hv3.out | with_reducible assumption | with_reducible exact heap_new1 _ _ | with_reducible exact heap_new2 _ _ _ | with_reducible exact set8_new | with_reducible refine drew_at ?_ | with_reducible refine set8_same ?_ | with_reducible refine set8_other ?_ (by first | with_reducible assumption | exact Nat.ne_of_lt (Nat.lt_succ_self _) | exact Nat.ne_of_gt (Nat.lt_succ_self _)) | with_reducible refine heap_keep ?_)); done) | fail))); done) | fail) (show _ = some (Obj.cells #[.slice k1 (dayF f a).h.ks.length k2, .int .i64 (dayF f a).h.fl, .slice k3 (dayF f a).h.ps.length k4, .slice k5 (dayF f a).h.bs.length k6, .slice k7 (dayF f a).pk.length k8, .int .i64 (dayF f a).day, .int .i64 (dayF f a).nb, .slice k9 (dayF f a).q.length k10] 29) from (by first | ((repeat (first | with_reducible exact Hy0.out | with_reducible exact Hy1.out | with_reducible exact Hv0.out | with_reducible exact Hv1.out | with_reducible exact Hv2.out | with_reducible exact Hv3.out | with_reducible assumption | with_reducible exact heap_new1 _ _ | with_reducible exact heap_new2 _ _ _ | with_reducible exact set8_new | with_reducible refine drew_at ?_ | with_reducible refine set8_same ?_ | with_reducible refine set8_other ?_ (by first | with_reducible assumption | exact Nat.ne_of_lt (Nat.lt_succ_self _) | exact Nat.ne_of_gt (Nat.lt_succ_self _)) | with_reducible refine heap_keep ?_)); done) | fail)) (show _ = some (Obj.cells #[.slice j1 (dayF f b).h.ks.length j2, .int .i64 (dayF f b).h.fl, .slice j3 (dayF f b).h.ps.length j4, .slice j5 (dayF f b).h.bs.length j6, .slice j7 (dayF f b).pk.length j8, .int .i64 (dayF f b).day, .int .i64 (dayF f b).nb, .slice j9 (dayF f b).q.length j10] 29) from (by first | ((repeat (first | with_reducible exact Hy0.out | with_reducible exact Hy1.out | with_reducible exact Hv0.out | with_reducible exact Hv1.out | with_reducible exact Hv2.out | with_reducible exact Hv3.out | with_reducible assumption | with_reducible exact heap_new1 _ _ | with_reducible exact heap_new2 _ _ _ | with_reducible exact set8_new | with_reducible refine drew_at ?_ | with_reducible refine set8_same ?_ | with_reducible refine set8_other ?_ (by first | with_reducible assumption | exact Nat.ne_of_lt (Nat.lt_succ_self _) | exact Nat.ne_of_gt (Nat.lt_succ_self _)) | with_reducible refine heap_keep ?_)); done) | fail)) (by first | exact Nat.le_refl _ | exact Nat.le_succ _ | exact hs5 | exact Nat.le_succ_of_le hs5 | exact hs8 | exact Nat.le_succ_of_le hs8) (by first | exact Nat.le_refl _ | exact Nat.le_succ _ | exact hs5 | exact Nat.le_succ_of_le hs5 | exact hs8 | exact Nat.le_succ_of_le hs8) (by first | with_reducible assumption | exact Nat.ne_of_lt (Nat.lt_succ_self _) | exact Nat.ne_of_gt (Nat.lt_succ_self _)) (by first | ((repeat (first | with_reducible exact B8.out | with_reducible refine Below.drew ?_ | with_reducible refine alB ?_ _ | with_reducible refine below_s8 ?_ (by first | exact Nat.le_refl _ | exact Nat.le_succ _ | exact hs5 | exact Nat.le_succ_of_le hs5 | exact hs8 | exact Nat.le_succ_of_le hs8) _ _ _ _ _ _ _ _)); done) | fail)⟩
  case rest =>
    obtain ⟨z1, z2, n2, F1, F2, rfl, rfl, hT⟩ := hcut
    obtain ⟨wx, rfl⟩ : ∃ x : World, x = wc := ⟨_, rfl⟩
    have hb := hT.B
    have MN := Lib.hid (M.out.next hb)
    have BN := Lib.hid (hb0to B.out hb)
    have P := Lib.hid (FIn.mk (CopRet.fair hT.c1 hT.q1).1 hT.x1)
    have Q := Lib.hid (FIn.mk (CopRet.fair hT.c2 hT.q2).1 hT.x2)
    have M := MN
    have B := BN
    have T29 := Lib.hid True.intro
    have T30a := Lib.hid True.intro
    have T30b := Lib.hid True.intro
    have T25 := Lib.hid True.intro
    clear MN BN hT hb r0 r1 r2 r3 r4 r5 r6 r7 c0 c1 c2 c3 c4 c5 c6 c7 H28a H28b H16 n3 n4 HNC
    obtain ⟨⟨k1, k2, k3, k4, k5, k6⟩, k7, k8, k9, k10⟩ := F1
    obtain ⟨⟨j1, j2, j3, j4, j5, j6⟩, j7, j8, j9, j10⟩ := F2
    obtain ⟨r0, r1, r2, r3, r4, r5, r6, r7⟩ := M.out.x.cells; obtain ⟨p0, p1, p2, p3, p4, p5, p6, p7⟩ := P.out.x.cells; obtain ⟨q0, q1, q2, q3, q4, q5, q6, q7⟩ := Q.out.x.cells
    have e1 : decide ((ll.length : Int) < (kl.length : Int)) = false := decide_eq_false (by omega)
    have e2 : decide (ll.length < kl.length) = false := decide_eq_false (by omega)
    have e3 : decide ((f.h.bs.length : Int) < (ll.length : Int)) = false := decide_eq_false (by omega)
    have e4 : decide (f.h.bs.length < ll.length) = false := decide_eq_false (by omega)
    have e5 : decide (m < 0) = false := decide_eq_false (by omega)
    have e6 : decide (n < m) = false := decide_eq_false (by omega)
    have e7 : decide (n ≤ pv) = true := decide_eq_true hnp
    have hl1 : kl.length ≤ 4 := by omega
    go_upto_region 11 with (first
      | (have t9 := T29.out; clear T29 t9; go_at_call 29; refine (H29a.out _ _ P.out.H).mono ?_; rintro e wn ⟨⟨v, rfl, hv⟩, hb⟩; have MN := Lib.hid (M.out.next hb); have BN := Lib.hid (hb0to B.out hb); have PN := Lib.hid (P.out.next hb); have QN := Lib.hid (Q.out.next hb); have M := MN; have B := BN; have P := PN; have Q := QN; clear MN BN PN QN; (first | (have VN := Lib.hid (ints_later V.out hb); have V := VN; clear VN) | skip); (first | (have UN := Lib.hid (ints_later U.out hb); have U := UN; clear UN) | skip); obtain ⟨A7, c7, rfl, -, -, hv7⟩ := ints_slice hv; have V := Lib.hid hv7; clear hv7 hv; obtain ⟨r0, r1, r2, r3, r4, r5, r6, r7⟩ := M.out.x.cells; obtain ⟨p0, p1, p2, p3, p4, p5, p6, p7⟩ := P.out.x.cells; obtain ⟨q0, q1, q2, q3, q4, q5, q6, q7⟩ := Q.out.x.cells; clear hb)
      | (go_at_call 29; refine (H29b.out _ _ Q.out.H).mono ?_; rintro e wn ⟨⟨v, rfl, hv⟩, hb⟩; have MN := Lib.hid (M.out.next hb); have BN := Lib.hid (hb0to B.out hb); have PN := Lib.hid (P.out.next hb); have QN := Lib.hid (Q.out.next hb); have M := MN; have B := BN; have P := PN; have Q := QN; clear MN BN PN QN; (first | (have VN := Lib.hid (ints_later V.out hb); have V := VN; clear VN) | skip); (first | (have UN := Lib.hid (ints_later U.out hb); have U := UN; clear UN) | skip); obtain ⟨A8, c8, rfl, -, -, hv8⟩ := ints_slice hv; have U := Lib.hid hv8; clear hv8 hv; obtain ⟨r0, r1, r2, r3, r4, r5, r6, r7⟩ := M.out.x.cells; obtain ⟨p0, p1, p2, p3, p4, p5, p6, p7⟩ := P.out.x.cells; obtain ⟨q0, q1, q2, q3, q4, q5, q6, q7⟩ := Q.out.x.cells; clear hb)
      | (have t9 := T30a.out; clear T30a t9; go_at_call 30; refine (H30a.out _ M.out.H).mono ?_; rintro e wn ⟨rfl, hb⟩; have MN := Lib.hid (M.out.next hb); have BN := Lib.hid (hb0to B.out hb); have PN := Lib.hid (P.out.next hb); have QN := Lib.hid (Q.out.next hb); have M := MN; have B := BN; have P := PN; have Q := QN; clear MN BN PN QN; (first | (have VN := Lib.hid (ints_later V.out hb); have V := VN; clear VN) | skip); (first | (have UN := Lib.hid (ints_later U.out hb); have U := UN; clear UN) | skip); obtain ⟨r0, r1, r2, r3, r4, r5, r6, r7⟩ := M.out.x.cells; obtain ⟨p0, p1, p2, p3, p4, p5, p6, p7⟩ := P.out.x.cells; obtain ⟨q0, q1, q2, q3, q4, q5, q6, q7⟩ := Q.out.x.cells; clear hb)
      | (have t9 := T30b.out; clear T30b t9; go_at_call 30; refine (H30b.out _ M.out.H).mono ?_; rintro e wn ⟨rfl, hb⟩; have MN := Lib.hid (M.out.next hb); have BN := Lib.hid (hb0to B.out hb); have PN := Lib.hid (P.out.next hb); have QN := Lib.hid (Q.out.next hb); have M := MN; have B := BN; have P := PN; have Q := QN; clear MN BN PN QN; (first | (have VN := Lib.hid (ints_later V.out hb); have V := VN; clear VN) | skip); (first | (have UN := Lib.hid (ints_later U.out hb); have U := UN; clear UN) | skip); obtain ⟨r0, r1, r2, r3, r4, r5, r6, r7⟩ := M.out.x.cells; obtain ⟨p0, p1, p2, p3, p4, p5, p6, p7⟩ := P.out.x.cells; obtain ⟨q0, q1, q2, q3, q4, q5, q6, q7⟩ := Q.out.x.cells; clear hb)
      | (go_at_call 31; refine (H31.out _ M.out.H).mono ?_; rintro e wn ⟨rfl, hb⟩; have MN := Lib.hid (M.out.next hb); have BN := Lib.hid (hb0to B.out hb); have PN := Lib.hid (P.out.next hb); have QN := Lib.hid (Q.out.next hb); have M := MN; have B := BN; have P := PN; have Q := QN; clear MN BN PN QN; (first | (have VN := Lib.hid (ints_later V.out hb); have V := VN; clear VN) | skip); (first | (have UN := Lib.hid (ints_later U.out hb); have U := UN; clear UN) | skip); obtain ⟨r0, r1, r2, r3, r4, r5, r6, r7⟩ := M.out.x.cells; obtain ⟨p0, p1, p2, p3, p4, p5, p6, p7⟩ := P.out.x.cells; obtain ⟨q0, q1, q2, q3, q4, q5, q6, q7⟩ := Q.out.x.cells; clear hb)
      | (have t9 := T25.out; clear T25 t9; go_at_call 25; refine (H25a.out _ _ P.out.H).mono ?_; rintro e wn ⟨rfl, hb⟩; have MN := Lib.hid (M.out.next hb); have BN := Lib.hid (hb0to B.out hb); have PN := Lib.hid (P.out.next hb); have QN := Lib.hid (Q.out.next hb); have M := MN; have B := BN; have P := PN; have Q := QN; clear MN BN PN QN; (first | (have VN := Lib.hid (ints_later V.out hb); have V := VN; clear VN) | skip); (first | (have UN := Lib.hid (ints_later U.out hb); have U := UN; clear UN) | skip); obtain ⟨r0, r1, r2, r3, r4, r5, r6, r7⟩ := M.out.x.cells; obtain ⟨p0, p1, p2, p3, p4, p5, p6, p7⟩ := P.out.x.cells; obtain ⟨q0, q1, q2, q3, q4, q5, q6, q7⟩ := Q.out.x.cells; clear hb)
      | (go_at_call 25; refine (H25b.out _ _ Q.out.H).mono ?_; rintro e wn ⟨rfl, hb⟩; have MN := Lib.hid (M.out.next hb); have BN := Lib.hid (hb0to B.out hb); have PN := Lib.hid (P.out.next hb); have QN := Lib.hid (Q.out.next hb); have M := MN; have B := BN; have P := PN; have Q := QN; clear MN BN PN QN; (first | (have VN := Lib.hid (ints_later V.out hb); have V := VN; clear VN) | skip); (first | (have UN := Lib.hid (ints_later U.out hb); have U := UN; clear UN) | skip); obtain ⟨r0, r1, r2, r3, r4, r5, r6, r7⟩ := M.out.x.cells; obtain ⟨p0, p1, p2, p3, p4, p5, p6, p7⟩ := P.out.x.cells; obtain ⟨q0, q1, q2, q3, q4, q5, q6, q7⟩ := Q.out.x.cells; clear hb)
      | (go_at_call 27; refine (rIsDay_any _ _).mono ?_; rintro e w' ⟨rfl, rfl⟩; rw [HDD.out]))
    clear r0 r1 r2 r3 r4 r5 r6 r7 p0 p1 p2 p3 p4 p5 p6 p7 q0 q1 q2 q3 q4 q5 q6 q7
    clear H29a H29b H30a H30b H31 H25a H25b
    go_wp2_with (fail)
    go_loopw [19] (fun i wr => ∃ k : Nat, k ≤ kl.length ∧ i = .int .i64 k ∧ Hid (FIn wr w.heap.size ⟨L, Ap, cp, Aq, cq⟩ f) ∧ Hid (FIn wr z1 ⟨⟨k1, k2, k3, k4, k5, k6⟩, k7, k8, k9, k10⟩ (dayF f a)) ∧ Hid (FIn wr z2 ⟨⟨j1, j2, j3, j4, j5, j6⟩, j7, j8, j9, j10⟩ (dayF f b)) ∧ Hid (IntsAt wr wr.heap.size A7 kl) ∧ Hid (IntsAt wr wr.heap.size A8 ll) ∧ Hid (Below W0.heap.size W0 wr)) (fun i _ => kl.length - (intOf i).toNat)
    case atStart => exact ⟨0, Nat.zero_le _, rfl, M, P, Q, V, U, B⟩
    case round =>
      obtain ⟨k, hk, rfl, M, P, Q, V, U, B⟩ := hrel
      by_cases hlt : k < kl.length
      · obtain ⟨x, hx⟩ : ∃ x, kl[k]? = some x := ⟨_, List.getElem?_eq_getElem hlt⟩
        have hxm : decide (x ∈ ll) = true := decide_eq_true (HMEM.out x (List.mem_of_getElem? hx))
        have H24 := Lib.hid (fun A c W hI => H24.out x A c W hI)
        rw [hxm] at H24
        obtain ⟨b1, o1, rfl, b1lt, g1⟩ := V.out.at_ hx
        clear hx hxm
        go_wp2_with (go_at_call 24; refine (H24.out A8 c8 wr U.out).mono ?_; rintro e w5 ⟨rfl, hb⟩; have MN := Lib.hid (M.out.next hb); have BN := Lib.hid (hb0to B.out hb); have PN := Lib.hid (P.out.next hb); have QN := Lib.hid (Q.out.next hb); have VN := Lib.hid (ints_later V.out hb); have UN := Lib.hid (ints_later U.out hb); clear hb)
        go_roundw
        case rel => exact ⟨k + 1, by omega, by go_num, MN, PN, QN, VN, UN, BN⟩
        case measure => simp [intOf]; omega
      · obtain rfl : k = kl.length := by omega
        obtain ⟨r0, r1, r2, r3, r4, r5, r6, r7⟩ := M.out.x.cells
        rcases hway with hw | ⟨hw, hw2⟩
        · have e8 : decide ((d : Int) ≤ a) = true := decide_eq_true (by omega)
          clear hw
          go_wp2_with (first
            | (go_at_call 30; refine (H30c.out wr M.out.H).mono ?_; rintro e w8 ⟨rfl, hb⟩; have B8 := Lib.hid (hb0to B.out hb); clear hb)
            | (go_at_call 19; refine (works_any _).mono ?_; rintro e w9 ⟨rfl, hb⟩; have B9 := Lib.hid (hb0to B8.out hb); clear hb))
          go_ret
          exact ⟨rfl, hb0to HBW.out B9.out⟩
        · have e8 : decide ((d : Int) ≤ a) = false := decide_eq_false (by omega)
          have e9 : decide (m < pv) = true := decide_eq_true (by omega)
          clear hw hw2
          go_wp2_with (first
            | (go_at_call 30; refine (H30c.out wr M.out.H).mono ?_; rintro e w8 ⟨rfl, hb⟩; have B8 := Lib.hid (hb0to B.out hb); clear hb)
            | (go_at_call 19; refine (works_any _).mono ?_; rintro e w9 ⟨rfl, hb⟩; have B9 := Lib.hid (hb0to B8.out hb); clear hb))
          go_ret
          exact ⟨rfl, hb0to HBW.out B9.out⟩
set_option maxRecDepth 100000 in
set_option maxHeartbeats 4000000 in
theorem later_law (F : FL) (f : Fair) (a b : Int) (w : World) (hok : FLOK F f) (hF : FairAt w w.heap.size F f) : Calls Try.prog 5 #[F.enc f, .int .i64 a, .int .i64 b] w fun e w' => e = .returned (.bool true) ∧ Below w.heap.size w w' := by
  have hbw := al_below w (.cells #[.slice F.L.Ak f.h.ks.length F.L.ck, .int .i64 f.h.fl, .slice F.L.Ap f.h.ps.length F.L.cp, .slice F.L.Ab f.h.bs.length F.L.cb, .slice F.Ap f.pk.length F.cp, .int .i64 f.day, .int .i64 f.nb, .slice F.Aq f.q.length F.cq] 29)
  have HB := Lib.hid (FBox.new w F f)
  obtain ⟨c0, c1, c2, c3, c4, c5, c6, c7⟩ := (FBox.new w F f).cells
  obtain ⟨W0, hW0⟩ : ∃ W0, w.alloc (.cells #[.slice F.L.Ak f.h.ks.length F.L.ck, .int .i64 f.h.fl, .slice F.L.Ap f.h.ps.length F.L.cp, .slice F.L.Ab f.h.bs.length F.L.cb, .slice F.Ap f.pk.length F.cp, .int .i64 f.day, .int .i64 f.nb, .slice F.Aq f.q.length F.cq] 29) = W0 := ⟨_, rfl⟩
  rw [hW0] at hbw HB c0 c1 c2 c3 c4 c5 c6 c7
  have HBW := Lib.hid hbw
  have HW0 := Lib.hid hW0
  have HF := Lib.hid (hF.below hbw)
  clear hbw hW0 hF
  have M := Lib.hid (FIn.mk HF.out HB.out)
  have B := Lib.hid (Below.refl W0.heap.size W0)
  have H16 := Lib.hid (fun W hW => readyF_any F f W hW)
  cases hr : readyB9 f
  · rw [hr] at H16
    clear hok hr
    obtain ⟨L, Ap, cp, Aq, cq⟩ := F
    go_enter Try.func5, Try.ntmps5
    go_upto_region 1 with (fail)
    have e := HW0.out
    rw [e]
    clear e

    go_wp2_with (first
      | (go_at_call 16; refine (H16.out _ M.out.H).mono ?_; rintro e wn ⟨rfl, hb⟩; have MN := Lib.hid (M.out.next hb); have BN := Lib.hid (hb0to B.out hb); have M := MN; have B := BN; clear MN BN; (first | (have IN := Lib.hid (ints_later I.out hb); have I := IN; clear IN) | skip); obtain ⟨r0, r1, r2, r3, r4, r5, r6, r7⟩ := M.out.x.cells; clear hb)
      | (go_at_call 19; refine (works_any _).mono ?_; rintro e wn ⟨rfl, hb⟩; have MN := Lib.hid (M.out.next hb); have BN := Lib.hid (hb0to B.out hb); have M := MN; have B := BN; clear MN BN; (first | (have IN := Lib.hid (ints_later I.out hb); have I := IN; clear IN) | skip); obtain ⟨r0, r1, r2, r3, r4, r5, r6, r7⟩ := M.out.x.cells; clear hb))
    go_ret
    exact ⟨rfl, hb0to HBW.out B.out⟩
  · rw [hr] at H16
    cases ha : inR a 0 20
    · have HDA := Lib.hid ha
      have HDB := HDA
      clear hok hr ha
      obtain ⟨L, Ap, cp, Aq, cq⟩ := F
      go_enter Try.func5, Try.ntmps5
      go_upto_region 1 with (fail)
      have e := HW0.out
      rw [e]
      clear e

      go_wp2_with (first
        | (go_at_call 16; refine (H16.out _ M.out.H).mono ?_; rintro e wn ⟨rfl, hb⟩; have MN := Lib.hid (M.out.next hb); have BN := Lib.hid (hb0to B.out hb); have M := MN; have B := BN; clear MN BN; (first | (have IN := Lib.hid (ints_later I.out hb); have I := IN; clear IN) | skip); obtain ⟨r0, r1, r2, r3, r4, r5, r6, r7⟩ := M.out.x.cells; clear hb)
        | (go_at_call 27; refine (rIsDay_any _ _).mono ?_; rintro e w' ⟨rfl, rfl⟩; (first | rw [HDA.out] | skip); (first | rw [HDB.out] | skip))
        | (go_at_call 19; refine (works_any _).mono ?_; rintro e wn ⟨rfl, hb⟩; have MN := Lib.hid (M.out.next hb); have BN := Lib.hid (hb0to B.out hb); have M := MN; have B := BN; clear MN BN; (first | (have IN := Lib.hid (ints_later I.out hb); have I := IN; clear IN) | skip); obtain ⟨r0, r1, r2, r3, r4, r5, r6, r7⟩ := M.out.x.cells; clear hb))
      go_ret
      exact ⟨rfl, hb0to HBW.out B.out⟩
    · cases hb : inR b 0 20
      · have HDA := Lib.hid ha
        have HDB := Lib.hid hb
        clear hok hr ha hb
        obtain ⟨L, Ap, cp, Aq, cq⟩ := F
        go_enter Try.func5, Try.ntmps5
        go_upto_region 1 with (fail)
        have e := HW0.out
        rw [e]
        clear e

        go_wp2_with (first
          | (go_at_call 16; refine (H16.out _ M.out.H).mono ?_; rintro e wn ⟨rfl, hb⟩; have MN := Lib.hid (M.out.next hb); have BN := Lib.hid (hb0to B.out hb); have M := MN; have B := BN; clear MN BN; (first | (have IN := Lib.hid (ints_later I.out hb); have I := IN; clear IN) | skip); obtain ⟨r0, r1, r2, r3, r4, r5, r6, r7⟩ := M.out.x.cells; clear hb)
          | (go_at_call 27; refine (rIsDay_any _ _).mono ?_; rintro e w' ⟨rfl, rfl⟩; (first | rw [HDA.out] | skip); (first | rw [HDB.out] | skip))
          | (go_at_call 19; refine (works_any _).mono ?_; rintro e wn ⟨rfl, hb⟩; have MN := Lib.hid (M.out.next hb); have BN := Lib.hid (hb0to B.out hb); have M := MN; have B := BN; clear MN BN; (first | (have IN := Lib.hid (ints_later I.out hb); have I := IN; clear IN) | skip); obtain ⟨r0, r1, r2, r3, r4, r5, r6, r7⟩ := M.out.x.cells; clear hb))
        go_ret
        exact ⟨rfl, hb0to HBW.out B.out⟩
      · have HDA := Lib.hid ha
        have HDB := Lib.hid hb
        by_cases hab : b < a
        · have d1 : decide (b < a) = true := decide_eq_true hab
          clear hok hr ha hb
          obtain ⟨L, Ap, cp, Aq, cq⟩ := F
          go_enter Try.func5, Try.ntmps5
          go_upto_region 1 with (fail)
          have e := HW0.out
          rw [e]
          clear e

          go_wp2_with (first
            | (go_at_call 16; refine (H16.out _ M.out.H).mono ?_; rintro e wn ⟨rfl, hb⟩; have MN := Lib.hid (M.out.next hb); have BN := Lib.hid (hb0to B.out hb); have M := MN; have B := BN; clear MN BN; (first | (have IN := Lib.hid (ints_later I.out hb); have I := IN; clear IN) | skip); obtain ⟨r0, r1, r2, r3, r4, r5, r6, r7⟩ := M.out.x.cells; clear hb)
            | (go_at_call 27; refine (rIsDay_any _ _).mono ?_; rintro e w' ⟨rfl, rfl⟩; (first | rw [HDA.out] | skip); (first | rw [HDB.out] | skip))
            | (go_at_call 19; refine (works_any _).mono ?_; rintro e wn ⟨rfl, hb⟩; have MN := Lib.hid (M.out.next hb); have BN := Lib.hid (hb0to B.out hb); have M := MN; have B := BN; clear MN BN; (first | (have IN := Lib.hid (ints_later I.out hb); have I := IN; clear IN) | skip); obtain ⟨r0, r1, r2, r3, r4, r5, r6, r7⟩ := M.out.x.cells; clear hb))
          go_ret
          exact ⟨rfl, hb0to HBW.out B.out⟩
        · obtain ⟨hh, hv⟩ := readyB9_iff.1 hr
          have hf := FOK.of hv
          have hn := hugeF_fn hh
          have ha2 := inR_true.1 ha
          have hb2 := inR_true.1 hb
          have hab : a ≤ b := by omega
          obtain ⟨p1, p2, p3⟩ := later_plain hf ha2 hb2
          have hd : inR (whenV f : Int) 0 20 = true := inR_true.2 (by omega)
          refine later_two F f a b w W0 hok hn HDA HDB hab (readyL f.h f.pk a) (readyL f.h f.pk b) (dayV f a) (dayV f b) (whenV f) (dayV f (whenV f)) HW0 HBW HB HF H16
            (Lib.hid fun G W hW => ?_) (Lib.hid fun G W hW => ?_) (Lib.hid fun W hW => ?_) (Lib.hid fun W hW => ?_) (Lib.hid fun W hW => ?_) (Lib.hid fun W hW => ?_) (Lib.hid fun G W hW => mostF_any G (dayF f a) (day_fn hn a) (day_valid hv ha2) W hW) (Lib.hid fun G W hW => mostF_any G (dayF f b) (day_fn hn b) (day_valid hv hb2) W hW)
            (readyL_len hab) readyL_all hf.bl (Lib.hid (readyL_mem hab)) (dayV_bd hf a).1 (dayV_mono hf hab) (Lib.hid hd) p2 ?_
          · have h := Ready_any G (dayF f a) (day_fn hn a) W hW
            rw [ready_ret (day_valid hv ha2)] at h
            exact h
          · have h := Ready_any G (dayF f b) (day_fn hn b) W hW
            rw [ready_ret (day_valid hv hb2)] at h
            exact h
          · have h := On_any F f hn a W hW
            rw [on_ret hv ha] at h
            exact h
          · have h := On_any F f hn b W hW
            rw [on_ret hv hb] at h
            exact h
          · have h := On_any F f hn (whenV f : Int) W hW
            rw [on_ret hv hd] at h
            exact h
          · have h := When_any F f hn W hW
            rw [show whenRet f = ((whenV f : Int), 0) from numRF_ok (ask_valid hv)] at h
            exact h
          · by_cases h : (whenV f : Int) ≤ a
            · exact .inl h
            · rcases p3 with h2 | h2
              · exact .inl h2
              · exact .inr ⟨h, h2⟩

end Go.Proofs.Ytmconopnplgcfaa
