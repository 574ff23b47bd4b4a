import Derived.Test.YtmbcpmnigggbaaaF7
import Derived.Test.YtmbcpmnigggbaaaCJ
namespace Go.Proofs.Ytmbcpmnigggbaaa.Cu
open Go.RowKit
attribute [local go_sem] Oper.semAt_some
theorem exT_ok : TOK exT := chkT_ok (by decide)
theorem ex_most : Li.mostRet Li.exS = (120, 0) := by kernel_rfl
theorem eq35 (x y : Int) (w : World) : (binOp .eql 35 (.agg #[.int .i64 x, .int .i64 y]) (.agg #[.int .i64 x, .int .i64 y])).run Try.prog w = .ok (.bool true) w := by
  simp [go_sem]
set_option maxRecDepth 100000 in
set_option maxHeartbeats 4000000 in
theorem hauled_any (w : World) : Calls Try.prog 19 #[] w fun e w' => e = .returned (.bool true) ∧ Below w.heap.size w w' := by
  have H70 := Lib.hid (fun W => Li.example_any W)
  have H58 := Lib.hid (fun W => example7_any W)
  have H20 := Lib.hid (fun A W hW => whole_any A 5 exT exT_ok W hW (by rw [ex_low]; unfold far; omega))
  rw [ex_low, ex_high] at H20
  have H23 := Lib.hid (fun L W hW => Li.Most_any L Li.exS W hW)
  rw [ex_most] at H23
  have hs1 := eq35 20 24
  go_enter Try.func19, Try.ntmps19
  go_upto_region 2 with (go_at_call 70; refine (H70.out _).mono ?_; rintro e w1 ⟨a, b, c, d, k, rfl, hS, hR, hb1⟩; have HB1 := Lib.hid hb1; have HS1 := Lib.hid hS; clear hS hR hb1)
  have hx := heap_keep (o' := (.cells #[.int .i64 Li.exR.wl, .int .i64 Li.exR.wh, .slice c Li.exR.ps.length k, .slice (some ⟨d, 0, none⟩) Li.exR.bs.length 2] 44)) (heap_new1 w1 (.cells #[.int .i64 Li.exS.wl, .int .i64 Li.exS.wh, .slice (some ⟨a, 0, none⟩) Li.exS.ps.length 3, .slice (some ⟨b, 0, none⟩) Li.exS.bs.length 4] 44))
  have hb2 := hb0to (al_below w1 (.cells #[.int .i64 Li.exS.wl, .int .i64 Li.exS.wh, .slice (some ⟨a, 0, none⟩) Li.exS.ps.length 3, .slice (some ⟨b, 0, none⟩) Li.exS.bs.length 4] 44)) (al_below _ (.cells #[.int .i64 Li.exR.wl, .int .i64 Li.exR.wh, .slice c Li.exR.ps.length k, .slice (some ⟨d, 0, none⟩) Li.exR.bs.length 2] 44))
  obtain ⟨W2, hW2⟩ : ∃ W2, (w1.alloc (.cells #[.int .i64 Li.exS.wl, .int .i64 Li.exS.wh, .slice (some ⟨a, 0, none⟩) Li.exS.ps.length 3, .slice (some ⟨b, 0, none⟩) Li.exS.bs.length 4] 44)).alloc (.cells #[.int .i64 Li.exR.wl, .int .i64 Li.exR.wh, .slice c Li.exR.ps.length k, .slice (some ⟨d, 0, none⟩) Li.exR.bs.length 2] 44) = W2 := ⟨_, rfl⟩
  rw [hW2] at hx hb2 ⊢
  have HX := Lib.hid (show Li.SBox W2 w1.heap.size ⟨some ⟨a, 0, none⟩, 3, some ⟨b, 0, none⟩, 4⟩ Li.exS from hx)
  have HS2 := Lib.hid (HS1.out.below hb2)
  have HB2 := Lib.hid (hb0to HB1.out hb2)
  clear hx hb2 hW2
  go_upto_region 3 with (go_at_call 58; refine (H58.out _).mono ?_; rintro e w3 ⟨⟨tb, tu, rfl, hT⟩, hb⟩; have HT := Lib.hid hT; have HB3 := Lib.hid (hb0to HB2.out hb); have HS3 := Lib.hid (HS2.out.below hb); obtain ⟨c0, c1, c2, c3⟩ := (HX.out.of (hb.block _ HX.out.lt)).cells; clear hb hT)
  go_upto_region 4 with (go_at_call 23; refine (H23.out _ w3 HS3.out).mono ?_; rintro e w4 ⟨rfl, hb⟩; have HB4 := Lib.hid (hb0to HB3.out hb); have HT4 := Lib.hid (HT.out.lt hb); clear hb)
  clear c0 c1 c2 c3
  go_upto_region 5 with (go_at_call 20; refine (H20.out _ w4 HT4.out).mono ?_; rintro e w5 ⟨rfl, hb⟩; have HB5 := Lib.hid (hb0to HB4.out hb); clear hb)
  have hq := heap_new1 w5 (.cells #[.int .i64 20, .int .i64 24] 35)
  have hb6 := hb0to HB5.out (al_below w5 (.cells #[.int .i64 20, .int .i64 24] 35))
  obtain ⟨W6, hW6⟩ : ∃ W6, w5.alloc (.cells #[.int .i64 20, .int .i64 24] 35) = W6 := ⟨_, rfl⟩
  rw [hW6] at hq hb6 ⊢
  have f0 := cell_of_heap (o := 0) hq rfl
  have f1 := cell_of_heap (o := 1) hq rfl
  clear hq hW6
  go_wp2
  go_ret
  exact ⟨rfl, hb6⟩

end Go.Proofs.Ytmbcpmnigggbaaa.Cu
