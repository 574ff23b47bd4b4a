import Derived.Test.YtgjpllmmpclgaaaF3
namespace Go.Proofs.Ytgjpllmmpclgaaa
open Go.RowKit

/-! Stronger 38. -/
theorem OwnsP.some_ {W : World} {t : TypeId} {base n c : Nat} {A : Option Addr} {ns : List (Int × Int)} (h : OwnsP W t base (.slice A n c) ns) (hn : ns.length ≠ 0) : ∃ g, A = some ⟨g, 0, none⟩ ∧ base ≤ g ∧ (∃ arr, W.heap[g]? = some (.cells arr t (0, 0))) := by
  rcases h.2 with ⟨e, h0⟩ | ⟨g, cap, cur, e, hb, hg, _⟩
  · exact absurd h0 hn
  · cases e
    exact ⟨g, rfl, hb, cur, hg⟩
set_option maxRecDepth 100000 in
set_option maxHeartbeats 4000000 in
theorem stronger_any (L : SL) (s : Sea) (hS : SOK s) (hok : SLOK L s) (i : Nat) (hi : i < s.bs.length) (w : World) (hH : SeaAt w w.heap.size L s) : Calls Try.prog 38 #[L.enc s, .int .i64 i] w fun e w' => CopyRet (strongS s i) w.heap.size w' e ∧ Below w.heap.size w w' := by
  have hbw := hb0to (al_below w (.cells #[.int .i64 s.wl, .int .i64 s.wh, .slice L.Ap s.ps.length L.cp, .slice L.Ab s.bs.length L.cb] 27)) (al_below _ (.cells #[.int .i64 0, .int .i64 0, .slice none 0 0, .slice none 0 0] 27))
  have hx0 := (SBox.new w L s).of (Below.heap_alloc _ (.cells #[.int .i64 0, .int .i64 0, .slice none 0 0, .slice none 0 0] 27) _ (by simp))
  have hz0 : ZBox _ (w.heap.size + 1) := heap_new2 w (.cells #[.int .i64 s.wl, .int .i64 s.wh, .slice L.Ap s.ps.length L.cp, .slice L.Ab s.bs.length L.cb] 27) (.cells #[.int .i64 0, .int .i64 0, .slice none 0 0, .slice none 0 0] 27)
  obtain ⟨W0, hW0⟩ : ∃ W0, (w.alloc (.cells #[.int .i64 s.wl, .int .i64 s.wh, .slice L.Ap s.ps.length L.cp, .slice L.Ab s.bs.length L.cb] 27)).alloc (.cells #[.int .i64 0, .int .i64 0, .slice none 0 0, .slice none 0 0] 27) = W0 := ⟨_, rfl⟩
  rw [hW0] at hbw hx0 hz0
  have HBW := Lib.hid hbw
  have HW0 := Lib.hid hW0
  have HZ := Lib.hid hz0
  have hpl := hS.pl
  have hbl := hS.bl
  have HC := Lib.hid (copy_any L s ⟨by omega, by omega⟩ hok W0 (hH.below hbw))
  obtain ⟨z, hz, z0, z1, z2, z3⟩ := boat_at hS hi
  have HZZ := Lib.hid hz
  have hwz : IntKind.i64.wrap (z.1 + 1) = z.1 + 1 := IntWalk.i64_in _ (by omega)
  obtain ⟨c0, c1, c2, c3⟩ := hx0.cells
  clear hbw hW0 hH hx0 hz0 hok hS hz
  obtain ⟨Ap, cp, Ab, cb⟩ := L
  go_enter Try.func38, Try.ntmps38
  go_upto_region 1 with (fail)
  have e := HW0.out
  rw [e]
  clear e
  go_upto_region 2 with (go_at_call 37; refine HC.out.mono ?_; rintro e w2 ⟨⟨⟨Bp, dp, Bb, db⟩, rfl, hC⟩, hb⟩; have B2 := Lib.hid hb; have C2 := Lib.hid hC; clear hb hC)
  obtain ⟨g, hgB, hgb, arr, harr⟩ := C2.out.b.some_ (by omega)
  simp only at hgB
  subst hgB
  have HO := Lib.hid (OBox.new C2.out)
  have B3 := Lib.hid (hb0to B2.out (al_below w2 (.cells #[.int .i64 s.wl, .int .i64 s.wh, .slice Bp s.ps.length dp, .slice (some ⟨g, 0, none⟩) s.bs.length db] 27)))
  simp only at HO
  obtain ⟨W3, hW3⟩ : ∃ W3, w2.alloc (.cells #[.int .i64 s.wl, .int .i64 s.wh, .slice Bp s.ps.length dp, .slice (some ⟨g, 0, none⟩) s.bs.length db] 27) = W3 := ⟨_, rfl⟩
  rw [hW3] at HO B3 ⊢
  clear hW3 c0 c1 c2 c3 harr
  obtain ⟨c0, c1, c2, c3⟩ := HO.out.x.cells
  obtain ⟨_, _, e1, _, d1, d2⟩ := HO.out.C.sea.b.at_ HZZ.out
  cases e1
  rw [Nat.zero_add] at d1 d2
  have hib : i < s.bs.length := hi
  have hx3 := HO.out.x.lt
  go_upto_region 4 with (fail)
  have HO4 := Lib.hid (HO.out.below (al_below W3 (.cells #[.int .i64 (z.1 + 1), .int .i64 z.2] 55)))
  have B4 := Lib.hid (hb0to B3.out (al_below W3 (.cells #[.int .i64 (z.1 + 1), .int .i64 z.2] 55)))
  have f0 : (W3.alloc (.cells #[.int .i64 (z.1 + 1), .int .i64 z.2] 55)).cell? ⟨W3.heap.size, 0, none⟩ = some (.int .i64 (z.1 + 1)) := by simp [go_sem]
  have f1 : (W3.alloc (.cells #[.int .i64 (z.1 + 1), .int .i64 z.2] 55)).cell? ⟨W3.heap.size, 1, none⟩ = some (.int .i64 z.2) := by simp [go_sem]
  obtain ⟨W4, hW4⟩ : ∃ W4, W3.alloc (.cells #[.int .i64 (z.1 + 1), .int .i64 z.2] 55) = W4 := ⟨_, rfl⟩
  rw [hW4] at HO4 B4 f0 f1 ⊢
  clear hW4 c0 c1 c2 c3 d1 d2
  obtain ⟨c0, c1, c2, c3⟩ := HO4.out.x.cells
  obtain ⟨_, _, e1, _, d1, d2⟩ := HO4.out.C.sea.b.at_ HZZ.out
  cases e1
  rw [Nat.zero_add] at d1 d2
  obtain ⟨_, e2, _, arr, harr⟩ := HO4.out.C.b.some_ (by omega)
  cases e2
  have gf := frozen_of_heap harr
  have glt := heap_lt harr
  clear harr
  go_upto_region 5 with (fail)
  have hstr : strongS s i = { s with bs := s.bs.set i (z.1 + 1, z.2) } := by
    unfold strongS
    simp only [List.getD, HZZ.out, Option.getD_some]
  have HO5 := Lib.hid (HO4.out.setB rfl hib (z.1 + 1, z.2))
  have B5 := Lib.hid ((B4.out.setCell (p := ⟨g, i * 2, none⟩) hgb (.int .i64 (z.1 + 1))).setCell (p := ⟨g, i * 2 + 1, none⟩) hgb (.int .i64 z.2))
  rw [← hstr] at HO5
  have HSTR := Lib.hid hstr
  simp only at HO5
  obtain ⟨X, hX⟩ : ∃ X, (W4.setCell ⟨g, i * 2, none⟩ (.int .i64 (z.1 + 1))).setCell ⟨g, i * 2 + 1, none⟩ (.int .i64 z.2) = X := ⟨_, rfl⟩
  rw [hX] at HO5 B5 ⊢
  clear hX hstr c0 c1 c2 c3 d1 d2 f0 f1 gf
  have HZX := Lib.hid (show ZBox X (w.heap.size + 1) from (B5.out.block _ (heap_lt HZ.out)).trans HZ.out)
  have zf := HZX.out.frozen
  have zc := HZX.out.cells
  obtain ⟨c0, c1, c2, c3⟩ := HO5.out.x.cells
  go_wp2
  refine bodyPost_ret (results_cell rfl rfl (HZX.out.load _ _ _ _)) rfl ⟨⟨⟨Bp, dp, some ⟨g, 0, none⟩, db⟩, rfl, ?_, ?_⟩, ?_⟩
  · exact (show OwnsP _ 23 W0.heap.size _ _ from HZX.out.owns HO5.out.C.p (by decide) _ _ _ _).mono HBW.out.size
  · exact (show OwnsP _ 55 W0.heap.size _ _ from HZX.out.owns HO5.out.C.b (by decide) _ _ _ _).mono HBW.out.size
  · exact below_set4 (hb0to HBW.out B5.out) (by omega) _ _ _ _
end Go.Proofs.Ytgjpllmmpclgaaa
