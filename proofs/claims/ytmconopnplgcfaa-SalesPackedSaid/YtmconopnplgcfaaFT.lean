import Derived.Test.YtmconopnplgcfaaFR
import Derived.Test.YtmconopnplgcfaaRI
import Derived.Test.YtmconopnplgcfaaPP
import Derived.Laws.MakeOwn
namespace Go.Proofs.Ytmconopnplgcfaa
open Go.RowKit

/-! Repack 61. -/
theorem made_eq (n : Nat) : madeCells (Value.cells (.int .i64 0)) (n * 1) = ((List.replicate n (0 : Int)).map (Value.int .i64)).toArray := by
  apply Array.ext
  · simp [madeCells]
  · intro i h1 h2
    simp [madeCells, Value.cells, Nat.mod_one]
theorem make_ints (n : Nat) (hn : n ≤ 1000) (w : World) : (Instr.makeSlice 24 (.int .i64 (n : Int)) (.int .i64 (n : Int))).run Try.prog w = .ok (.slice (some ⟨w.heap.size, 0, none⟩) n n) (w.alloc (.cells ((List.replicate n (0 : Int)).map (Value.int .i64)).toArray 3)) := by
  obtain ⟨i0, hi, hz0, hz1, hz2⟩ := info_parts info3'
  have h := run_makeSlice (P := Try.prog) (w := w) 24 3 i0 _ Try.underlying24 hi hz0 .i64 .i64 (n : Int) (n : Int) (by omega) (by omega) (by rw [hz1]; simp; omega) (by rw [hz2]; omega) (by omega)
  rw [hz1, Int.toNat_natCast, made_eq] at h
  exact h
def repL (f : Fair) : List Int := (bestP f ([], -1) (packsF f f.pk.length [])).1
def repRet (f : Fair) : List Int × Int := listRF f true (repL f)
set_option maxRecDepth 100000 in
set_option maxHeartbeats 4000000 in
theorem Repack_any (F : FL) (f : Fair) (hn : FN f) (hc : f.h.bs.length ^ f.pk.length ≤ 1000 ∨ validF f = false) (w : World) (hF : FairAt w w.heap.size F f) : Calls Try.prog 61 #[F.enc f] w fun e w' => ListIn (repRet f) w.heap.size w' e ∧ Below w.heap.size w w' := by
  have HF0 := Lib.hid hF
  have hbw := al_below w (.cells #[.slice F.L.Ak f.h.ks.length F.L.ck, .int .i64 f.h.fl, .slice F.L.Ap f.h.ps.length F.L.cp, .slice F.L.Ab f.h.bs.length F.L.cb, .slice F.Ap f.pk.length F.cp, .int .i64 f.day, .int .i64 f.nb, .slice F.Aq f.q.length F.cq] 29)
  have HB := Lib.hid (FBox.new w F f)
  obtain ⟨c0, c1, c2, c3, c4, c5, c6, c7⟩ := (FBox.new w F f).cells
  obtain ⟨W0, hW0⟩ : ∃ W0, w.alloc (.cells #[.slice F.L.Ak f.h.ks.length F.L.ck, .int .i64 f.h.fl, .slice F.L.Ap f.h.ps.length F.L.cp, .slice F.L.Ab f.h.bs.length F.L.cb, .slice F.Ap f.pk.length F.cp, .int .i64 f.day, .int .i64 f.nb, .slice F.Aq f.q.length F.cq] 29) = W0 := ⟨_, rfl⟩
  rw [hW0] at hbw HB c0 c1 c2 c3 c4 c5 c6 c7
  have HBW := Lib.hid hbw
  have HW0 := Lib.hid hW0
  have HF := Lib.hid (hF.below hbw)
  clear hbw hW0 hF
  have HN := Lib.hid hn
  by_cases h0 : askF f true = 0
  · have H66 := Lib.hid (open_yes F f true HN.out W0 HF.out h0)
    obtain ⟨hv, -⟩ := askF_ok h0
    have hf := FOK.of hv
    have hpn := hn.p
    have HQ := Lib.hid (show repRet f = (repL f, 0) from listRF_ok h0)
    have hc1 : (packsF f f.pk.length []).length ≤ 1000 := by
      rcases hc with h | h
      · exact Nat.le_trans (packsF_len f _ _) h
      · rw [hv] at h; cases h
    have HR := Lib.hid (fun fb ob s n0 => rep_any F f hn hf n0 fb ob s f.pk.length [] (by simp) ([], -1) 0)
    have HC1 := Lib.hid hc1
    clear h0 hn hc hv hf hc1
    obtain ⟨L, Ap, cp, Aq, cq⟩ := F
    go_enter Try.func61, Try.ntmps61
    go_upto_region 1 with (fail)
    have e := HW0.out
    rw [e]
    clear e

    go_upto_region 4 with (go_at_call 66; refine H66.out.mono ?_; rintro e w1 ⟨⟨b, rfl, hbb, hO⟩, hb1⟩; have B1 := Lib.hid hb1; have HO := Lib.hid hO; have HBB := Lib.hid hbb; have r4 := (HB.out.of (hb1.block _ HB.out.lt)).cells.2.2.2.2.1; clear hb1 hO hbb)
    have hmm := @makes0
    clear c0 c1 c2 c3 c4 c5 c6 c7
    have hww : w.heap.size < w1.heap.size := by have h1 := HB.out.lt; have h2 := B1.out.size; omega
    go_upto_region 7 with (fail)
    obtain ⟨s, hs⟩ : ∃ s, s = w1.heap.size := ⟨_, rfl⟩
    rw [← hs]
    obtain ⟨W6, hW6⟩ : ∃ W, ((((w1.alloc (.cells #[.pointer (some ⟨b, 0, none⟩)] 64)).alloc (.map #[] 0)).alloc (.cells #[.map (some (s + 1))] 74)).alloc (.cells #[.slice none 0 0] 24)).alloc (.cells #[.int .i64 (-1)] 3) = W := ⟨_, rfl⟩
    rw [hW6]
    have hb6 : Below w1.heap.size w1 W6 := by rw [← hW6]; exact alB (alB (alB (alB (al_below _ _) _) _) _) _
    have hz6 : W6.heap.size = s + 5 := by rw [← hW6, hs]; simp only [World.size_alloc]
    have u0 : W6.heap[s]? = some (.cells #[.pointer (some ⟨b, 0, none⟩)] 64) := by rw [← hW6, hs]; exact heap_keep (heap_keep (heap_keep (heap_keep (heap_new1 _ _))))
    have u2 : W6.heap[s + 2]? = some (.cells #[.map (some (s + 1))] 74) := by
      rw [← hW6]; refine heap_keep (heap_keep ?_)
      have := heap_new1 ((w1.alloc (.cells #[.pointer (some ⟨b, 0, none⟩)] 64)).alloc (.map #[] 0)) (.cells #[.map (some (s + 1))] 74)
      simp only [World.size_alloc] at this
      rw [hs]; rw [hs] at this; exact this
    have u3 : W6.heap[s + 3]? = some (.cells #[.slice none 0 0] 24) := by
      rw [← hW6]; refine heap_keep ?_
      have := heap_new1 (((w1.alloc (.cells #[.pointer (some ⟨b, 0, none⟩)] 64)).alloc (.map #[] 0)).alloc (.cells #[.map (some (s + 1))] 74)) (.cells #[.slice none 0 0] 24)
      simp only [World.size_alloc] at this
      rw [hs]; rw [hs] at this; exact this
    have u4 : W6.heap[s + 4]? = some (.cells #[.int .i64 (-1)] 3) := by
      rw [← hW6]
      have := heap_new1 ((((w1.alloc (.cells #[.pointer (some ⟨b, 0, none⟩)] 64)).alloc (.map #[] 0)).alloc (.cells #[.map (some (s + 1))] 74)).alloc (.cells #[.slice none 0 0] 24)) (.cells #[.int .i64 (-1)] 3)
      simp only [World.size_alloc] at this
      rw [hs]; rw [hs] at this; exact this
    have uK : KnownM W6 (s + 1) 0 (maskV f.q) := by
      rw [← hW6, hs]
      have h1 := KnownM.made (w1.alloc (.cells #[.pointer (some ⟨b, 0, none⟩)] 64)) (maskV f.q)
      simp only [World.size_alloc] at h1
      exact h1.below (alB (alB (al_below _ _) _) _)
    have HB6 := Lib.hid hb6
    have HZ6 := Lib.hid hz6
    have HU := Lib.hid (And.intro u0 (And.intro u2 (And.intro u3 (And.intro u4 uK))))
    have HS := Lib.hid hs
    have r4 := below_cell hb6 r4
    have hsW : w.heap.size < s := by omega
    clear hW6 hb6 hz6 u0 u2 u3 u4 uK hs hww
    have hmk := make_ints f.pk.length hpn
    have hW6n : ¬ w.heap.size = W6.heap.size := by rw [HZ6.out]; omega
    go_upto_region 10 with (fail)
    rw [HZ6.out]
    obtain ⟨W9, hW9⟩ : ∃ W, ((W6.alloc (.cells (Array.replicate f.pk.length (.int .i64 0)) 3)).alloc (.cells #[.slice (some ⟨s + 5, 0, none⟩) f.pk.length f.pk.length] 24)).alloc (.cells #[.func (.func 95) #[] #[.pointer (some ⟨s + 5 + 1, 0, none⟩), .pointer (some ⟨w.heap.size, 0, none⟩), .pointer (some ⟨s + 5 + 1 + 1, 0, none⟩), .pointer (some ⟨s, 0, none⟩), .pointer (some ⟨s + 1 + 1, 0, none⟩), .pointer (some ⟨s + 1 + 1 + 1 + 1, 0, none⟩), .pointer (some ⟨s + 1 + 1 + 1, 0, none⟩)]] 93) = W := ⟨_, rfl⟩
    rw [hW9]
    have hb9 : Below W6.heap.size W6 W9 := by rw [← hW9]; exact alB (alB (al_below _ _) _) _
    have hz9 : W9.heap.size = s + 8 := by rw [← hW9]; simp only [World.size_alloc]; rw [HZ6.out]
    have a5 : W9.heap[s + 5]? = some (.cells (Array.replicate f.pk.length (.int .i64 0)) 3) := by
      have := heap_new1 W6 (.cells (Array.replicate f.pk.length (.int .i64 0)) 3)
      rw [HZ6.out] at this
      rw [← hW9]; exact heap_keep (heap_keep this)
    have a6 : W9.heap[s + 5 + 1]? = some (.cells #[.slice (some ⟨s + 5, 0, none⟩) f.pk.length f.pk.length] 24) := by
      have := heap_new1 (W6.alloc (.cells (Array.replicate f.pk.length (.int .i64 0)) 3)) (.cells #[.slice (some ⟨s + 5, 0, none⟩) f.pk.length f.pk.length] 24)
      simp only [World.size_alloc] at this
      rw [HZ6.out] at this
      rw [← hW9]; exact heap_keep this
    have a7 : W9.heap[s + 5 + 1 + 1]? = some (.cells #[.func (.func 95) #[] #[.pointer (some ⟨s + 5 + 1, 0, none⟩), .pointer (some ⟨w.heap.size, 0, none⟩), .pointer (some ⟨s + 5 + 1 + 1, 0, none⟩), .pointer (some ⟨s, 0, none⟩), .pointer (some ⟨s + 1 + 1, 0, none⟩), .pointer (some ⟨s + 1 + 1 + 1 + 1, 0, none⟩), .pointer (some ⟨s + 1 + 1 + 1, 0, none⟩)]] 93) := by
      have := heap_new1 ((W6.alloc (.cells (Array.replicate f.pk.length (.int .i64 0)) 3)).alloc (.cells #[.slice (some ⟨s + 5, 0, none⟩) f.pk.length f.pk.length] 24)) (.cells #[.func (.func 95) #[] #[.pointer (some ⟨s + 5 + 1, 0, none⟩), .pointer (some ⟨w.heap.size, 0, none⟩), .pointer (some ⟨s + 5 + 1 + 1, 0, none⟩), .pointer (some ⟨s, 0, none⟩), .pointer (some ⟨s + 1 + 1, 0, none⟩), .pointer (some ⟨s + 1 + 1 + 1 + 1, 0, none⟩), .pointer (some ⟨s + 1 + 1 + 1, 0, none⟩)]] 93)
      simp only [World.size_alloc] at this
      rw [HZ6.out] at this
      rw [← hW9]; exact this
    obtain ⟨u0, u2, u3, u4, uK⟩ := HU.out
    have hz6 := HZ6.out
    have hs := HS.out
    have v0 := (hb9.block _ (heap_lt u0)).trans u0
    have v2 := (hb9.block _ (heap_lt u2)).trans u2
    have v3 := (hb9.block _ (heap_lt u3)).trans u3
    have v4 := (hb9.block _ (heap_lt u4)).trans u4
    have hB0 : Below W0.heap.size W0 W9 := hb0to B1.out (hb0to HB6.out hb9)
    have hBw := hb0to HBW.out hB0
    have hbb := HBB.out
    have hOlt := HO.out.lt
    have hblt := HB.out.lt
    obtain ⟨A1, c1, u1, e1, e2, e3⟩ := HO.out.ex
    have hb19 := hb0to HB6.out hb9
    have hRM : RepM W9 w.heap.size w.heap.size b s ⟨L, Ap, cp, Aq, cq⟩ f [] ([], -1) 0 :=
      ⟨HF0.out.keep (Nat.le_refl _) fun k o hk => hBw.cell (p := ⟨k, o, none⟩) hk, HB.out.of (hB0.block _ hblt), cell_of_heap (o := 0) v0 rfl, cell_of_heap (o := 0) v2 rfl, ⟨none, 0, v3, fun _ => ⟨rfl, rfl⟩, .inl rfl⟩, v4,
        ⟨List.replicate f.pk.length 0, by rw [a5]; simp, by simp, by simp⟩, cell_of_heap (o := 0) a6 rfl, cell_of_heap (o := 0) a7 rfl,
        ⟨A1, c1, u1, _, e1.of (hb19.block _ hOlt), by rw [hs]; exact e2.keep (Nat.le_refl _) (fun k o hk => hb19.cell (p := ⟨k, o, none⟩) hk), e3, HO.out.ne A1 c1 u1 e1⟩, uK.below hb9, by omega, Nat.le_refl _, by omega, by omega⟩
    have HC := Lib.hid (HR.out w.heap.size b s w.heap.size W9 hRM (by rw [Nat.zero_add]; exact HC1.out))
    have f7 := cell_of_heap (o := 0) a7 rfl
    have f7b : W9.cell? ⟨s + 7, 0, none⟩ = _ := f7
    have hsW0 : W0.heap.size ≤ s := by rw [hs]; exact B1.out.size
    have HB0 := Lib.hid hB0
    clear hW9 hb9 a5 a6 a7 u0 u2 u3 u4 uK v0 v2 v3 v4 hBw e1 e2 e3 hb19 hRM r4 hmk hmm hs hz6
    go_wp2_with (go_at_call 95; refine HC.out.mono ?_; rintro e w5 ⟨rfl, hk5, hR5⟩; have HK5 := Lib.hid hk5; obtain ⟨A2, c2, g1, g2, g3⟩ := hR5.best; have g0 : w5.cell? ⟨s + 1 + 1 + 1, 0, none⟩ = some (.slice A2 (repL f).length c2) := cell_of_heap (o := 0) g1 rfl; have g0b : w5.cell? ⟨s + 3, 0, none⟩ = _ := g0; have HG := Lib.hid (And.intro g2 g3); clear hk5 hR5 g1 g2 g3)
    go_ret2
    refine ⟨?_, hb0to HBW.out (KpB.under HB0.out HK5.out (by omega) (fun k hk => by rcases hk with rfl | rfl | rfl | rfl | rfl <;> omega))⟩
    rw [HQ.out]
    exact ⟨A2, c2, rfl, HG.out.1, HG.out.2.keep (by omega) (Nat.le_refl _) fun _ _ _ _ => rfl⟩
  · have H66 := Lib.hid (open_no F f true HN.out W0 HF.out h0)
    obtain ⟨er, her⟩ : ∃ x, x = askF f true := ⟨_, rfl⟩
    have HQ := Lib.hid (show repRet f = ([], er) from by rw [her]; exact listRF_no rfl h0)
    rw [← her] at H66 h0
    have hd : (er != 0) = true := bne_iff_ne.2 h0
    clear h0 her hn hc
    obtain ⟨L, Ap, cp, Aq, cq⟩ := F
    go_enter Try.func61, Try.ntmps61
    go_upto_region 1 with (fail)
    have e := HW0.out
    rw [e]
    clear e

    go_wp2_with (go_at_call 66; refine (H66.out).mono ?_; rintro e w1 ⟨rfl, hb1⟩; have B1 := Lib.hid hb1; clear hb1)
    go_ret2
    exact ⟨by rw [HQ.out]; exact ⟨none, 0, rfl, fun _ => ⟨rfl, rfl⟩, .inl rfl⟩, hb0to HBW.out (hb0to B1.out (al_below _ _))⟩

end Go.Proofs.Ytmconopnplgcfaa
