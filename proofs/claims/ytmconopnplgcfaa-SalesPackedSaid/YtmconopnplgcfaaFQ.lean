import Derived.Test.YtmconopnplgcfaaFR
import Derived.Test.YtmconopnplgcfaaRI
import Derived.Test.YtmconopnplgcfaaFP
namespace Go.Proofs.Ytmconopnplgcfaa
open Go.RowKit

/-! packings 97. -/
set_option maxRecDepth 100000 in
set_option maxHeartbeats 4000000 in
theorem packs_any (F : FL) (f : Fair) (hv : HOK f.h) (many : Nat) (hmany : f.h.ps.length = many) (h1000 : many ≤ 1000) (hbs : f.h.bs.length ≤ 1000) : ∀ (n : Nat) (pre : List Int) (m : Nat), pre.length = m → m + n = many → (packsF f n pre).length ≤ 1000 → ∀ (A : Option Addr) (c B : Nat) (w : World), FairAt w w.heap.size F f → (A = none → c = 0 ∧ pre = []) → IntsIn w B w.heap.size A pre → B ≤ w.heap.size →
    Calls Try.prog 97 #[F.enc f, .slice A m c] w fun e w' => RowsRet (packsF f n pre) B w' e ∧ Below w.heap.size w w' := by
  intro n
  induction n with
  | zero =>
    intro pre m hm hmn hlen A c B w hF hA hI hB
    have hbw := al_below w (.cells #[.slice F.L.Ak f.h.ks.length F.L.ck, .int .i64 f.h.fl, .slice F.L.Ap f.h.ps.length F.L.cp, .slice F.L.Ab f.h.bs.length F.L.cb, .slice F.Ap f.pk.length F.cp, .int .i64 f.day, .int .i64 f.nb, .slice F.Aq f.q.length F.cq] 29)
    have HB := Lib.hid (FBox.new w F f)
    obtain ⟨c0, c1, c2, c3, c4, c5, c6, c7⟩ := (FBox.new w F f).cells
    obtain ⟨W0, hW0⟩ : ∃ W0, w.alloc (.cells #[.slice F.L.Ak f.h.ks.length F.L.ck, .int .i64 f.h.fl, .slice F.L.Ap f.h.ps.length F.L.cp, .slice F.L.Ab f.h.bs.length F.L.cb, .slice F.Ap f.pk.length F.cp, .int .i64 f.day, .int .i64 f.nb, .slice F.Aq f.q.length F.cq] 29) = W0 := ⟨_, rfl⟩
    rw [hW0] at hbw HB c0 c1 c2 c3 c4 c5 c6 c7
    have HBW := Lib.hid hbw
    have HW0 := Lib.hid hW0
    have HF := Lib.hid (hF.below hbw)
    clear hbw hW0 hF
    have HM := Lib.hid hm
    have HA := Lib.hid hA
    have HI := Lib.hid hI
    have h88 := fun W hW (hb : Below W0.heap.size W0 W) => isPacking_any F.L f.h hv pre (by omega) A c W hW (ints_later (ints_later hI.at_ HBW.out) hb)
    rw [hm] at h88
    have H88 := Lib.hid h88
    have hd : ((m : Int) == (f.h.ps.length : Int)) = true := by simp; omega
    clear hA hI h88 hv hmany
    cases hg : goodB f.h pre
    · have HQ := Lib.hid (show packsF f 0 pre = [] by unfold packsF; rw [hg]; rfl)
      rw [hg] at H88
      clear hm hg hlen hmn
      obtain ⟨L, Ap, cp, Aq, cq⟩ := F
      go_enter Try.func97, Try.ntmps97
      go_upto_region 1 with (fail)
      have e := HW0.out
      rw [e]
      clear e
      go_wp2_with (go_at_call 88; refine (H88.out _ HF.out.h (Below.refl _ _)).mono ?_; rintro e w1 ⟨rfl, hb⟩; have B1 := Lib.hid hb; clear hb)
      go_ret
      exact ⟨by rw [HQ.out]; exact ⟨none, 0, rfl, fun _ => ⟨rfl, rfl⟩, .inl rfl⟩, hb0to HBW.out B1.out⟩
    · have HQ := Lib.hid (show packsF f 0 pre = [pre] by unfold packsF; rw [hg]; rfl)
      rw [hg] at H88
      clear hm hg hlen hmn
      obtain ⟨L, Ap, cp, Aq, cq⟩ := F
      go_enter Try.func97, Try.ntmps97
      go_upto_region 1 with (fail)
      have e := HW0.out
      rw [e]
      clear e
      go_wp2_with (go_at_call 88; refine (H88.out _ HF.out.h (Below.refl _ _)).mono ?_; rintro e w1 ⟨rfl, hb⟩; have B1 := Lib.hid hb; clear hb)
      go_ret
      refine ⟨?_, hb0to HBW.out (hb0to B1.out (al_below _ _))⟩
      rw [HQ.out]
      have hb1 := hb0to HBW.out B1.out
      exact ⟨some ⟨w1.heap.size, 0, none⟩, 1, rfl, (fun e => by cases e), rows_one HM.out HA.out (HI.out.keep (Nat.le_refl _) hb1.size fun b o _ hlt => hb1.cell (p := ⟨b, o, none⟩) hlt) (Nat.le_trans hB hb1.size)⟩
  | succ n ih =>
    intro pre m hm hmn hlen A c B w hF hA hI hB
    have hbw := al_below w (.cells #[.slice F.L.Ak f.h.ks.length F.L.ck, .int .i64 f.h.fl, .slice F.L.Ap f.h.ps.length F.L.cp, .slice F.L.Ab f.h.bs.length F.L.cb, .slice F.Ap f.pk.length F.cp, .int .i64 f.day, .int .i64 f.nb, .slice F.Aq f.q.length F.cq] 29)
    have HB := Lib.hid (FBox.new w F f)
    obtain ⟨c0, c1, c2, c3, c4, c5, c6, c7⟩ := (FBox.new w F f).cells
    obtain ⟨W0, hW0⟩ : ∃ W0, w.alloc (.cells #[.slice F.L.Ak f.h.ks.length F.L.ck, .int .i64 f.h.fl, .slice F.L.Ap f.h.ps.length F.L.cp, .slice F.L.Ab f.h.bs.length F.L.cb, .slice F.Ap f.pk.length F.cp, .int .i64 f.day, .int .i64 f.nb, .slice F.Aq f.q.length F.cq] 29) = W0 := ⟨_, rfl⟩
    rw [hW0] at hbw HB c0 c1 c2 c3 c4 c5 c6 c7
    have HBW := Lib.hid hbw
    have HW0 := Lib.hid hW0
    have HF := Lib.hid (hF.below hbw)
    clear hbw hW0 hF
    have HM := Lib.hid hm
    have HMN := Lib.hid hmn
    have HA := Lib.hid hA
    have HIH := Lib.hid ih
    have hI0 := hI.keep (Nat.le_refl B) HBW.out.size fun b o _ hlt => HBW.out.cell (p := ⟨b, o, none⟩) hlt
    have HI := Lib.hid hI0
    have HBW2 := Lib.hid (Nat.le_trans hB HBW.out.size)
    have HLE := Lib.hid (fun k (hk : k ≤ f.h.bs.length) => Nat.le_trans (packsTo_mono (f := f) (m := n) (p := pre) hk) hlen)
    have HSC := Lib.hid (fun k => packsTo_succ f n pre k)
    have hd : ((m : Int) == (f.h.ps.length : Int)) = false := by simp; omega
    have hm1000 : m ≤ 1000 := by omega
    have hpm : pre.length ≤ 1000 := by omega
    clear hm hA hI hI0 ih hlen hmn hv hmany
    obtain ⟨L, Ap, cp, Aq, cq⟩ := F
    go_enter Try.func97, Try.ntmps97
    go_upto_region 1 with (fail)
    have e := HW0.out
    rw [e]
    clear e
    go_wp2_with (fail)
    go_loopw [5, 6] (fun v i wr => ∃ k : Nat, k ≤ f.h.bs.length ∧ i = .int .i64 (k : Int) ∧ Hid (OwnsR wr B W0.heap.size v (packsTo f n pre k)) ∧ Hid (Below W0.heap.size W0 wr)) (fun _ i _ => f.h.bs.length - (intOf i).toNat)
    case atStart => exact ⟨0, Nat.zero_le _, rfl, Lib.hid (by rw [packsTo_zero]; exact ownsR_nil _ _ _), Lib.hid (Below.refl _ _)⟩
    case round =>
      obtain ⟨k, hk, rfl, hown, hb⟩ := hrel
      obtain ⟨c0, c1, c2, c3, c4, c5, c6, c7⟩ := (HB.out.of (hb.out.block _ HB.out.lt)).cells
      by_cases hlt : k < f.h.bs.length
      · have hob := HLE.out k hk
        have HOS := Lib.hid (HSC.out k)
        have hlb : (packsF f n (pre ++ [(k : Int)])).length ≤ 1000 := by
          have h := HLE.out (k + 1) hlt
          rw [HOS.out, List.length_append] at h
          omega
        have HOWN := Lib.hid hown.out
        have HI1 := Lib.hid (ints_later HI.out.at_ hb.out)
        have HZ := Lib.hid hb.out.size
        have HNC := Lib.hid True.intro
        clear hown
        go_wp2_with (fail)
        go_region_held3 (fun w' => w'.cell? ⟨w.heap.size, 0, none⟩ = some (.slice L.Ak f.h.ks.length L.ck) ∧ w'.cell? ⟨w.heap.size, 1, none⟩ = some (.int .i64 f.h.fl) ∧ w'.cell? ⟨w.heap.size, 2, none⟩ = some (.slice L.Ap f.h.ps.length L.cp) ∧ w'.cell? ⟨w.heap.size, 3, none⟩ = some (.slice L.Ab f.h.bs.length L.cb) ∧ w'.cell? ⟨w.heap.size, 4, none⟩ = some (.slice Ap f.pk.length cp) ∧ w'.cell? ⟨w.heap.size, 5, none⟩ = some (.int .i64 f.day) ∧ w'.cell? ⟨w.heap.size, 6, none⟩ = some (.int .i64 f.nb) ∧ w'.cell? ⟨w.heap.size, 7, none⟩ = some (.slice Aq f.q.length cq)) (first | go_keep)
          (first
            | (have t9 := T5.out; clear T5 t9; refine step_appR 83 Try.underlying83 (by rfl) _ _ (by rfl) W0.heap.size B W0.heap.size _ (packsTo f n pre k) (by rfl) H5.out A5 c5' wr.heap.size _ HA5.out (by rfl) HR5.out (Nat.le_trans HBW2.out HZ.out) (rows_own HOWN.out) (by omega) (by omega) (Nat.le_trans HZ.out B5z.out) (Nat.le_refl _) ?_; intro v6 w6 hown6 hb6; have H6 := Lib.hid hown6; have B6 := Lib.hid (B5.out.trans hb6); obtain ⟨c0, c1, c2, c3, c4, c5, c6, c7⟩ := (HB.out.of (B6.out.block _ HB.out.lt)).cells; clear hown6 hb6)
            | (have t9 := T4.out; clear T4 t9; go_at_call 97; refine (HIH.out (pre ++ [(k : Int)]) (m + 1) (by have := HM.out; rw [List.length_append, this]; rfl) (by have := HMN.out; omega) hlb A4 c4' wr.heap.size w4 (HF.out.below (hb0to hb.out B4.out)) HA4.out HI4.out B4.out.size).mono ?_; rintro e w5 ⟨⟨A5, c5', rfl, hA5, hR5⟩, hb5⟩; have hb5' := hb0to B4.out hb5; have HA5 := Lib.hid hA5; have HR5 := Lib.hid hR5; have H5 := Lib.hid (HOWN.out.below_ hb5' (Nat.le_refl _)); have B5 := Lib.hid (hb0to hb.out hb5'); have hz5 := hb5'.size; have B5z := Lib.hid hz5; have T5 := Lib.hid True.intro; obtain ⟨c0, c1, c2, c3, c4, c5, c6, c7⟩ := (HB.out.of (B5.out.block _ HB.out.lt)).cells; clear hA5 hR5 hb5 hb5' hz5)
            | (have t9 := T3.out; clear T3 t9; refine step_appG (by rfl) _ _ (by rfl) wr.heap.size _ pre (by rfl) (by first | exact H3.out | exact H3.out.alloc _) _ _ (k : Int) (by rfl) (by first | exact x3 | exact cell_of_heap (o := 0) (heap_new1 w3 (.cells #[.int .i64 (k : Int)] 3)) rfl) hpm (by have := B3.out.size; first | omega | (simp; omega)) ?_; intro v4 w4 h1 h2; have B4 : Hid (Below wr.heap.size wr w4) := Lib.hid (Below.trans (by first | exact B3.out | exact hb0to B3.out (al_below _ _) | exact hb0to B3.out (rows_below1 _ _)) h2); obtain ⟨A4, c4', rfl, hA4, hI4⟩ := h1.layN (n := m + 1) (by have := HM.out; rw [List.length_append, this]; first | rfl | simp); have HA4 := Lib.hid hA4; have HI4 := Lib.hid hI4; have T4 := Lib.hid True.intro; obtain ⟨c0, c1, c2, c3, c4, c5, c6, c7⟩ := (HB.out.of ((hb0to hb.out B4.out).block _ HB.out.lt)).cells; clear h1 h2 hA4 hI4)
            | (have hnc := HNC.out; clear HNC hnc; refine step_copyG (by rfl) _ _ (by rfl) wr.heap.size _ [] (by rfl) (by first | exact ints_made wr _ (Nat.le_refl _) | exact made2 wr _ _ (Nat.le_refl _) | exact (ints_made wr _ (Nat.le_refl _)).alloc _) A c pre m HM.out HA.out (by rfl) (ints_later HI1.out (by first | exact Below.refl _ _ | exact al_below _ _ | exact hb0to (al_below _ _) (al_below _ _) | exact drew_below _ | exact rows_below1 _ _ | exact hb0to (al_below _ _) (rows_below1 _ _) | exact hb0to (drew_below _) (al_below _ _) | exact hb0to (hb0to (drew_below _) (al_below _ _)) (al_below _ _))) (by simp) hm1000 (by first | (simp; done) | (simp; omega)) ?_; intro v3 w3 h1 h2 h3; have B3 : Hid (Below wr.heap.size wr w3) := Lib.hid (Below.trans (by first | exact Below.refl _ _ | exact al_below _ _ | exact hb0to (al_below _ _) (al_below _ _) | exact drew_below _ | exact rows_below1 _ _ | exact hb0to (al_below _ _) (rows_below1 _ _) | exact hb0to (drew_below _) (al_below _ _) | exact hb0to (hb0to (drew_below _) (al_below _ _)) (al_below _ _)) h2); have H3 := Lib.hid (show Ints w3 wr.heap.size v3 pre from h1); have T3 := Lib.hid True.intro; (first | (have x3 := cell_of_heap (o := 0) ((h3.block (wr.heap.size + 1) (heap_lt (heap_new2 wr (.cells #[] 3) (.cells #[.int .i64 (k : Int)] 3))) (show some (wr.heap.size + 1) ≠ some wr.heap.size by simp)).trans (heap_new2 wr (.cells #[] 3) (.cells #[.int .i64 (k : Int)] 3))) rfl) | (have x3 := cell_of_heap (o := 0) ((h3.block wr.heap.size (heap_lt (heap_keep (o' := .cells #[] 3) (heap_new1 wr (.cells #[.int .i64 (k : Int)] 3)))) (show some wr.heap.size ≠ some (wr.heap.size + 1) by simp)).trans (heap_keep (o' := .cells #[] 3) (heap_new1 wr (.cells #[.int .i64 (k : Int)] 3)))) rfl) | skip); obtain ⟨c0, c1, c2, c3, c4, c5, c6, c7⟩ := (HB.out.of ((hb0to hb.out B3.out).block _ HB.out.lt)).cells; clear h1 h2 h3))
        all_goals
          go_wp2_with (fail)
          go_roundw
          case rel => exact ⟨k + 1, by omega, by go_num, Lib.hid (by rw [HOS.out]; exact H6.out), B6⟩
          case measure => simp [intOf]; omega
      · have hke : k = f.h.bs.length := by omega
        subst hke
        have hown2 := hown.out
        rw [packsTo_all] at hown2
        obtain ⟨A2, c2, rfl, hA2, hR2⟩ := hown2.lay HBW2.out
        have HA2 := Lib.hid hA2
        have HR2 := Lib.hid hR2
        clear hA2 hR2 hown hown2
        go_wp2_with (fail)
        go_ret
        exact ⟨⟨A2, c2, rfl, HA2.out, HR2.out⟩, hb0to HBW.out hb.out⟩

end Go.Proofs.Ytmconopnplgcfaa
