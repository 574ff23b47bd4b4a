import Derived.Test.YtmconopnplgcfaaFM
namespace Go.Proofs.Ytmconopnplgcfaa
open Go.RowKit

/-! on 71, and what it keeps of the fair at work. -/
set_option maxRecDepth 100000 in
set_option maxHeartbeats 4000000 in
theorem on8_any (F : FL) (f : Fair) (hn : FN f) (hf : FOK f) (rd0 : List Int) (b mb B : Nat) (pk : List Int) (hg : goodB f.h pk = true) (A : Option Addr) (c : Nat) (day : Int) (n : Nat) (hnn : n < 1000000) (w : World) (hB : B ≤ w.heap.size) (hF : FairAt w B F f) (hP : IntsAt w w.heap.size A pk) (hO : OpenAt w b F f rd0) (hM : KnownM w mb n (maskV f.q)) :
    Calls Try.prog 71 #[.pointer (some ⟨b, 0, none⟩), .slice A pk.length c, .int .i64 day, .map (some mb)] w fun e w' => e = .returned (.int .i64 (mostV f.q (readyL f.h pk day))) ∧ KpB (fun k => k = b ∨ k = mb) w.heap.size w w' ∧ OpenAt w' b F f (readyL f.h pk day) ∧ w'.cell? ⟨b, 8, none⟩ = w.cell? ⟨b, 8, none⟩ ∧ KnownM w' mb (n + 1) (maskV f.q) := by
  obtain ⟨A0, cl0, u0, hOB, _, _⟩ := hO.ex
  obtain ⟨g0, g1, g2, g3, g4, g5, g6, g7, g8, g9⟩ := hOB.cells
  have hlb := hOB.lt
  have H98 := Lib.hid (ready_any F f hn hf.h pk hg A c day w (hF.keep hB fun _ _ _ => rfl) hP)
  have HO := Lib.hid hO
  have HM := Lib.hid hM
  have HF := Lib.hid hf
  have HG := Lib.hid hg
  have HOB := Lib.hid hOB
  clear hn hf hF hP hO hM hg hOB
  obtain ⟨L, Ap, cp, Aq, cq⟩ := F
  go_enter Try.func71, Try.ntmps71
  go_upto_region 2 with (go_at_call 98; refine H98.out.mono ?_; rintro e w1 ⟨⟨u, rfl, hu⟩, hb1⟩; have B1 := Lib.hid hb1; have HU := Lib.hid (ready_mask HG.out hu); have HOB1 := Lib.hid (HOB.out.of (hb1.block _ hlb)); have p9 := HOB1.out.cells.2.2.2.2.2.2.2.2.2; have f9 := frozen_of_heap HOB1.out 9; clear hb1 hu)
  have hne := HOB.out.notMap HM.out.isMap
  have hO2 := (HO.out.below B1.out).set HU.out
  have hM2 := (HM.out.below B1.out).set (fun e => hne e.symm) 9 (.int .i64 (u : Int))
  have hk2 : KpB (fun k => k = b ∨ k = mb) w.heap.size w (w1.setCell ⟨b, 9, none⟩ (.int .i64 (u : Int))) := (kpB_of_below B1.out).set _ _ (.inl (.inl rfl))
  obtain ⟨W2, hW2⟩ : ∃ W2, w1.setCell ⟨b, 9, none⟩ (.int .i64 (u : Int)) = W2 := ⟨_, rfl⟩
  rw [hW2] at hO2 hM2 hk2 ⊢
  have hu16 := HU.out.lt
  have hgv := maskV_bd HF.out u
  have HQ := Lib.hid (maskV_eq HF.out HU.out)
  have HK2 := Lib.hid hk2
  have hmk := hM2.isMap
  have hmlt := hM2.lt
  obtain ⟨D, hown, hD, hat⟩ := hM2
  obtain ⟨A2, cl2, u2, hOB2, _, hU2⟩ := hO2.ex
  have HO2 := Lib.hid hO2
  have q9 : W2.cell? ⟨b, 9, none⟩ = some (.int .i64 (u : Int)) := by
    rw [← hW2]
    exact (HOB1.out.set9 u).cells.2.2.2.2.2.2.2.2.2
  have HC8 := Lib.hid (show W2.cell? ⟨b, 8, none⟩ = w.cell? ⟨b, 8, none⟩ by
    rw [← hW2, g8]
    exact (HOB1.out.set9 u).cells.2.2.2.2.2.2.2.2.1)
  have HL8 := Lib.hid (show b < W2.heap.size from cell_lt q9)
  have HOWN := Lib.hid hown
  have HAT := Lib.hid hat
  have HD := Lib.hid hD
  have HMK := Lib.hid hmk
  clear hW2 hO2 hk2 hmk hown hD hat hOB2 hU2 p9 f9 g0 g1 g2 g3 g4 g5 g6 g7 g8 g9
  cases hh : Maps.has D (.int .i64 (u : Int))
  · have HH := Lib.hid hh
    clear hh
    go_upto_region 5 with (refine look_known (by rfl) _ _ (by rfl) mb n D u hu16 (by rfl) HOWN.out (by rfl) false HH.out ?_; intro cv hcv; have HCV := Lib.hid hcv; clear hcv)
    have H77 := Lib.hid (fun z => most_78 ⟨L, Ap, cp, Aq, cq⟩ f HF.out (readyL f.h pk day) b allM (extB W2 z) (HO2.out.below (extB_below W2 z)) (fun m hm X hX => (all_any78 m X).mono fun e X' h => ⟨h.1, h.2 ▸ Below.refl _ _⟩))
    have HMV := Lib.hid (show mostTo f.q allM (setsL f.q (readyL f.h pk day)) = maskV f.q u from HQ.out)
    rw [HMV.out] at H77
    have y9 := extB_cell q9
    refine wp_region_tailX 7 (by rfl) (by kernel_rfl) (by kernel_rfl) (by kernel_rfl) (by kernel_rfl) ?_
    simp only [List.take_succ_cons, List.take_zero, List.getD_cons_succ, List.getD_cons_zero, List.cons_append, List.nil_append, idle]
    repeat (go_big_quiet_step ((go_at_call 77; exact ext_call (H77.out _))))
    refine wpQuiet_nil ?_
    rintro _ ⟨t1, rfl⟩
    have hb6 := extB_below W2 t1
    have hown6 := HOWN.out.kept (w' := extB W2 t1) (row := none) ⟨hb6.os, hb6.tape, hb6.output, hb6.size, fun i hi _ => hb6.block i hi⟩ (by simp)
    have HB6 := Lib.hid hb6
    have HO6 := Lib.hid (HO2.out.below hb6)
    have hmk6 : ∃ es ck, (extB W2 t1).heap[mb]? = some (.map es ck) := by
      obtain ⟨es, ck, h⟩ := HMK.out
      exact ⟨es, ck, (hb6.block _ hmlt).trans h⟩
    have HMK6 := Lib.hid hmk6
    have q6 := y9 t1
    have HC86 := Lib.hid ((hb6.cell (p := ⟨b, 8, none⟩) HL8.out).trans HC8.out)
    have HL86 := Lib.hid (Nat.lt_of_lt_of_le HL8.out hb6.size)
    obtain ⟨W6, hW6⟩ : ∃ W6, extB W2 t1 = W6 := ⟨_, rfl⟩
    rw [hW6] at hown6 HB6 HO6 HMK6 q6 HC86 HL86 ⊢
    clear hW6 hb6 y9 hmk6 q9
    refine wp_upd _ _ _ (by rfl) mb n D u hu16 (maskV f.q u) (by rfl) hown6 hnn (by rfl) (by rfl) hgv ?_
    intro w7 hown7 hgr7
    have hO7 := HO6.out.grown hgr7 HMK6.out
    have hk7 : KpB (fun k => k = b ∨ k = mb) w.heap.size w w7 := (HK2.out.trans ((kpB_of_below HB6.out).mono HK2.out.size fun _ _ h => h)).trans ((kpB_grown hgr7).mono (Nat.le_trans HK2.out.size HB6.out.size) fun _ _ h => .inr h)
    have q7 := (World.cell?_of_block (a := ⟨b, 9, none⟩) (hgr7.block b (cell_lt q6) (fun e => hne (Option.some.inj e)))).trans q6
    have HC87 := Lib.hid ((World.cell?_of_block (a := ⟨b, 8, none⟩) (hgr7.block b HL86.out (fun e => hne (Option.some.inj e)))).trans HC86.out)
    have HK7 := Lib.hid hk7
    have HO7 := Lib.hid hO7
    have HOW7 := Lib.hid hown7
    have HAT7 := Lib.hid (Maps.atKey_put_same (k := Lit.int .i64 (u : Int)) HD.out (by trivial) (.lit (.int .i64 (maskV f.q u))) (.lit (.int .i64 0)))
    clear hgr7 hk7 hO7 hown7 q6 hown6
    go_wp2_with (refine look_one (by rfl) _ _ (by rfl) mb (n + 1) _ u hu16 (by rfl) HOW7.out (by rfl) (maskV f.q u) HAT7.out ?_)
    go_ret
    refine ⟨by rw [HQ.out]; rfl, HK7.out, HO7.out, HC87.out, _, HOW7.out, HD.out.put _ _, fun x hx hh => ?_⟩
    by_cases e : x = u
    · subst e; exact HAT7.out
    · have hne2 : Lit.int .i64 (x : Int) ≠ Lit.int .i64 (u : Int) := fun h => e (by injection h; omega)
      rw [Maps.has_put_other hne2] at hh
      rw [Maps.atKey_put_other hne2]
      exact HAT.out x hx hh
  · have HH := Lib.hid hh
    have hat2 := HAT.out u hu16 hh
    have HA2 := Lib.hid hat2
    clear hh hat2
    go_wp2_with (refine look_known (by rfl) _ _ (by rfl) mb n D u hu16 (by rfl) HOWN.out (by rfl) true HH.out ?_; intro cv hcv; obtain rfl := lit_inj (hcv.symm.trans HA2.out); clear hcv)
    go_ret
    exact ⟨by rw [HQ.out]; rfl, HK2.out, HO2.out, HC8.out, D, HOWN.out.mono (Nat.le_succ n), HD.out, HAT.out⟩

end Go.Proofs.Ytmconopnplgcfaa
