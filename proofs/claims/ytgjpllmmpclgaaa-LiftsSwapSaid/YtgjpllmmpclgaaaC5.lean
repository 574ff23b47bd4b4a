import Derived.Test.YtgjpllmmpclgaaaB9
namespace Go.Proofs.Ytgjpllmmpclgaaa
open Go.RowKit

/-! lifts 84. -/
/-- What each boat of a crew holds with its parts. -/
def heldL (s : Sea) (c : List Int) : List Int := c.zipIdx.map fun p => holdsN (carryN s p.1.toNat) (shares s p.2).2
theorem heldL_length (s : Sea) (c : List Int) : (heldL s c).length = c.length := by simp [heldL]
theorem heldL_at {s : Sea} {c : List Int} {k : Nat} {x : Int} (h : c[k]? = some x) : (heldL s c)[k]? = some (holdsN (carryN s x.toNat) (shares s k).2) := by
  simp [heldL, h]
/-- The most that a crew lifts, up to 2000. -/
def liftS (s : Sea) (c : List Int) : Int := minN (heldL s c)
theorem minN_next {l : List Int} {k : Nat} {x : Int} (h : l[k]? = some x) : minN (l.take (k + 1)) = if x < minN (l.take k) then x else minN (l.take k) := by
  have e : l.take (k + 1) = l.take k ++ [x] := by rw [List.take_add_one, h]; rfl
  rw [e, minN_snoc]
  split <;> omega
set_option maxRecDepth 100000 in
set_option maxHeartbeats 4000000 in
theorem lifts_any (L : SL) (s : Sea) (hS : SOK s) (b : Nat) (c : List Int) (A : Option Addr) (cp : Nat) (hc : ∀ x ∈ c, 0 ≤ x ∧ x < s.bs.length) (hcl : c.length ≤ s.ps.length) (w : World) (hW : WBox w b L s (shares s)) (hb : b < w.heap.size) (hH : SeaAt w w.heap.size L s) (hI : IntsAt w w.heap.size A c) :
    Calls Try.prog 84 #[.pointer (some ⟨b, 0, none⟩), .slice A c.length cp] w fun e w' => e = .returned (.int .i64 (liftS s c)) ∧ Below w.heap.size w w' := by
  have hpl := hS.pl
  have HW := Lib.hid hW
  have HH := Lib.hid hH
  have HI := Lib.hid hI
  have HS := Lib.hid hS
  have HB := Lib.hid hb
  have HQ := Lib.hid (show liftS s c = minN ((heldL s c).take c.length) by unfold liftS; rw [List.take_of_length_le (by rw [heldL_length]; exact Nat.le_refl _)])
  clear hW hH hI hS hb
  go_enter Try.func84, Try.ntmps84
  go_wp2_with (fail)
  go_loopw [5, 10] (fun s5 i wr => ∃ (k : Nat) (x : Int), k ≤ c.length ∧ i = .int .i64 k ∧ s5 = .int .i64 x ∧ Hid (x = minN ((heldL s c).take k)) ∧ Hid (Below w.heap.size w wr)) (fun _ i _ => c.length - (intOf i).toNat)
  case atStart => exact ⟨0, 2000, Nat.zero_le _, rfl, rfl, Lib.hid rfl, Lib.hid (Below.refl _ _)⟩
  case round =>
    obtain ⟨k, x, hk, rfl, rfl, hX, hb2⟩ := hrel
    by_cases hlt : k < c.length
    · obtain ⟨j, hj⟩ : ∃ j, c[k]? = some j := ⟨_, List.getElem?_eq_getElem hlt⟩
      obtain ⟨j0, j1⟩ := hc j (List.mem_of_getElem? hj)
      obtain ⟨jn, rfl⟩ : ∃ jn : Nat, j = jn := ⟨j.toNat, by omega⟩
      obtain ⟨bi, oi, eA, blt, d1⟩ := HI.out.at_ hj
      have d1' := hb2.out.cell (p := ⟨bi, oi + k, none⟩) blt |>.trans d1
      have HN := Lib.hid (minN_next (heldL_at (s := s) hj))
      have hkp : k < s.ps.length := by omega
      have hjb : jn < s.bs.length := by omega
      rw [Int.toNat_natCast] at HN
      generalize hv : holdsN (carryN s jn) (shares s k).2 = v at HN
      have HV := Lib.hid hv
      clear hv hj d1
      subst eA
      have WB := Lib.hid (HW.out.of (hb2.out.block _ HB.out))
      have WH := Lib.hid (HH.out.below hb2.out)
      by_cases hvx : v < x
      · have HN' := Lib.hid (show v = minN ((heldL s c).take (k + 1)) by rw [HN.out, ← hX.out, if_pos hvx])
        as_aux_lemma =>
        go_wp2_with (go_at_call 85; (with_reducible refine (lift_any L s HS.out b k jn hkp hjb _ WB.out WH.out).mono ?_); rintro e w' ⟨rfl, hb3⟩; rw [HV.out]; have HB3 := Lib.hid hb3; clear hb3)
        go_roundw
        case rel => exact ⟨k + 1, v, by omega, by go_num, rfl, HN', Lib.hid (hb0to hb2.out HB3.out)⟩
        case measure => simp [intOf]; omega
      · have HN' := Lib.hid (show x = minN ((heldL s c).take (k + 1)) by rw [HN.out, ← hX.out, if_neg hvx])
        as_aux_lemma =>
        go_wp2_with (go_at_call 85; (with_reducible refine (lift_any L s HS.out b k jn hkp hjb _ WB.out WH.out).mono ?_); rintro e w' ⟨rfl, hb3⟩; rw [HV.out]; have HB3 := Lib.hid hb3; clear hb3)
        go_roundw
        case rel => exact ⟨k + 1, x, by omega, by go_num, rfl, HN', Lib.hid (hb0to hb2.out HB3.out)⟩
        case measure => simp [intOf]; omega
    · obtain rfl : k = c.length := by omega
      go_wp2_with (fail)
      go_ret
      exact ⟨by rw [HQ.out, ← hX.out]; rfl, hb2.out⟩
end Go.Proofs.Ytgjpllmmpclgaaa
namespace Go.Proofs.Ytgjpllmmpclgaaa
open Go.RowKit

/-! Share 46. -/
/-- What Share returns. -/
def shareRet (s : Sea) (k : Int) : (Int × Int) × Int := if askS s (inR k 0 (s.ps.length - 1)) ≠ 0 then ((0, 0), askS s (inR k 0 (s.ps.length - 1))) else (shares s k.toNat, 0)
set_option maxRecDepth 100000 in
set_option maxHeartbeats 4000000 in
theorem Share_any (L : SL) (s : Sea) (hn : s.ps.length ≤ 1000) (k : Int) (w : World) (hH : SeaAt w w.heap.size L s) : Calls Try.prog 46 #[L.enc s, .int .i64 k] w fun e w' => e = .returned (.tuple #[.agg #[.int .i64 (shareRet s k).1.1, .int .i64 (shareRet s k).1.2], .int .i64 (shareRet s k).2]) ∧ Below w.heap.size w w' := by
  have hbw := hb0to (al_below w (.cells #[.int .i64 s.wl, .int .i64 s.wh, .slice L.Ap s.ps.length L.cp, .slice L.Ab s.bs.length L.cb] 27)) (al_below _ (.cells #[.int .i64 0, .int .i64 0] 23))
  have HB0 := (SBox.new w L s).of ((al_below _ (.cells #[.int .i64 0, .int .i64 0] 23)).block _ (SBox.new w L s).lt)
  have hr0 := World.alloc_heap_new (w.alloc (.cells #[.int .i64 s.wl, .int .i64 s.wh, .slice L.Ap s.ps.length L.cp, .slice L.Ab s.bs.length L.cb] 27)) (.cells #[.int .i64 0, .int .i64 0] 23)
  obtain ⟨W0, hW0⟩ : ∃ W0, (w.alloc (.cells #[.int .i64 s.wl, .int .i64 s.wh, .slice L.Ap s.ps.length L.cp, .slice L.Ab s.bs.length L.cb] 27)).alloc (.cells #[.int .i64 0, .int .i64 0] 23) = W0 := ⟨_, rfl⟩
  rw [hW0] at hbw HB0 hr0
  rw [show (w.alloc (.cells #[.int .i64 s.wl, .int .i64 s.wh, .slice L.Ap s.ps.length L.cp, .slice L.Ab s.bs.length L.cb] 27)).heap.size = w.heap.size + 1 from Array.size_push _] at hr0
  have hc0 := HB0.cells
  have HR := Lib.hid hr0
  have HRL := Lib.hid (heap_lt hr0)
  have HB := Lib.hid HB0
  have HBW := Lib.hid hbw
  have HW0 := Lib.hid hW0
  have HH := Lib.hid (hH.below hbw)
  have HP := Lib.hid (fun W => isPlace_any L s k W hn)
  obtain ⟨is, his⟩ : ∃ b, b = inR k 0 (s.ps.length - 1) := ⟨_, rfl⟩
  rw [← his] at HP
  clear hr0 HB0
  by_cases h0 : askS s is = 0
  · obtain ⟨hv, hi⟩ := askS_ok h0
    have HS := Lib.hid (SOK.ofValid hv)
    have hpl := HS.out.pl
    have hk := inR_true.1 (his.symm.trans hi)
    have HQ := Lib.hid (show shareRet s k = (shares s k.toNat, 0) by unfold shareRet; rw [← his, if_neg (by simp [h0])])
    obtain ⟨kn, rfl⟩ : ∃ kn : Nat, k = kn := ⟨k.toNat, by omega⟩
    have hkn : kn < 4 := by omega
    have hkn' : (kn : Int) < 4 := by omega
    have H72 := Lib.hid (fun W hW => open_yes L s is W hW h0)
    clear hbw hW0 hH his hv h0 hk hn hpl
    subst hi
    obtain ⟨c0, c1, c2, c3⟩ := hc0
    obtain ⟨Ap, cp, Ab, cb⟩ := L
    go_enter Try.func46, Try.ntmps46
    go_upto_region 1 with (fail)
    have e := HW0.out
    rw [e]
    clear e
    go_region_held3 (fun w' => w'.cell? ⟨w.heap.size, 0, none⟩ = some (.int .i64 s.wl) ∧ w'.cell? ⟨w.heap.size, 1, none⟩ = some (.int .i64 s.wh) ∧ w'.cell? ⟨w.heap.size, 2, none⟩ = some (.slice Ap s.ps.length cp) ∧ w'.cell? ⟨w.heap.size, 3, none⟩ = some (.slice Ab s.bs.length cb)) (first | go_keep)
      (first
        | (go_at_call 83; refine (HP.out _).mono ?_; rintro e w1 ⟨rfl, hb1⟩; have hk1 : Below W0.heap.size W0 w1 := (by first | exact hb1 | exact hb0to (drew_below W0) hb1); have B1 := Lib.hid hk1; obtain ⟨r0, r1, r2, r3⟩ := (HB.out.of (hk1.block _ HB.out.lt)).cells; clear hb1 hk1)
        | (go_at_call 72; refine (H72.out w1 (HH.out.below B1.out)).mono ?_; rintro e w2 ⟨⟨b, rfl, hbb, hWB⟩, hb2⟩; have B2 := Lib.hid (hb0to B1.out hb2); have WB := Lib.hid hWB; obtain ⟨r0, r1, r2, r3⟩ := (HB.out.of (B2.out.block _ HB.out.lt)).cells; clear hb2 hWB))
    all_goals
      obtain ⟨q0, q1⟩ := WB.out.part (k := kn) hkn
      have hr2 := (B2.out.block _ HRL.out).trans HR.out
      have qr0 : w2.cell? ⟨w.heap.size + 1, 0, none⟩ = some (.int .i64 0) := by simp [World.cell?, hr2]
      have qr1 : w2.cell? ⟨w.heap.size + 1, 1, none⟩ = some (.int .i64 0) := by simp [World.cell?, hr2]
      have qf : ∀ o, w2.frozen? ⟨w.heap.size + 1, o, none⟩ = false := fun o => by simp [World.frozen?, hr2]
      go_wp2_with (fail)
      have hw3 : ((w2.setCell ⟨w.heap.size + 1, 0, none⟩ (.int .i64 (shares s kn).1)).setCell ⟨w.heap.size + 1, 1, none⟩ (.int .i64 (shares s kn).2)).heap[w.heap.size + 1]? = some (.cells #[.int .i64 (shares s kn).1, .int .i64 (shares s kn).2] 23) := heap_set (.int .i64 (shares s kn).2) (heap_set (.int .i64 (shares s kn).1) hr2)
      have B3 := Lib.hid ((((HBW.out.trans (B2.out.mono HBW.out.size)).setCell (p := ⟨w.heap.size + 1, 0, none⟩) (Nat.le_succ _) (.int .i64 (shares s kn).1))).setCell (p := ⟨w.heap.size + 1, 1, none⟩) (Nat.le_succ _) (.int .i64 (shares s kn).2))
      generalize (w2.setCell ⟨w.heap.size + 1, 0, none⟩ (.int .i64 (shares s kn).1)).setCell ⟨w.heap.size + 1, 1, none⟩ (.int .i64 (shares s kn).2) = w3 at hw3 B3 ⊢
      have rr0 : w3.cell? ⟨w.heap.size + 1, 0, none⟩ = some (.int .i64 (shares s kn).1) := by simp [World.cell?, hw3]
      have rr1 : w3.cell? ⟨w.heap.size + 1, 1, none⟩ = some (.int .i64 (shares s kn).2) := by simp [World.cell?, hw3]
      refine bodyPost_ret (by simp [results, Try.results46, go_sem, rr0, rr1]; try rfl) rfl ?_
      exact ⟨by rw [HQ.out]; rfl, B3.out⟩
  · have HQ := Lib.hid (show shareRet s k = ((0, 0), askS s is) by unfold shareRet; rw [← his, if_pos h0])
    have H72 := Lib.hid (fun W hW => open_no L s is W hW h0)
    obtain ⟨er, her⟩ : ∃ x, x = askS s is := ⟨_, rfl⟩
    rw [← her] at H72 HQ h0
    have hd : (er != 0) = true := bne_iff_ne.2 h0
    clear hbw hW0 hH his h0 her hn
    obtain ⟨c0, c1, c2, c3⟩ := hc0
    obtain ⟨Ap, cp, Ab, cb⟩ := L
    go_enter Try.func46, Try.ntmps46
    go_upto_region 1 with (fail)
    have e := HW0.out
    rw [e]
    clear e
    go_region_held3 (fun w' => w'.cell? ⟨w.heap.size, 0, none⟩ = some (.int .i64 s.wl) ∧ w'.cell? ⟨w.heap.size, 1, none⟩ = some (.int .i64 s.wh) ∧ w'.cell? ⟨w.heap.size, 2, none⟩ = some (.slice Ap s.ps.length cp) ∧ w'.cell? ⟨w.heap.size, 3, none⟩ = some (.slice Ab s.bs.length cb)) (first | go_keep)
      (first
        | (go_at_call 83; refine (HP.out _).mono ?_; rintro e w1 ⟨rfl, hb1⟩; have hk1 : Below W0.heap.size W0 w1 := (by first | exact hb1 | exact hb0to (drew_below W0) hb1); have B1 := Lib.hid hk1; obtain ⟨r0, r1, r2, r3⟩ := (HB.out.of (hk1.block _ HB.out.lt)).cells; clear hb1 hk1)
        | (go_at_call 72; refine (H72.out w1 (HH.out.below B1.out)).mono ?_; rintro e w2 ⟨rfl, hb2⟩; have B2 := Lib.hid (hb0to B1.out hb2); obtain ⟨r0, r1, r2, r3⟩ := (HB.out.of (B2.out.block _ HB.out.lt)).cells; clear hb2))
    all_goals
      have hr2 := (B2.out.block _ HRL.out).trans HR.out
      have qr0 : w2.cell? ⟨w.heap.size + 1, 0, none⟩ = some (.int .i64 0) := by simp [World.cell?, hr2]
      have qr1 : w2.cell? ⟨w.heap.size + 1, 1, none⟩ = some (.int .i64 0) := by simp [World.cell?, hr2]
      have qf : ∀ o, w2.frozen? ⟨w.heap.size + 1, o, none⟩ = false := fun o => by simp [World.frozen?, hr2]
      go_wp2_with (fail)
      have hw3 : ((w2.setCell ⟨w.heap.size + 1, 0, none⟩ (.int .i64 0)).setCell ⟨w.heap.size + 1, 1, none⟩ (.int .i64 0)).heap[w.heap.size + 1]? = some (.cells #[.int .i64 0, .int .i64 0] 23) := heap_set (.int .i64 0) (heap_set (.int .i64 0) hr2)
      have B3 := Lib.hid ((((HBW.out.trans (B2.out.mono HBW.out.size)).setCell (p := ⟨w.heap.size + 1, 0, none⟩) (Nat.le_succ _) (.int .i64 0))).setCell (p := ⟨w.heap.size + 1, 1, none⟩) (Nat.le_succ _) (.int .i64 0))
      generalize (w2.setCell ⟨w.heap.size + 1, 0, none⟩ (.int .i64 0)).setCell ⟨w.heap.size + 1, 1, none⟩ (.int .i64 0) = w3 at hw3 B3 ⊢
      have rr0 : w3.cell? ⟨w.heap.size + 1, 0, none⟩ = some (.int .i64 0) := by simp [World.cell?, hw3]
      have rr1 : w3.cell? ⟨w.heap.size + 1, 1, none⟩ = some (.int .i64 0) := by simp [World.cell?, hw3]
      refine bodyPost_ret (by simp [results, Try.results46, go_sem, rr0, rr1]; try rfl) rfl ?_
      exact ⟨by rw [HQ.out], B3.out⟩
end Go.Proofs.Ytgjpllmmpclgaaa
namespace Go.Proofs.Ytgjpllmmpclgaaa
open Go.RowKit

/-! Load 47. -/
/-- What Load returns. -/
def loadRet (s : Sea) (k : Int) : (Int × Int) × Int := if (shareRet s k).2 ≠ 0 then ((0, 0), (shareRet s k).2) else ((s.wl * (shareRet s k).1.1, s.wh * (shareRet s k).1.2), 0)
theorem shareRet_bad {s : Sea} {k : Int} (h : (shareRet s k).2 ≠ 0) : (shareRet s k).1 = (0, 0) := by
  unfold shareRet at h ⊢
  split at h
  · rename_i h1; rw [if_pos h1]
  · simp at h
theorem shareRet_good {s : Sea} {k : Int} (h : (shareRet s k).2 = 0) : SOK s ∧ 0 ≤ (shareRet s k).1.1 ∧ (shareRet s k).1.1 ≤ 12 ∧ 0 ≤ (shareRet s k).1.2 ∧ (shareRet s k).1.2 ≤ 12 := by
  unfold shareRet at h ⊢
  split at h
  · rename_i h1; exact absurd h h1
  · rename_i h1
    rw [if_neg h1]
    simp only [ne_eq, Decidable.not_not] at h1
    obtain ⟨hv, hi⟩ := askS_ok h1
    have hS := SOK.ofValid hv
    have hk := inR_true.1 hi
    have := shares_bd (k := k.toNat) hS (by omega)
    exact ⟨hS, this.2.2.1, this.2.2.2, this.1, this.2.1⟩
set_option maxRecDepth 100000 in
set_option maxHeartbeats 4000000 in
theorem Load_any (L : SL) (s : Sea) (hn : s.ps.length ≤ 1000) (k : Int) (w : World) (hH : SeaAt w w.heap.size L s) : Calls Try.prog 47 #[L.enc s, .int .i64 k] w fun e w' => e = .returned (.tuple #[.agg #[.int .i64 (loadRet s k).1.1, .int .i64 (loadRet s k).1.2], .int .i64 (loadRet s k).2]) ∧ Below w.heap.size w w' := by
  have hbw := hb0to (al_below w (.cells #[.int .i64 s.wl, .int .i64 s.wh, .slice L.Ap s.ps.length L.cp, .slice L.Ab s.bs.length L.cb] 27)) (al_below _ (.cells #[.int .i64 0, .int .i64 0] 23))
  have HB0 := (SBox.new w L s).of ((al_below _ (.cells #[.int .i64 0, .int .i64 0] 23)).block _ (SBox.new w L s).lt)
  have hr0 := World.alloc_heap_new (w.alloc (.cells #[.int .i64 s.wl, .int .i64 s.wh, .slice L.Ap s.ps.length L.cp, .slice L.Ab s.bs.length L.cb] 27)) (.cells #[.int .i64 0, .int .i64 0] 23)
  obtain ⟨W0, hW0⟩ : ∃ W0, (w.alloc (.cells #[.int .i64 s.wl, .int .i64 s.wh, .slice L.Ap s.ps.length L.cp, .slice L.Ab s.bs.length L.cb] 27)).alloc (.cells #[.int .i64 0, .int .i64 0] 23) = W0 := ⟨_, rfl⟩
  rw [hW0] at hbw HB0 hr0
  rw [show (w.alloc (.cells #[.int .i64 s.wl, .int .i64 s.wh, .slice L.Ap s.ps.length L.cp, .slice L.Ab s.bs.length L.cb] 27)).heap.size = w.heap.size + 1 from Array.size_push _] at hr0
  obtain ⟨c0, c1, c2, c3⟩ := HB0.cells
  have HR := Lib.hid hr0
  have HRL := Lib.hid (heap_lt hr0)
  have HB := Lib.hid HB0
  have HBW := Lib.hid hbw
  have HW0 := Lib.hid hW0
  have HH := Lib.hid (hH.below hbw)
  have HP := Lib.hid (fun W hW => Share_any L s hn k W hW)
  have hdef : loadRet s k = if (shareRet s k).2 ≠ 0 then ((0, 0), (shareRet s k).2) else ((s.wl * (shareRet s k).1.1, s.wh * (shareRet s k).1.2), 0) := rfl
  have hbad := shareRet_bad (s := s) (k := k)
  have hgood := shareRet_good (s := s) (k := k)
  obtain ⟨⟨⟨x, y⟩, er⟩, hsr⟩ : ∃ r, r = shareRet s k := ⟨_, rfl⟩
  rw [← hsr] at hdef hbad hgood HP
  simp only at hdef hbad hgood HP
  clear hr0 HB0 hW0 hbw hsr hH hn
  obtain ⟨Ap, cp, Ab, cb⟩ := L
  by_cases h0 : er = 0
  · subst h0
    obtain ⟨hS, x0, x1, y0, y1⟩ := hgood rfl
    have HQ := Lib.hid (hdef.trans (if_neg (by simp)))
    clear hdef hbad hgood
    have a1 : 0 ≤ s.wl * x := Int.mul_nonneg hS.w0 x0
    have b1 : 0 ≤ s.wh * y := Int.mul_nonneg (by have := hS.w0; have := hS.w1; omega) y0
    have a2 : s.wl * x ≤ 2000 * 12 := Int.mul_le_mul (by have := hS.w1; have := hS.w2; omega) x1 x0 (by omega)
    have b2 : s.wh * y ≤ 2000 * 12 := Int.mul_le_mul hS.w2 y1 y0 (by omega)
    have hw1 : IntKind.i64.wrap (s.wl * x) = s.wl * x := IntWalk.i64_in _ (by omega)
    have hw2 : IntKind.i64.wrap (s.wh * y) = s.wh * y := IntWalk.i64_in _ (by omega)
    clear hS
    go_enter Try.func47, Try.ntmps47
    go_upto_region 1 with (fail)
    have e := HW0.out
    rw [e]
    clear e
    go_upto_region 2 with (go_at_call 46; refine (HP.out W0 HH.out).mono ?_; rintro e w1 ⟨rfl, hb1⟩; have B1 := Lib.hid hb1; obtain ⟨r0, r1, r2, r3⟩ := (HB.out.of (hb1.block _ HB.out.lt)).cells; have hr2 := (hb1.block _ HRL.out).trans HR.out; have HL2 := Lib.hid (heap_lt hr2); clear hb1)
    have B2 := Lib.hid (hb0to B1.out (al_below w1 (.cells #[.int .i64 x, .int .i64 y] 23)))
    have hr3 := (B2.out.block _ HRL.out).trans HR.out
    have hn3 := World.alloc_heap_new w1 (.cells #[.int .i64 x, .int .i64 y] 23)
    obtain ⟨t0, t1, t2, t3⟩ := (HB.out.of (B2.out.block _ HB.out.lt)).cells
    generalize w1.alloc (.cells #[.int .i64 x, .int .i64 y] 23) = w2 at B2 hr3 hn3 t0 t1 t2 t3 ⊢
    have n0 : w2.cell? ⟨w1.heap.size, 0, none⟩ = some (.int .i64 x) := by simp [World.cell?, hn3]
    have n1 : w2.cell? ⟨w1.heap.size, 1, none⟩ = some (.int .i64 y) := by simp [World.cell?, hn3]
    have qr0 : w2.cell? ⟨w.heap.size + 1, 0, none⟩ = some (.int .i64 0) := by simp [World.cell?, hr3]
    have qr1 : w2.cell? ⟨w.heap.size + 1, 1, none⟩ = some (.int .i64 0) := by simp [World.cell?, hr3]
    have qf : ∀ o, w2.frozen? ⟨w.heap.size + 1, o, none⟩ = false := fun o => by simp [World.frozen?, hr3]
    go_wp2_with (fail)
    have hw3 : ((w2.setCell ⟨w.heap.size + 1, 0, none⟩ (.int .i64 (s.wl * x))).setCell ⟨w.heap.size + 1, 1, none⟩ (.int .i64 (s.wh * y))).heap[w.heap.size + 1]? = some (.cells #[.int .i64 (s.wl * x), .int .i64 (s.wh * y)] 23) := heap_set (.int .i64 (s.wh * y)) (heap_set (.int .i64 (s.wl * x)) hr3)
    have B3 := Lib.hid ((((HBW.out.trans (B2.out.mono HBW.out.size)).setCell (p := ⟨w.heap.size + 1, 0, none⟩) (Nat.le_succ _) (.int .i64 (s.wl * x)))).setCell (p := ⟨w.heap.size + 1, 1, none⟩) (Nat.le_succ _) (.int .i64 (s.wh * y)))
    generalize (w2.setCell ⟨w.heap.size + 1, 0, none⟩ (.int .i64 (s.wl * x))).setCell ⟨w.heap.size + 1, 1, none⟩ (.int .i64 (s.wh * y)) = w3 at hw3 B3 ⊢
    have rr0 : w3.cell? ⟨w.heap.size + 1, 0, none⟩ = some (.int .i64 (s.wl * x)) := by simp [World.cell?, hw3]
    have rr1 : w3.cell? ⟨w.heap.size + 1, 1, none⟩ = some (.int .i64 (s.wh * y)) := by simp [World.cell?, hw3]
    refine bodyPost_ret (by simp [results, Try.results47, go_sem, rr0, rr1]; try rfl) rfl ?_
    exact ⟨by rw [HQ.out], B3.out⟩
  · have hd : (er != 0) = true := bne_iff_ne.2 h0
    have HQ := Lib.hid (hdef.trans (if_pos h0))
    have hxy := hbad h0
    obtain ⟨rfl, rfl⟩ : x = 0 ∧ y = 0 := by simpa using hxy
    clear hdef hbad hgood hxy h0
    go_enter Try.func47, Try.ntmps47
    go_upto_region 1 with (fail)
    have e := HW0.out
    rw [e]
    clear e
    go_upto_region 2 with (go_at_call 46; refine (HP.out W0 HH.out).mono ?_; rintro e w1 ⟨rfl, hb1⟩; have B1 := Lib.hid hb1; obtain ⟨r0, r1, r2, r3⟩ := (HB.out.of (hb1.block _ HB.out.lt)).cells; have hr2 := (hb1.block _ HRL.out).trans HR.out; have HL2 := Lib.hid (heap_lt hr2); clear hb1)
    have B2 := Lib.hid (hb0to B1.out (al_below w1 (.cells #[.int .i64 0, .int .i64 0] 23)))
    have hr3 := (B2.out.block _ HRL.out).trans HR.out
    have hn3 := World.alloc_heap_new w1 (.cells #[.int .i64 0, .int .i64 0] 23)
    obtain ⟨t0, t1, t2, t3⟩ := (HB.out.of (B2.out.block _ HB.out.lt)).cells
    generalize w1.alloc (.cells #[.int .i64 0, .int .i64 0] 23) = w2 at B2 hr3 hn3 t0 t1 t2 t3 ⊢
    have n0 : w2.cell? ⟨w1.heap.size, 0, none⟩ = some (.int .i64 0) := by simp [World.cell?, hn3]
    have n1 : w2.cell? ⟨w1.heap.size, 1, none⟩ = some (.int .i64 0) := by simp [World.cell?, hn3]
    have qr0 : w2.cell? ⟨w.heap.size + 1, 0, none⟩ = some (.int .i64 0) := by simp [World.cell?, hr3]
    have qr1 : w2.cell? ⟨w.heap.size + 1, 1, none⟩ = some (.int .i64 0) := by simp [World.cell?, hr3]
    have qf : ∀ o, w2.frozen? ⟨w.heap.size + 1, o, none⟩ = false := fun o => by simp [World.frozen?, hr3]
    go_wp2_with (fail)
    have hw3 : ((w2.setCell ⟨w.heap.size + 1, 0, none⟩ (.int .i64 0)).setCell ⟨w.heap.size + 1, 1, none⟩ (.int .i64 0)).heap[w.heap.size + 1]? = some (.cells #[.int .i64 0, .int .i64 0] 23) := heap_set (.int .i64 0) (heap_set (.int .i64 0) hr3)
    have B3 := Lib.hid ((((HBW.out.trans (B2.out.mono HBW.out.size)).setCell (p := ⟨w.heap.size + 1, 0, none⟩) (Nat.le_succ _) (.int .i64 0))).setCell (p := ⟨w.heap.size + 1, 1, none⟩) (Nat.le_succ _) (.int .i64 0))
    generalize (w2.setCell ⟨w.heap.size + 1, 0, none⟩ (.int .i64 0)).setCell ⟨w.heap.size + 1, 1, none⟩ (.int .i64 0) = w3 at hw3 B3 ⊢
    have rr0 : w3.cell? ⟨w.heap.size + 1, 0, none⟩ = some (.int .i64 0) := by simp [World.cell?, hw3]
    have rr1 : w3.cell? ⟨w.heap.size + 1, 1, none⟩ = some (.int .i64 0) := by simp [World.cell?, hw3]
    refine bodyPost_ret (by simp [results, Try.results47, go_sem, rr0, rr1]; try rfl) rfl ?_
    exact ⟨by rw [HQ.out], B3.out⟩
end Go.Proofs.Ytgjpllmmpclgaaa
namespace Go.Proofs.Ytgjpllmmpclgaaa
open Go.RowKit

/-! Holds 45. -/
/-- Is each number within its pair's bounds? -/
def insideL (ps : List (Int × Int)) (v : List Int) : Bool := (v.zip ps).all fun p => inR p.1 p.2.1 p.2.2
/-- What Holds says of an open sea. -/
def holdsB (s : Sea) (n : Int) (v : List Int) : Bool := inR n s.wl s.wh && decide (v.length = s.ps.length) && insideL s.ps v && decide (v.sum = 12)
/-- What Holds returns. -/
def holdsRet (s : Sea) (n : Int) (v : List Int) : Bool × Int := if askS s true ≠ 0 then (false, askS s true) else (holdsB s n v, 0)
set_option maxRecDepth 100000 in
set_option maxHeartbeats 4000000 in
theorem Holds_any (L : SL) (s : Sea) (n : Int) (v : List Int) (A : Option Addr) (cv : Nat) (w : World) (hH : SeaAt w w.heap.size L s) (hI : IntsAt w w.heap.size A v) : Calls Try.prog 45 #[L.enc s, .int .i64 n, .slice A v.length cv] w fun e w' => e = .returned (.tuple #[.bool (holdsRet s n v).1, .int .i64 (holdsRet s n v).2]) ∧ Below w.heap.size w w' := by
  have hbw := (Below.refl w.heap.size w).alloc (Nat.le_refl _) (.cells #[.int .i64 s.wl, .int .i64 s.wh, .slice L.Ap s.ps.length L.cp, .slice L.Ab s.bs.length L.cb] 27)
  have HB := Lib.hid (SBox.new w L s)
  obtain ⟨c0, c1, c2, c3⟩ := (SBox.new w L s).cells
  obtain ⟨W0, hW0⟩ : ∃ W0, w.alloc (.cells #[.int .i64 s.wl, .int .i64 s.wh, .slice L.Ap s.ps.length L.cp, .slice L.Ab s.bs.length L.cb] 27) = W0 := ⟨_, rfl⟩
  rw [hW0] at hbw HB c0 c1 c2 c3
  have HBW := Lib.hid hbw
  have HW0 := Lib.hid hW0
  have HH := Lib.hid (hH.below hbw)
  have HI := Lib.hid (ints_later hI hbw)
  by_cases h0 : askS s true = 0
  · have hq : holdsRet s n v = (holdsB s n v, 0) := by unfold holdsRet; rw [if_neg (by simp [h0])]
    have HS := Lib.hid (SOK.ofValid (askS_ok h0).1)
    have H72 := Lib.hid (fun W hW => open_yes L s true W hW h0)
    rw [hq]
    clear hbw hW0 hH hI h0 hq
    by_cases hin : inR n s.wl s.wh = true
    · by_cases hlen : v.length = s.ps.length
      · have HN := Lib.hid hin
        have HL := Lib.hid (show holdsB s n v = (insideL s.ps v && decide (v.sum = 12)) by unfold holdsB; simp [hin, hlen])
        have hd : ((v.length : Int) != (s.ps.length : Int)) = false := by simp [hlen]
        have hpl := HS.out.pl
        clear hin
        obtain ⟨Ap, cp, Ab, cb⟩ := L
        go_enter Try.func45, Try.ntmps45
        go_upto_region 1 with (fail)
        have e := HW0.out
        rw [e]
        clear e
        go_upto_region 2 with (go_at_call 72; refine (H72.out W0 HH.out).mono ?_; rintro e w1 ⟨⟨b, rfl, hbb, hWB⟩, hb1⟩; have B1 := Lib.hid hb1; obtain ⟨r0, r1, r2, r3⟩ := (HB.out.of (hb1.block _ HB.out.lt)).cells; clear hb1 hWB)
        go_wp2_with (go_at_call 82; (with_reducible refine (within_any n s.wl s.wh _).mono ?_); rintro e w' ⟨rfl, rfl⟩; rw [HN.out])
        go_loopw [10, 40] (fun s10 i wr => ∃ (k : Nat) (x : Int), k ≤ v.length ∧ i = .int .i64 k ∧ s10 = .int .i64 x ∧ 0 ≤ x ∧ x ≤ 12 * k ∧ Hid (x = (v.take k).sum) ∧ Hid (((v.zip s.ps).take k).all (fun p => inR p.1 p.2.1 p.2.2) = true) ∧ Hid (Below W0.heap.size W0 wr)) (fun _ i _ => v.length - (intOf i).toNat)
        case atStart => exact ⟨0, 0, Nat.zero_le _, rfl, rfl, by omega, by omega, Lib.hid (by simp), Lib.hid (by simp), B1⟩
        case round =>
          obtain ⟨k, x, hk, rfl, rfl, x0, x1, hX, hall, hb2⟩ := hrel
          obtain ⟨g0, g1, g2, g3⟩ := (HB.out.of (hb2.out.block _ HB.out.lt)).cells
          by_cases hlt : k < v.length
          · obtain ⟨j, hj⟩ : ∃ j, v[k]? = some j := ⟨_, List.getElem?_eq_getElem hlt⟩
            have hkp : k < s.ps.length := by omega
            obtain ⟨p, hp⟩ : ∃ p, s.ps[k]? = some p := ⟨_, List.getElem?_eq_getElem hkp⟩
            have hpb := HS.out.p p (List.mem_of_getElem? hp)
            obtain ⟨bi, oi, eA, blt, d1⟩ := HI.out.at_ hj
            obtain ⟨bp, op, eP, blt2, d2, d3⟩ := HH.out.p.at_ hp
            have d1' := hb2.out.cell (p := ⟨bi, oi + k, none⟩) blt |>.trans d1
            have d2' := hb2.out.cell (p := ⟨bp, op + k * 2, none⟩) blt2 |>.trans d2
            have d3' := hb2.out.cell (p := ⟨bp, op + k * 2 + 1, none⟩) blt2 |>.trans d3
            have HZ := Lib.hid (show (v.zip s.ps)[k]? = some (j, p) from List.getElem?_zip_eq_some.2 ⟨hj, hp⟩)
            have HT := Lib.hid (show (v.take (k + 1)).sum = (v.take k).sum + j by rw [List.take_add_one, hj]; simp)
            simp only at eP eA
            clear hj hp d1 d2 d3
            obtain ⟨a, c⟩ := p
            simp only at d2' d3' hpb
            subst eP
            subst eA
            have hlt' : k < s.ps.length := hkp
            cases hq : inR j a c
            · have HQ := Lib.hid (fun W => show Calls Try.prog 82 #[.int .i64 j, .int .i64 a, .int .i64 c] W fun e w' => e = .returned (.bool false) ∧ W = w' by have := within_any j a c W; rw [hq] at this; exact this)
              have HF := Lib.hid (show insideL s.ps v = false by
                unfold insideL
                rw [List.all_eq_false]
                exact ⟨_, List.mem_of_getElem? HZ.out, by simp [hq]⟩)
              clear hq
              as_aux_lemma =>
              go_upto_region 10 with (fail)
              have ex2 := extB_cell g2
              have ex3 := extB_cell d2'
              have ex4 := extB_cell d3'
              simp only at ex2 ex3 ex4
              refine wp_region_ext (by kernel_rfl) (by kernel_rfl) ?_
              repeat (go_big_quiet_step ((go_at_call 82; exact ext_same (HQ.out _))))
              refine wpQuiet_nil ?_
              rintro _ ⟨y1, rfl⟩
              have hb3 := hb0to hb2.out (extB_below wr y1)
              go_wp2_with (fail)
              go_ret2
              exact ⟨by rw [HL.out, HF.out]; try rfl, hb0to HBW.out hb3⟩
            · have HQ := Lib.hid (fun W => show Calls Try.prog 82 #[.int .i64 j, .int .i64 a, .int .i64 c] W fun e w' => e = .returned (.bool true) ∧ W = w' by have := within_any j a c W; rw [hq] at this; exact this)
              have hj2 := inR_true.1 hq
              have hw1 : IntKind.i64.wrap (x + j) = x + j := IntWalk.i64_in _ (by omega)
              have HT2 := Lib.hid (show x + j = (v.take (k + 1)).sum by rw [HT.out, hX.out])
              have HA2 := Lib.hid (show ((v.zip s.ps).take (k + 1)).all (fun p => inR p.1 p.2.1 p.2.2) = true by
                rw [List.take_add_one, HZ.out, List.all_append, hall.out]; simp [hq])
              clear hq
              as_aux_lemma =>
              go_upto_region 10 with (fail)
              have ex2 := extB_cell g2
              have ex3 := extB_cell d2'
              have ex4 := extB_cell d3'
              simp only at ex2 ex3 ex4
              refine wp_region_ext (by kernel_rfl) (by kernel_rfl) ?_
              repeat (go_big_quiet_step ((go_at_call 82; exact ext_same (HQ.out _))))
              refine wpQuiet_nil ?_
              rintro _ ⟨y1, rfl⟩
              have hb3 := hb0to hb2.out (extB_below wr y1)
              go_wp2_with (fail)
              go_roundw
              case rel => exact ⟨k + 1, x + j, by omega, by go_num, rfl, by omega, by omega, HT2, HA2, Lib.hid hb3⟩
              case measure => simp [intOf]; omega
          · obtain rfl : k = v.length := by omega
            have HF := Lib.hid (show insideL s.ps v = true by
              have := hall.out
              rw [List.take_of_length_le (by rw [List.length_zip]; omega)] at this
              exact this)
            have HX := Lib.hid (show (decide (v.sum = 12)) = (x == 12) by
              have := hX.out
              rw [List.take_length] at this
              rw [this]; rfl)
            go_wp2_with (fail)
            go_ret2
            exact ⟨by rw [HL.out, HF.out, HX.out]; try rfl, hb0to HBW.out hb2.out⟩
      · have HQ := Lib.hid (show holdsB s n v = false by unfold holdsB; simp [hlen])
        have HN := Lib.hid hin
        have hd : ((v.length : Int) != (s.ps.length : Int)) = true := bne_iff_ne.2 (by omega)
        clear hin hlen
        obtain ⟨Ap, cp, Ab, cb⟩ := L
        go_enter Try.func45, Try.ntmps45
        go_upto_region 1 with (fail)
        have e := HW0.out
        rw [e]
        clear e
        go_upto_region 2 with (go_at_call 72; refine (H72.out W0 HH.out).mono ?_; rintro e w1 ⟨⟨b, rfl, hbb, hWB⟩, hb1⟩; have B1 := Lib.hid hb1; obtain ⟨r0, r1, r2, r3⟩ := (HB.out.of (hb1.block _ HB.out.lt)).cells; clear hb1 hWB)
        go_wp2_with (go_at_call 82; (with_reducible refine (within_any n s.wl s.wh _).mono ?_); rintro e w' ⟨rfl, rfl⟩; rw [HN.out])
        go_ret2
        exact ⟨by rw [HQ.out]; try rfl, hb0to HBW.out B1.out⟩
    · have hin' : inR n s.wl s.wh = false := by simpa using hin
      have HQ := Lib.hid (show holdsB s n v = false by unfold holdsB; simp [hin'])
      have HN := Lib.hid hin'
      clear hin hin'
      obtain ⟨Ap, cp, Ab, cb⟩ := L
      go_enter Try.func45, Try.ntmps45
      go_upto_region 1 with (fail)
      have e := HW0.out
      rw [e]
      clear e
      go_upto_region 2 with (go_at_call 72; refine (H72.out W0 HH.out).mono ?_; rintro e w1 ⟨⟨b, rfl, hbb, hWB⟩, hb1⟩; have B1 := Lib.hid hb1; obtain ⟨r0, r1, r2, r3⟩ := (HB.out.of (hb1.block _ HB.out.lt)).cells; clear hb1 hWB)
      go_wp2_with (go_at_call 82; (with_reducible refine (within_any n s.wl s.wh _).mono ?_); rintro e w' ⟨rfl, rfl⟩; rw [HN.out])
      go_ret2
      exact ⟨by rw [HQ.out]; try rfl, hb0to HBW.out B1.out⟩
  · have hq : holdsRet s n v = (false, askS s true) := by unfold holdsRet; rw [if_pos h0]
    have H72 := Lib.hid (fun W hW => open_no L s true W hW h0)
    rw [hq]
    obtain ⟨er, her⟩ : ∃ x, x = askS s true := ⟨_, rfl⟩
    rw [← her] at H72 h0 ⊢
    have hd : (er != 0) = true := bne_iff_ne.2 h0
    clear hbw hW0 hH hI h0 hq her
    obtain ⟨Ap, cp, Ab, cb⟩ := L
    go_enter Try.func45, Try.ntmps45
    go_upto_region 1 with (fail)
    have e := HW0.out
    rw [e]
    clear e
    go_upto_region 2 with (go_at_call 72; refine (H72.out W0 HH.out).mono ?_; rintro e w1 ⟨rfl, hb1⟩; have B1 := Lib.hid hb1; clear hb1)
    go_wp2_with (fail)
    go_ret2
    exact ⟨by try rfl, hb0to HBW.out B1.out⟩
end Go.Proofs.Ytgjpllmmpclgaaa
namespace Go.Proofs.Ytgjpllmmpclgaaa
open Go.RowKit

/-! holds 76. -/
/-- Does each boat of a crew carry what its place may need? -/
def safeC (s : Sea) (c : List Int) : Bool := c.zipIdx.all fun p => decide (needN s p.2 ≤ carryN s p.1.toNat)
set_option maxRecDepth 100000 in
set_option maxHeartbeats 4000000 in
theorem holds_any (L : SL) (s : Sea) (hS : SOK s) (b : Nat) (c : List Int) (A : Option Addr) (cp : Nat) (hc : ∀ x ∈ c, 0 ≤ x ∧ x < s.bs.length) (hcl : c.length ≤ s.ps.length) (w : World) (hW : WBox w b L s (shares s)) (hH : SeaAt w w.heap.size L s) (hI : IntsAt w w.heap.size A c) :
    Calls Try.prog 76 #[.pointer (some ⟨b, 0, none⟩), .slice A c.length cp] w fun e w' => e = .returned (.bool (safeC s c)) ∧ Below w.heap.size w w' := by
  have hpl := hS.pl
  have HW := Lib.hid hW
  have HH := Lib.hid hH
  have HI := Lib.hid hI
  have HS := Lib.hid hS
  clear hW hH hI hS
  go_enter Try.func76, Try.ntmps76
  go_wp2_with (fail)
  go_loopw [9] (fun i wr => ∃ k : Nat, k ≤ c.length ∧ i = .int .i64 k ∧ Hid ((c.zipIdx.take k).all (fun p => decide (needN s p.2 ≤ carryN s p.1.toNat)) = true) ∧ Hid (Below w.heap.size w wr)) (fun i _ => c.length - (intOf i).toNat)
  case atStart => exact ⟨0, Nat.zero_le _, rfl, Lib.hid (by simp), Lib.hid (Below.refl _ _)⟩
  case round =>
    obtain ⟨k, hk, rfl, hall, hb2⟩ := hrel
    by_cases hlt : k < c.length
    · obtain ⟨j, hj⟩ : ∃ j, c[k]? = some j := ⟨_, List.getElem?_eq_getElem hlt⟩
      obtain ⟨j0, j1⟩ := hc j (List.mem_of_getElem? hj)
      obtain ⟨jn, rfl⟩ : ∃ jn : Nat, j = jn := ⟨j.toNat, by omega⟩
      have hkp : k < s.ps.length := by omega
      have hjb : jn < s.bs.length := by omega
      obtain ⟨x, hx, _, _, _, _⟩ := boat_at HS.out hjb
      have HZ := Lib.hid (show c.zipIdx[k]? = some ((jn : Int), k) by simp [hj])
      obtain ⟨bi, oi, eA, blt, d1⟩ := HI.out.at_ hj
      obtain ⟨bb, ob, eB, blt2, d2, _⟩ := HH.out.b.at_ hx
      have hcx := (boat_eq hx).1
      have d1' := hb2.out.cell (p := ⟨bi, oi + k, none⟩) blt |>.trans d1
      have d2' := hb2.out.cell (p := ⟨bb, ob + jn * 2, none⟩) blt2 |>.trans d2
      have WB := Lib.hid (HW.out.of (hb2.out.block _ HW.out.lt))
      obtain ⟨g0, g1, g2, g3⟩ := WB.out.cells
      rw [eB] at g3
      have ex2 := extB_cell g3
      have ex3 := extB_cell d2'
      have H73 := Lib.hid (fun z => need_any L s HS.out b k hkp (extB wr z) (WB.out.of ((extB_below wr z).block _ WB.out.lt)))
      generalize hnv : needN s k = nv at H73
      obtain ⟨cy, pn⟩ := x
      simp only at ex3 hcx
      subst eA
      have HZA := Lib.hid (show ((c.zipIdx.take (k + 1)).all (fun p => decide (needN s p.2 ≤ carryN s p.1.toNat))) = decide (nv ≤ cy) by
        rw [List.take_add_one, HZ.out, List.all_append, hall.out]; simp [hnv, hcx])
      have HM := Lib.hid (show decide (nv ≤ cy) = false → safeC s c = false by
        intro h
        unfold safeC
        rw [List.all_eq_false]
        refine ⟨_, List.mem_of_getElem? HZ.out, ?_⟩
        simp only [Int.toNat_natCast, hnv, hcx, h]; simp)
      clear hx d2 hj d1 hnv hcx eB
      have hk1 := Lib.hid (show k + 1 ≤ c.length by omega)
      by_cases hlt2 : cy < nv
      · have hdl : decide (cy < nv) = true := decide_eq_true hlt2
        have HF := Lib.hid (HM.out (decide_eq_false (by omega)))
        as_aux_lemma =>
        go_upto_region 4 with (fail)
        refine wp_region_ext (by kernel_rfl) (by kernel_rfl) ?_
        repeat (go_big_quiet_step ((go_at_call 73; exact ext_call (H73.out _))))
        refine wpQuiet_nil ?_
        rintro _ ⟨y1, rfl⟩
        have hb3 := hb0to hb2.out (extB_below wr y1)
        go_wp2_with (fail)
        go_ret
        exact ⟨by rw [HF.out]; try rfl, hb3⟩
      · have hdl : decide (cy < nv) = false := decide_eq_false hlt2
        have HF := Lib.hid (HZA.out.trans (decide_eq_true (by omega)))
        as_aux_lemma =>
        go_upto_region 4 with (fail)
        refine wp_region_ext (by kernel_rfl) (by kernel_rfl) ?_
        repeat (go_big_quiet_step ((go_at_call 73; exact ext_call (H73.out _))))
        refine wpQuiet_nil ?_
        rintro _ ⟨y1, rfl⟩
        have hb3 := hb0to hb2.out (extB_below wr y1)
        go_wp2_with (fail)
        go_roundw
        case rel => exact ⟨k + 1, hk1.out, by go_num, HF, Lib.hid hb3⟩
        case measure => have := hk1.out; simp [intOf]; omega
    · obtain rfl : k = c.length := by omega
      have HF := Lib.hid (show safeC s c = true by
        have := hall.out
        rw [List.take_of_length_le (by simp)] at this
        exact this)
      go_wp2_with (fail)
      go_ret
      exact ⟨by rw [HF.out]; try rfl, hb2.out⟩
end Go.Proofs.Ytgjpllmmpclgaaa
