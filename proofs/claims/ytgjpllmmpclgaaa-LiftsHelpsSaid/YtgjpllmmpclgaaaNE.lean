import Derived.Test.YtgjpllmmpclgaaaNC
import Derived.Test.YtgjpllmmpclgaaaM7
namespace Go.Proofs.Ytgjpllmmpclgaaa
open Go.RowKit

/-! The specification's isSafe 97, Safe 66, Lifts 68, First 69. -/
theorem safe_all {s : Sea} (hS : SOK s) {c : List Int} (hc : CrewOf s.bs.length s.ps.length c) : safeC s c = true ↔ ∀ p ∈ partsR s.ps 12, overB s c s.wh p = false := by
  constructor
  · intro h p hp
    exact safe_over hS hc (mem_partsR.1 hp) hS.w1 (Int.le_refl _) h
  · intro h
    have hsu := (surely_iff (w := s.wh) (ps := s.ps) (cs := carriesL s c) (t := 12) (by have := hS.w0; have := hS.w1; omega) (fun y hy => (hS.p y hy).2.1) hS.lo hS.hi (by simp [carriesL, hc.1])).1 (fun p hp => (over_fits (by rw [hp.len, hc.1])).1 (h p (mem_partsR.2 hp)))
    refine safe_of fun k j hj => ?_
    have hkl := (List.getElem?_eq_some_iff.1 hj).1
    obtain ⟨x, hx⟩ : ∃ x, s.ps[k]? = some x := ⟨_, List.getElem?_eq_getElem (by rw [← hc.1]; exact hkl)⟩
    have := hsu k x (carryN s j.toNat) hx (by unfold carriesL; rw [List.getElem?_map, hj]; rfl)
    rw [← shares_at hx] at this
    exact (need_iff _).1 this
theorem never_all {s : Sea} (hS : SOK s) {c : List Int} (hc : CrewOf s.bs.length s.ps.length c) : neverB s c = true ↔ ∀ p ∈ partsR s.ps 12, overB s c s.wl p = true := by
  constructor
  · intro h p hp
    exact never_over hS hc (mem_partsR.1 hp) (Int.le_refl _) h
  · intro h
    cases hn : neverB s c
    · exfalso
      unfold neverB at hn
      rw [Bool.not_eq_false', Bool.and_eq_true, List.all_eq_true, decide_eq_true_eq] at hn
      obtain ⟨p, hp, hf⟩ := (perhaps_iff hS.w0 (ps := s.ps) (cs := carriesL s c) (t := 12) (by simp [carriesL, hc.1]) (fun y hy => by
        unfold carriesL at hy
        obtain ⟨j, _, rfl⟩ := List.mem_map.1 hy
        exact carry_nn hS _) hS.lo).2 ⟨fun x hx => of_decide_eq_true (hn.1 x hx), hn.2⟩
      have h1 := h p (mem_partsR.2 hp)
      rw [(over_fits (by rw [hp.len, hc.1])).2 hf] at h1
      cases h1
    · rfl
def rowOver (s : Sea) (c : List Int) (n : Int) (b : Bool) (rs : List (List Int)) (k : Nat) : Prop := ∀ (j : Nat) (p : List Int), j < k → rs[j]? = some p → overB s c n p = b
theorem rowOver_zero (s : Sea) (c : List Int) (n : Int) (b : Bool) (rs : List (List Int)) : rowOver s c n b rs 0 := fun j _ hj => absurd hj (by omega)
theorem rowOver_next {s : Sea} {c : List Int} {n : Int} {b : Bool} {rs : List (List Int)} {k : Nat} {p : List Int} (h : rowOver s c n b rs k) (hp : rs[k]? = some p) (ho : overB s c n p = b) : rowOver s c n b rs (k + 1) := fun j q hj hq => by
  by_cases e : j < k
  · exact h j q e hq
  · obtain rfl : j = k := by omega
    rw [hp] at hq; cases hq; exact ho
theorem rowOver_all {s : Sea} {c : List Int} {n : Int} {b : Bool} {rs : List (List Int)} (h : rowOver s c n b rs rs.length) : ∀ p ∈ rs, overB s c n p = b := fun p hp => by
  obtain ⟨j, hj⟩ := List.getElem?_of_mem hp
  exact h j p (List.getElem?_eq_some_iff.1 hj).1 hj
set_option maxRecDepth 100000 in
set_option maxHeartbeats 4000000 in
theorem risSafe_any (L : SL) (s : Sea) (hS : SOK s) (c : List Int) (hc : CrewOf s.bs.length s.ps.length c) (A : Option Addr) (cv : Nat) (w : World) (hH : SeaAt w w.heap.size L s) (hI : IntsAt w w.heap.size A c) : Calls Try.prog 97 #[L.enc s, .slice A c.length cv] w fun e w' => e = .returned (.bool (safeC s c)) ∧ Below w.heap.size w w' := by
  have hbw := al_below w (.cells #[.int .i64 s.wl, .int .i64 s.wh, .slice L.Ap s.ps.length L.cp, .slice L.Ab s.bs.length L.cb] 27)
  have HB := Lib.hid (SBox.new w L s)
  obtain ⟨c0, c1, c2, c3⟩ := (SBox.new w L s).cells
  obtain ⟨W0, hW0⟩ : ∃ W0, w.alloc (.cells #[.int .i64 s.wl, .int .i64 s.wh, .slice L.Ap s.ps.length L.cp, .slice L.Ab s.bs.length L.cb] 27) = W0 := ⟨_, rfl⟩
  rw [hW0] at hbw HB c0 c1 c2 c3
  have HBW := Lib.hid hbw
  have HW0 := Lib.hid hW0
  have HH := Lib.hid (hH.below hbw)
  have HI := Lib.hid (ints_later hI hbw)
  have hpl := hS.pl
  have HP := Lib.hid (rpartings_any L s hS s.ps.length [] 0 rfl (by omega) (fun k u y h => by simp at h) none 0 W0.heap.size W0 (fun _ => ⟨rfl, rfl⟩) HH.out (.inl rfl) (Nat.le_refl _))
  rw [partsF_nil] at HP
  have hbig : (partsR s.ps 12).length ≤ 28561 := by
    have := partsF_small hpl (fun y hy => by have := hS.p y hy; omega) 12 []
    rwa [partsF_nil] at this
  have HA := Lib.hid (safe_all hS hc)
  have H31 := Lib.hid (fun (p : List Int) (hp : p ∈ partsR s.ps 12) B cw W hW hI hJ => rOver_any L s hS c p s.wh A B cv cw (by have := hc.1; omega) (by rw [(mem_partsR.1 hp).len, hc.1]; exact Nat.le_refl _) (by rw [(mem_partsR.1 hp).len]; omega) hc.2.1 (by have := hS.w0; have := hS.w1; have := hS.w2; omega) (parts_bd hS (mem_partsR.1 hp)) W hW hI hJ)
  clear hbw hW0 hH hI hS hc
  generalize partsR s.ps 12 = rs at HP HA H31 hbig
  obtain ⟨Ap, cp, Ab, cb⟩ := L
  go_enter Try.func97, Try.ntmps97
  go_upto_region 1 with (fail)
  have e := HW0.out
  rw [e]
  clear e
  go_upto_region 2 with (go_at_call 98; refine HP.out.mono ?_; rintro e w1 ⟨⟨Ar, cr, rfl, hAr, hR⟩, hb1⟩; have B1 := Lib.hid hb1; have HR := Lib.hid hR; clear hb1 hAr hR)
  clear c0 c1 c2 c3
  go_wp2_with (fail)
  go_loopw [6] (fun v wr => ∃ k : Nat, k ≤ rs.length ∧ v = .int .i64 k ∧ Hid (rowOver s c s.wh false rs k) ∧ Hid (Below w1.heap.size w1 wr)) (fun v _ => rs.length - (intOf v).toNat)
  case atStart => exact ⟨0, Nat.zero_le _, rfl, Lib.hid (rowOver_zero _ _ _ _ _), Lib.hid (Below.refl _ _)⟩
  case round =>
    obtain ⟨k, hk, rfl, hrow, hb⟩ := hrel
    have HBr := Lib.hid (hb0to B1.out hb.out)
    obtain ⟨r0, r1, r2, r3⟩ := (HB.out.of (HBr.out.block _ HB.out.lt)).cells
    by_cases hlt : k < rs.length
    · obtain ⟨p, hp⟩ : ∃ p, rs[k]? = some p := ⟨_, List.getElem?_eq_getElem hlt⟩
      have HPM := Lib.hid (List.mem_of_getElem? hp)
      have HPK := Lib.hid hp
      obtain ⟨b, off, A', c', eA, hbl, k1, _, k2⟩ := (HR.out.below hb.out (Nat.le_refl _)).at_ hp
      have hszr := hb.out.size
      have K2 := Lib.hid (k2.keep (hi' := wr.heap.size) (Nat.le_refl _) (by omega) (fun _ _ _ _ => rfl))
      subst eA
      have X31 := Lib.hid (fun z => H31.out p HPM.out A' c' (extB wr z) (HH.out.below (hb0to HBr.out (extB_below wr z))) (ints_later HI.out (hb0to HBr.out (extB_below wr z))) (ints_later K2.out.at_ (extB_below wr z)))
      have e0 := extB_cell r0
      have e1 := extB_cell r1
      have e2 := extB_cell r2
      have e3 := extB_cell r3
      have f1 := extB_cell k1
      clear hp k2
      cases ho : overB s c s.wh p
      · rw [ho] at X31
        have HN := Lib.hid (rowOver_next hrow.out HPK.out ho)
        clear ho
        as_aux_lemma =>
        go_upto_region 5 with (fail)
        refine wp_region_ext (by kernel_rfl) (by kernel_rfl) ?_
        repeat (go_big_quiet_step ((go_at_call 31; exact ext_call (X31.out _))))
        refine wpQuiet_nil ?_
        rintro _ ⟨y1, rfl⟩
        have hb3 := Lib.hid (hb0to hb.out (extB_below wr y1))
        clear e0 e1 e2 e3 f1 r0 r1 r2 r3 k1
        go_wp2_with (fail)
        go_roundw
        case rel => exact ⟨k + 1, by omega, by go_num, HN, hb3⟩
        case measure => simp [intOf]; omega
      · rw [ho] at X31
        have HF := Lib.hid (show safeC s c = false by
          cases hsc : safeC s c
          · rfl
          · have := HA.out.1 hsc p HPM.out
            rw [ho] at this; cases this)
        clear ho
        as_aux_lemma =>
        go_upto_region 5 with (fail)
        refine wp_region_ext (by kernel_rfl) (by kernel_rfl) ?_
        repeat (go_big_quiet_step ((go_at_call 31; exact ext_call (X31.out _))))
        refine wpQuiet_nil ?_
        rintro _ ⟨y1, rfl⟩
        have hb3 := Lib.hid (hb0to HBr.out (extB_below wr y1))
        clear e0 e1 e2 e3 f1 r0 r1 r2 r3 k1
        go_wp2_with (fail)
        go_ret
        exact ⟨by rw [HF.out]; rfl, hb0to HBW.out hb3.out⟩
    · obtain rfl : k = rs.length := by omega
      have HF := Lib.hid (HA.out.2 (rowOver_all hrow.out))
      go_wp2_with (fail)
      go_ret
      exact ⟨by rw [HF.out]; rfl, hb0to HBW.out HBr.out⟩
set_option maxRecDepth 100000 in
set_option maxHeartbeats 4000000 in
theorem rsafe_any (L : SL) (s : Sea) (c : List Int) (A : Option Addr) (cv : Nat) (hcl : c.length ≤ 1000) (hcv : c.length ≤ cv) (w : World) (hH : SeaAt w w.heap.size L s) (hI : IntsAt w w.heap.size A c) : Calls Try.prog 66 #[L.enc s, .slice A c.length cv] w fun e w' => e = .returned (.tuple #[.int .i64 (safeRet s c).1, .int .i64 (safeRet s c).2]) ∧ Below w.heap.size w w' := by
  have hbw := al_below w (.cells #[.int .i64 s.wl, .int .i64 s.wh, .slice L.Ap s.ps.length L.cp, .slice L.Ab s.bs.length L.cb] 27)
  have HB := Lib.hid (SBox.new w L s)
  obtain ⟨c0, c1, c2, c3⟩ := (SBox.new w L s).cells
  obtain ⟨W0, hW0⟩ : ∃ W0, w.alloc (.cells #[.int .i64 s.wl, .int .i64 s.wh, .slice L.Ap s.ps.length L.cp, .slice L.Ab s.bs.length L.cb] 27) = W0 := ⟨_, rfl⟩
  rw [hW0] at hbw HB c0 c1 c2 c3
  have HBW := Lib.hid hbw
  have HW0 := Lib.hid hW0
  have HH := Lib.hid (hH.below hbw)
  have HI := Lib.hid (ints_later hI hbw)
  have HO := Lib.hid (ropen_any L s c A cv hcl hcv W0 HH.out HI.out)
  by_cases h0 : askS s (crewB s c) = 0
  · rw [h0] at HO
    obtain ⟨hv, hcr0⟩ := askS_ok h0
    have hS := SOK.ofValid hv
    have hc := crewB_iff.1 hcr0
    have hpl := hS.pl
    have H97 := Lib.hid (fun W hW hI => risSafe_any L s hS c hc A cv W hW hI)
    have HP := Lib.hid (fun W hW => rpartings_any L s hS s.ps.length [] 0 rfl (by omega) (fun k u y h => by simp at h) none 0 W.heap.size W (fun _ => ⟨rfl, rfl⟩) hW (.inl rfl) (Nat.le_refl _))
    rw [partsF_nil] at HP
    have hbig : (partsR s.ps 12).length ≤ 28561 := by
      have := partsF_small hpl (fun y hy => by have := hS.p y hy; omega) 12 []
      rwa [partsF_nil] at this
    have HA := Lib.hid (never_all hS hc)
    have H31 := Lib.hid (fun (p : List Int) (hp : p ∈ partsR s.ps 12) B cw W hW hI hJ => rOver_any L s hS c p s.wl A B cv cw (by have := hc.1; omega) (by rw [(mem_partsR.1 hp).len, hc.1]; exact Nat.le_refl _) (by rw [(mem_partsR.1 hp).len]; omega) hc.2.1 (by have := hS.w0; have := hS.w1; have := hS.w2; omega) (parts_bd hS (mem_partsR.1 hp)) W hW hI hJ)
    have HQ := Lib.hid (safe_ret hv hcr0)
    rw [HQ.out]
    generalize partsR s.ps 12 = rs at HP HA H31 hbig
    cases hsf : safeC s c
    · rw [hsf] at H97
      have HSN := Lib.hid (show safeN s c = if neverB s c = true then 2 else 3 by unfold safeN; rw [if_neg (by simp [hsf])])
      clear hbw hW0 hH hI hS hc h0 hv hcr0 hsf hcl hcv
      obtain ⟨Ap, cp, Ab, cb⟩ := L
      as_aux_lemma =>
      go_enter Try.func66, Try.ntmps66
      go_upto_region 1 with (fail)
      have e := HW0.out
      rw [e]
      clear e
      go_upto_region 7 with (first
        | (go_at_call 96; refine HO.out.mono ?_; rintro e w1 ⟨rfl, hb1⟩; have B1 := Lib.hid hb1; obtain ⟨r0, r1, r2, r3⟩ := (HB.out.of (hb1.block _ HB.out.lt)).cells; clear hb1)
        | (go_at_call 97; refine (H97.out w1 (HH.out.below B1.out) (ints_later HI.out B1.out)).mono ?_; rintro e w2 ⟨rfl, hb2⟩; have B2 := Lib.hid (hb0to B1.out hb2); obtain ⟨t0, t1, t2, t3⟩ := (HB.out.of (B2.out.block _ HB.out.lt)).cells; clear hb2)
        | (go_at_call 98; refine (HP.out w2 (HH.out.below B2.out)).mono ?_; rintro e w3 ⟨⟨Ar, cr, rfl, hAr, hR⟩, hb3⟩; have B3 := Lib.hid (hb0to B2.out hb3); have HR := Lib.hid hR; clear hb3 hAr hR))
      clear c0 c1 c2 c3 r0 r1 r2 r3 t0 t1 t2 t3
      go_wp2_with (fail)
      go_loopw [8] (fun v wr => ∃ k : Nat, k ≤ rs.length ∧ v = .int .i64 k ∧ Hid (rowOver s c s.wl true rs k) ∧ Hid (Below w3.heap.size w3 wr)) (fun v _ => rs.length - (intOf v).toNat)
      case atStart => exact ⟨0, Nat.zero_le _, rfl, Lib.hid (rowOver_zero _ _ _ _ _), Lib.hid (Below.refl _ _)⟩
      case round =>
        obtain ⟨k, hk, rfl, hrow, hb⟩ := hrel
        have HBr := Lib.hid (hb0to B3.out hb.out)
        obtain ⟨r0, r1, r2, r3⟩ := (HB.out.of (HBr.out.block _ HB.out.lt)).cells
        by_cases hlt : k < rs.length
        · obtain ⟨p, hp⟩ : ∃ p, rs[k]? = some p := ⟨_, List.getElem?_eq_getElem hlt⟩
          have HPM := Lib.hid (List.mem_of_getElem? hp)
          have HPK := Lib.hid hp
          obtain ⟨b, off, A', c', eA, hbl, k1, _, k2⟩ := (HR.out.below hb.out (Nat.le_refl _)).at_ hp
          have hszr := hb.out.size
          have K2 := Lib.hid (k2.keep (hi' := wr.heap.size) (Nat.le_refl _) (by omega) (fun _ _ _ _ => rfl))
          subst eA
          have X31 := Lib.hid (fun z => H31.out p HPM.out A' c' (extB wr z) (HH.out.below (hb0to HBr.out (extB_below wr z))) (ints_later HI.out (hb0to HBr.out (extB_below wr z))) (ints_later K2.out.at_ (extB_below wr z)))
          have e0 := extB_cell r0
          have e1 := extB_cell r1
          have e2 := extB_cell r2
          have e3 := extB_cell r3
          have f1 := extB_cell k1
          clear hp k2
          cases ho : overB s c s.wl p
          · rw [ho] at X31
            have HF := Lib.hid (show safeN s c = 3 by
              rw [HSN.out, if_neg]
              intro hn
              have := HA.out.1 hn p HPM.out
              rw [ho] at this; cases this)
            clear ho
            as_aux_lemma =>
            go_upto_region 10 with (fail)
            refine wp_region_ext (by kernel_rfl) (by kernel_rfl) ?_
            repeat (go_big_quiet_step ((go_at_call 31; exact ext_call (X31.out _))))
            refine wpQuiet_nil ?_
            rintro _ ⟨y1, rfl⟩
            have hb3 := Lib.hid (hb0to HBr.out (extB_below wr y1))
            clear e0 e1 e2 e3 f1 r0 r1 r2 r3 k1
            go_wp2_with (fail)
            go_ret2
            exact ⟨by rw [HF.out]; rfl, hb0to HBW.out hb3.out⟩
          · rw [ho] at X31
            have HN := Lib.hid (rowOver_next hrow.out HPK.out ho)
            clear ho
            as_aux_lemma =>
            go_upto_region 10 with (fail)
            refine wp_region_ext (by kernel_rfl) (by kernel_rfl) ?_
            repeat (go_big_quiet_step ((go_at_call 31; exact ext_call (X31.out _))))
            refine wpQuiet_nil ?_
            rintro _ ⟨y1, rfl⟩
            have hb3 := Lib.hid (hb0to hb.out (extB_below wr y1))
            clear e0 e1 e2 e3 f1 r0 r1 r2 r3 k1
            go_wp2_with (fail)
            go_roundw
            case rel => exact ⟨k + 1, by omega, by go_num, HN, hb3⟩
            case measure => simp [intOf]; omega
        · obtain rfl : k = rs.length := by omega
          have HF := Lib.hid (show safeN s c = 2 by rw [HSN.out, if_pos (HA.out.2 (rowOver_all hrow.out))])
          go_wp2_with (fail)
          go_ret2
          exact ⟨by rw [HF.out]; rfl, hb0to HBW.out HBr.out⟩
    · rw [hsf] at H97
      have HSN := Lib.hid (show safeN s c = 1 by unfold safeN; rw [if_pos hsf])
      clear hbw hW0 hH hI hS hc h0 hv hcr0 hsf hcl hcv
      obtain ⟨Ap, cp, Ab, cb⟩ := L
      as_aux_lemma =>
      go_enter Try.func66, Try.ntmps66
      go_upto_region 1 with (fail)
      have e := HW0.out
      rw [e]
      clear e
      go_wp2_with (first
        | (go_at_call 96; refine HO.out.mono ?_; rintro e w1 ⟨rfl, hb1⟩; have B1 := Lib.hid hb1; obtain ⟨r0, r1, r2, r3⟩ := (HB.out.of (hb1.block _ HB.out.lt)).cells; clear hb1)
        | (go_at_call 97; refine (H97.out w1 (HH.out.below B1.out) (ints_later HI.out B1.out)).mono ?_; rintro e w2 ⟨rfl, hb2⟩; have B2 := Lib.hid (hb0to B1.out hb2); clear hb2))
      go_ret2
      exact ⟨by rw [HSN.out]; rfl, hb0to HBW.out B2.out⟩
  · have hd : (askS s (crewB s c) != 0) = true := by simp [h0]
    have HQ := Lib.hid (show safeRet s c = (0, askS s (crewB s c)) by unfold safeRet; rw [if_pos h0])
    rw [HQ.out]
    generalize askS s (crewB s c) = er at HO hd
    clear hbw hW0 hH h0 hI hcl hcv
    obtain ⟨Ap, cp, Ab, cb⟩ := L
    go_enter Try.func66, Try.ntmps66
    go_upto_region 1 with (fail)
    have e := HW0.out
    rw [e]
    clear e
    go_wp2_with (go_at_call 96; refine HO.out.mono ?_; rintro e w1 ⟨rfl, hb1⟩; have B1 := Lib.hid hb1; clear hb1)
    go_ret2
    exact ⟨rfl, hb0to HBW.out B1.out⟩
set_option maxRecDepth 100000 in
set_option maxHeartbeats 4000000 in
theorem rLifts_any (L : SL) (s : Sea) (c : List Int) (A : Option Addr) (cv : Nat) (hcl : c.length ≤ 1000) (hcv : c.length ≤ cv) (w : World) (hH : SeaAt w w.heap.size L s) (hI : IntsAt w w.heap.size A c) : Calls Try.prog 68 #[L.enc s, .slice A c.length cv] w fun e w' => e = .returned (.tuple #[.int .i64 (liftsRet s c).1, .int .i64 (liftsRet s c).2]) ∧ Below w.heap.size w w' := by
  have hbw := al_below w (.cells #[.int .i64 s.wl, .int .i64 s.wh, .slice L.Ap s.ps.length L.cp, .slice L.Ab s.bs.length L.cb] 27)
  have HB := Lib.hid (SBox.new w L s)
  obtain ⟨c0, c1, c2, c3⟩ := (SBox.new w L s).cells
  obtain ⟨W0, hW0⟩ : ∃ W0, w.alloc (.cells #[.int .i64 s.wl, .int .i64 s.wh, .slice L.Ap s.ps.length L.cp, .slice L.Ab s.bs.length L.cb] 27) = W0 := ⟨_, rfl⟩
  rw [hW0] at hbw HB c0 c1 c2 c3
  have HBW := Lib.hid hbw
  have HW0 := Lib.hid hW0
  have HH := Lib.hid (hH.below hbw)
  have HI := Lib.hid (ints_later hI hbw)
  have HO := Lib.hid (ropen_any L s c A cv hcl hcv W0 HH.out HI.out)
  by_cases h0 : askS s (crewB s c) = 0
  · rw [h0] at HO
    obtain ⟨hv, hcr0⟩ := askS_ok h0
    have hS := SOK.ofValid hv
    have hc := crewB_iff.1 hcr0
    have hpl := hS.pl
    have HN := Lib.hid (fun W hW => rhighs_any L s hS W hW)
    have H99 := Lib.hid (fun B cw W hW hI hJ => rlifts_any L s hS c hc.2.1 (by have := hc.1; omega) A B cv cw W hW hI hJ)
    have HQ := Lib.hid (show liftsRet s c = (liftS s c, 0) by unfold liftsRet; rw [if_neg (by simp [h0])])
    rw [HQ.out]
    generalize liftS s c = m at H99 ⊢
    clear hbw hW0 hH hI hS hc h0 hv hcr0 hcl hcv
    obtain ⟨Ap, cp, Ab, cb⟩ := L
    go_enter Try.func68, Try.ntmps68
    go_upto_region 1 with (fail)
    have e := HW0.out
    rw [e]
    clear e
    go_upto_region 4 with (go_at_call 96; refine HO.out.mono ?_; rintro e w1 ⟨rfl, hb1⟩; have B1 := Lib.hid hb1; obtain ⟨r0, r1, r2, r3⟩ := (HB.out.of (hb1.block _ HB.out.lt)).cells; clear hb1)
    clear c0 c1 c2 c3
    go_region_held3 (fun w' => w'.cell? ⟨w.heap.size, 0, none⟩ = some (.int .i64 s.wl) ∧ w'.cell? ⟨w.heap.size, 1, none⟩ = some (.int .i64 s.wh) ∧ w'.cell? ⟨w.heap.size, 2, none⟩ = some (.slice Ap s.ps.length cp) ∧ w'.cell? ⟨w.heap.size, 3, none⟩ = some (.slice Ab s.bs.length cb)) (first | go_keep)
      (first
        | (go_at_call 100; refine (HN.out w1.drew (HH.out.below (hb0to B1.out (drew_below _)))).mono ?_; rintro e w2 ⟨⟨An, cn, rfl, hIn⟩, hb2⟩; have B2 := Lib.hid (hb0to (hb0to B1.out (drew_below _)) hb2); have HN2 := Lib.hid hIn; obtain ⟨t0, t1, t2, t3⟩ := (HB.out.of (B2.out.block _ HB.out.lt)).cells; clear hb2 hIn)
        | (go_at_call 99; refine (H99.out An cn w2 (HH.out.below B2.out) (ints_later HI.out B2.out) HN2.out.ints).mono ?_; rintro e w3 ⟨rfl, hb3⟩; have B3 := Lib.hid (hb0to B2.out hb3); obtain ⟨u0, u1, u2, u3⟩ := (HB.out.of (B3.out.block _ HB.out.lt)).cells; clear hb3))
    all_goals
      go_wp2_with (fail)
      go_ret2
      exact ⟨rfl, hb0to HBW.out B3.out⟩
  · have hd : (askS s (crewB s c) != 0) = true := by simp [h0]
    have HQ := Lib.hid (show liftsRet s c = (0, askS s (crewB s c)) by unfold liftsRet; rw [if_pos h0])
    rw [HQ.out]
    generalize askS s (crewB s c) = er at HO hd
    clear hbw hW0 hH h0 hI hcl hcv
    obtain ⟨Ap, cp, Ab, cb⟩ := L
    go_enter Try.func68, Try.ntmps68
    go_upto_region 1 with (fail)
    have e := HW0.out
    rw [e]
    clear e
    go_wp2_with (go_at_call 96; refine HO.out.mono ?_; rintro e w1 ⟨rfl, hb1⟩; have B1 := Lib.hid hb1; clear hb1)
    go_ret2
    exact ⟨rfl, hb0to HBW.out B1.out⟩
def noFirst (s : Sea) (c : List Int) (k : Nat) : Prop := ∀ (i : Nat) (x : Int), i < k → c[i]? = some x → holdsN (carryN s x.toNat) (shares s i).2 ≠ liftS s c
theorem noFirst_zero (s : Sea) (c : List Int) : noFirst s c 0 := fun i _ hi => absurd hi (by omega)
theorem noFirst_next {s : Sea} {c : List Int} {k : Nat} {x : Int} (h : noFirst s c k) (hx : c[k]? = some x) (hn : holdsN (carryN s x.toNat) (shares s k).2 ≠ liftS s c) : noFirst s c (k + 1) := fun i y hi hy => by
  by_cases e : i < k
  · exact h i y e hy
  · obtain rfl : i = k := by omega
    rw [hx] at hy; cases hy; exact hn
theorem noFirst_found {s : Sea} {c : List Int} {k : Nat} {x : Int} (hl : liftS s c ≠ 2000) (h : noFirst s c k) (hx : c[k]? = some x) (he : holdsN (carryN s x.toNat) (shares s k).2 = liftS s c) : firstN s c = ((k : Int), 0) := by
  obtain ⟨k0, j, h1, h2, h3, h4⟩ := first_at hl
  rw [h1]
  have : k0 = k := by
    rcases Nat.lt_trichotomy k0 k with hh | hh | hh
    · exact absurd h3 (h k0 j hh h2)
    · exact hh
    · exact absurd he (h4 k x hh hx)
  rw [this]
theorem noFirst_end {s : Sea} {c : List Int} (hl : liftS s c ≠ 2000) (h : noFirst s c c.length) : False := by
  obtain ⟨k0, j, h1, h2, h3, h4⟩ := first_at hl
  exact h k0 j (List.getElem?_eq_some_iff.1 h2).1 h2 h3
set_option maxRecDepth 100000 in
set_option maxHeartbeats 4000000 in
theorem rFirst_any (L : SL) (s : Sea) (c : List Int) (A : Option Addr) (cv : Nat) (hcl : c.length ≤ 1000) (hcv : c.length ≤ cv) (w : World) (hH : SeaAt w w.heap.size L s) (hI : IntsAt w w.heap.size A c) : Calls Try.prog 69 #[L.enc s, .slice A c.length cv] w fun e w' => e = .returned (.tuple #[.int .i64 (firstRet s c).1, .int .i64 (firstRet s c).2]) ∧ Below w.heap.size w w' := by
  have hbw := al_below w (.cells #[.int .i64 s.wl, .int .i64 s.wh, .slice L.Ap s.ps.length L.cp, .slice L.Ab s.bs.length L.cb] 27)
  have HB := Lib.hid (SBox.new w L s)
  obtain ⟨c0, c1, c2, c3⟩ := (SBox.new w L s).cells
  obtain ⟨W0, hW0⟩ : ∃ W0, w.alloc (.cells #[.int .i64 s.wl, .int .i64 s.wh, .slice L.Ap s.ps.length L.cp, .slice L.Ab s.bs.length L.cb] 27) = W0 := ⟨_, rfl⟩
  rw [hW0] at hbw HB c0 c1 c2 c3
  have HBW := Lib.hid hbw
  have HW0 := Lib.hid hW0
  have HH := Lib.hid (hH.below hbw)
  have HI := Lib.hid (ints_later hI hbw)
  have HO := Lib.hid (ropen_any L s c A cv hcl hcv W0 HH.out HI.out)
  by_cases h0 : askS s (crewB s c) = 0
  · rw [h0] at HO
    obtain ⟨hv, hcr0⟩ := askS_ok h0
    have hS := SOK.ofValid hv
    have hc := crewB_iff.1 hcr0
    have hpl := hS.pl
    have HN := Lib.hid (fun W hW => rhighs_any L s hS W hW)
    have H99 := Lib.hid (fun B cw W hW hI hJ => rlifts_any L s hS c hc.2.1 (by have := hc.1; omega) A B cv cw W hW hI hJ)
    have HQ := Lib.hid (show firstRet s c = firstN s c by unfold firstRet; rw [if_neg (by simp [h0])])
    rw [HQ.out]
    have hlb := lift_bd hS hc
    have HS := Lib.hid hS
    have hcn : c.length = s.ps.length := hc.1
    have HCL := Lib.hid hcn
    have hcle : c.length ≤ s.ps.length := by omega
    have HCI := Lib.hid hc.2.1
    have H88 := Lib.hid (fun (k : Nat) (hk : k < s.ps.length) W hW => show Calls Try.prog 88 #[L.enc s, .int .i64 k] W fun e w' => e = .returned (.agg #[.int .i64 (shares s k).1, .int .i64 (shares s k).2]) ∧ Below W.heap.size W w' by
      rw [shares_at (List.getElem?_eq_getElem hk)]; exact rshare_any L s hS k _ (List.getElem?_eq_getElem hk) W hW)
    by_cases hl : liftS s c = 2000
    · have HF := Lib.hid (first_none hl)
      rw [hl] at H99
      clear hbw hW0 hH hI hS hc h0 hv hcr0 hcl hcv hcn hl
      obtain ⟨Ap, cp, Ab, cb⟩ := L
      as_aux_lemma =>
      go_enter Try.func69, Try.ntmps69
      go_upto_region 1 with (fail)
      have e := HW0.out
      rw [e]
      clear e
      go_upto_region 4 with (go_at_call 96; refine HO.out.mono ?_; rintro e w1 ⟨rfl, hb1⟩; have B1 := Lib.hid hb1; obtain ⟨r0, r1, r2, r3⟩ := (HB.out.of (hb1.block _ HB.out.lt)).cells; clear hb1)
      clear c0 c1 c2 c3
      go_region_held3 (fun w' => w'.cell? ⟨w.heap.size, 0, none⟩ = some (.int .i64 s.wl) ∧ w'.cell? ⟨w.heap.size, 1, none⟩ = some (.int .i64 s.wh) ∧ w'.cell? ⟨w.heap.size, 2, none⟩ = some (.slice Ap s.ps.length cp) ∧ w'.cell? ⟨w.heap.size, 3, none⟩ = some (.slice Ab s.bs.length cb)) (first | go_keep)
        (first
          | (go_at_call 100; refine (HN.out w1.drew (HH.out.below (hb0to B1.out (drew_below _)))).mono ?_; rintro e w2 ⟨⟨An, cn, rfl, hIn⟩, hb2⟩; have B2 := Lib.hid (hb0to (hb0to B1.out (drew_below _)) hb2); have HN2 := Lib.hid hIn; obtain ⟨t0, t1, t2, t3⟩ := (HB.out.of (B2.out.block _ HB.out.lt)).cells; clear hb2 hIn)
          | (go_at_call 99; refine (H99.out An cn w2 (HH.out.below B2.out) (ints_later HI.out B2.out) HN2.out.ints).mono ?_; rintro e w3 ⟨rfl, hb3⟩; have B3 := Lib.hid (hb0to B2.out hb3); obtain ⟨u0, u1, u2, u3⟩ := (HB.out.of (B3.out.block _ HB.out.lt)).cells; clear hb3))
      all_goals
        go_upto_region 5 with (fail)
        clear t0 t1 t2 t3 u0 u1 u2 u3
        go_wp2_with (fail)
        go_loopw [8] (fun v wr => v = .int .i64 0 ∧ Hid (Below w3.heap.size w3 wr)) (fun v _ => 0)
        case atStart => exact ⟨rfl, Lib.hid (Below.refl _ _)⟩
        case round =>
          obtain ⟨rfl, hb⟩ := hrel
          by_cases hlt : 0 < c.length
          · go_wp2_with (fail)
            go_ret2
            exact ⟨by rw [HF.out]; rfl, hb0to HBW.out (hb0to B3.out hb.out)⟩
          · go_wp2_with (fail)
            go_ret2
            exact ⟨by rw [HF.out]; rfl, hb0to HBW.out (hb0to B3.out hb.out)⟩
    · have HLN := Lib.hid hl
      have hlt2 : liftS s c < 2000 := by omega
      obtain ⟨m, hm⟩ : ∃ m, m = liftS s c := ⟨_, rfl⟩
      have HM := Lib.hid hm
      rw [← hm] at H99 hlt2 hlb
      have hdl : decide (m < 2000) = true := decide_eq_true hlt2
      clear hbw hW0 hH hI hS hc h0 hv hcr0 hcl hcv hcn hl hm
      obtain ⟨Ap, cp, Ab, cb⟩ := L
      as_aux_lemma =>
      go_enter Try.func69, Try.ntmps69
      go_upto_region 1 with (fail)
      have e := HW0.out
      rw [e]
      clear e
      go_upto_region 4 with (go_at_call 96; refine HO.out.mono ?_; rintro e w1 ⟨rfl, hb1⟩; have B1 := Lib.hid hb1; obtain ⟨r0, r1, r2, r3⟩ := (HB.out.of (hb1.block _ HB.out.lt)).cells; clear hb1)
      clear c0 c1 c2 c3
      go_region_held3 (fun w' => w'.cell? ⟨w.heap.size, 0, none⟩ = some (.int .i64 s.wl) ∧ w'.cell? ⟨w.heap.size, 1, none⟩ = some (.int .i64 s.wh) ∧ w'.cell? ⟨w.heap.size, 2, none⟩ = some (.slice Ap s.ps.length cp) ∧ w'.cell? ⟨w.heap.size, 3, none⟩ = some (.slice Ab s.bs.length cb)) (first | go_keep)
        (first
          | (go_at_call 100; refine (HN.out w1.drew (HH.out.below (hb0to B1.out (drew_below _)))).mono ?_; rintro e w2 ⟨⟨An, cn, rfl, hIn⟩, hb2⟩; have B2 := Lib.hid (hb0to (hb0to B1.out (drew_below _)) hb2); have HN2 := Lib.hid hIn; obtain ⟨t0, t1, t2, t3⟩ := (HB.out.of (B2.out.block _ HB.out.lt)).cells; clear hb2 hIn)
          | (go_at_call 99; refine (H99.out An cn w2 (HH.out.below B2.out) (ints_later HI.out B2.out) HN2.out.ints).mono ?_; rintro e w3 ⟨rfl, hb3⟩; have B3 := Lib.hid (hb0to B2.out hb3); obtain ⟨u0, u1, u2, u3⟩ := (HB.out.of (B3.out.block _ HB.out.lt)).cells; clear hb3))
      all_goals
        go_upto_region 5 with (fail)
        clear t0 t1 t2 t3 u0 u1 u2 u3 r0 r1 r2 r3
        go_wp2_with (fail)
        go_loopw [8] (fun v wr => ∃ k : Nat, k ≤ c.length ∧ v = .int .i64 k ∧ Hid (noFirst s c k) ∧ Hid (Below w3.heap.size w3 wr)) (fun v _ => c.length - (intOf v).toNat)
        case atStart => exact ⟨0, Nat.zero_le _, rfl, Lib.hid (noFirst_zero _ _), Lib.hid (Below.refl _ _)⟩
        case round =>
          obtain ⟨k, hk, rfl, hno, hb⟩ := hrel
          have HBr := Lib.hid (hb0to B3.out hb.out)
          by_cases hlt : k < c.length
          · obtain ⟨j, hj⟩ : ∃ j, c[k]? = some j := ⟨_, List.getElem?_eq_getElem hlt⟩
            obtain ⟨j0, j1⟩ := HCI.out j (List.mem_of_getElem? hj)
            obtain ⟨jn, rfl⟩ : ∃ jn : Nat, j = jn := ⟨j.toNat, by omega⟩
            have hkp : k < s.ps.length := by omega
            have hjb : jn < s.bs.length := by omega
            obtain ⟨z, hz, z0, z1, _, _⟩ := boat_at HS.out hjb
            obtain ⟨bi, oi, eA, blt, d1⟩ := HI.out.at_ hj
            obtain ⟨bb, ob, eB, blt2, d2, _⟩ := HH.out.b.at_ hz
            have g1 := below_cell HBr.out d1
            have g2 := below_cell HBr.out d2
            obtain ⟨r0, r1, r2, r3⟩ := (HB.out.of (HBr.out.block _ HB.out.lt)).cells
            simp only at eB
            subst eB
            have hh := shares_bd HS.out hkp
            have HFo := Lib.hid (fun h => noFirst_found HLN.out hno.out hj h)
            have HNo := Lib.hid (fun h => noFirst_next hno.out hj h)
            rw [Int.toNat_natCast, (boat_eq hz).1, ← HM.out] at HFo HNo
            have X88 := Lib.hid (H88.out k hkp)
            generalize (shares s k).1 = lo at X88
            generalize (shares s k).2 = hi at hh HFo HNo X88
            have hfd := fun W => field23 lo hi W
            obtain ⟨cy, pn⟩ := z
            simp only at z0 z1 HFo HNo g2
            have H101 := Lib.hid (fun W => rholds_any cy hi ⟨z0, z1⟩ ⟨hh.1, hh.2.1⟩ W)
            generalize holdsN cy hi = v at HFo HNo H101
            subst eA
            clear hz hj d1 d2 hh
            by_cases hvm : v = m
            · have HQ2 := Lib.hid (HFo.out hvm)
              have hdv : (v == m) = true := by simpa using hvm
              clear hvm HFo HNo
              as_aux_lemma =>
              go_upto_region 8 with (fail)
              go_region_held3 (fun w' => w'.cell? ⟨w.heap.size, 0, none⟩ = some (.int .i64 s.wl) ∧ w'.cell? ⟨w.heap.size, 1, none⟩ = some (.int .i64 s.wh) ∧ w'.cell? ⟨w.heap.size, 2, none⟩ = some (.slice Ap s.ps.length cp) ∧ w'.cell? ⟨w.heap.size, 3, none⟩ = some (.slice (some ⟨bb, ob, none⟩) s.bs.length cb) ∧ w'.cell? ⟨bi, oi + k, none⟩ = some (.int .i64 jn) ∧ w'.cell? ⟨bb, ob + jn * 2, none⟩ = some (.int .i64 cy)) (first | go_keep)
                (first
                  | (go_at_call 88; refine (X88.out _ (HH.out.below (hb0to HBr.out (by first | exact drew_below _ | exact Below.refl _ _)))).mono ?_; rintro e w8 ⟨rfl, hb8⟩; have hk8 : Below wr.heap.size wr w8 := (by first | exact hb8 | exact hb0to (drew_below wr) hb8); have B8 := Lib.hid hk8; have t0 := below_cell hk8 r0; have t1 := below_cell hk8 r1; have t2 := below_cell hk8 r2; have t3 := below_cell hk8 r3; have y1 := below_cell hk8 g1; have y2 := below_cell hk8 g2; clear hb8 hk8)
                  | (go_at_call 101; refine (H101.out _).mono ?_; rintro e w' ⟨rfl, rfl⟩))
              all_goals
                clear r0 r1 r2 r3 t0 t1 t2 t3 g1 g2 y1 y2
                go_wp2_with (fail)
                go_ret2
                exact ⟨by rw [HQ2.out]; rfl, hb0to HBW.out (hb0to HBr.out B8.out)⟩
            · have HQ2 := Lib.hid (HNo.out hvm)
              have hdv : (v == m) = false := by simpa using hvm
              clear hvm HFo HNo
              as_aux_lemma =>
              go_upto_region 8 with (fail)
              go_region_held3 (fun w' => w'.cell? ⟨w.heap.size, 0, none⟩ = some (.int .i64 s.wl) ∧ w'.cell? ⟨w.heap.size, 1, none⟩ = some (.int .i64 s.wh) ∧ w'.cell? ⟨w.heap.size, 2, none⟩ = some (.slice Ap s.ps.length cp) ∧ w'.cell? ⟨w.heap.size, 3, none⟩ = some (.slice (some ⟨bb, ob, none⟩) s.bs.length cb) ∧ w'.cell? ⟨bi, oi + k, none⟩ = some (.int .i64 jn) ∧ w'.cell? ⟨bb, ob + jn * 2, none⟩ = some (.int .i64 cy)) (first | go_keep)
                (first
                  | (go_at_call 88; refine (X88.out _ (HH.out.below (hb0to HBr.out (by first | exact drew_below _ | exact Below.refl _ _)))).mono ?_; rintro e w8 ⟨rfl, hb8⟩; have hk8 : Below wr.heap.size wr w8 := (by first | exact hb8 | exact hb0to (drew_below wr) hb8); have B8 := Lib.hid hk8; have t0 := below_cell hk8 r0; have t1 := below_cell hk8 r1; have t2 := below_cell hk8 r2; have t3 := below_cell hk8 r3; have y1 := below_cell hk8 g1; have y2 := below_cell hk8 g2; clear hb8 hk8)
                  | (go_at_call 101; refine (H101.out _).mono ?_; rintro e w' ⟨rfl, rfl⟩))
              all_goals
                clear r0 r1 r2 r3 t0 t1 t2 t3 g1 g2 y1 y2
                go_wp2_with (fail)
                go_roundw
                case rel => exact ⟨k + 1, by omega, by go_num, HQ2, Lib.hid (hb0to hb.out B8.out)⟩
                case measure => simp [intOf]; omega
          · obtain rfl : k = c.length := by omega
            exact (noFirst_end HLN.out hno.out).elim
  · have hd : (askS s (crewB s c) != 0) = true := by simp [h0]
    have HQ := Lib.hid (show firstRet s c = (0, askS s (crewB s c)) by unfold firstRet; rw [if_pos h0])
    rw [HQ.out]
    generalize askS s (crewB s c) = er at HO hd
    clear hbw hW0 hH h0 hI hcl hcv
    obtain ⟨Ap, cp, Ab, cb⟩ := L
    go_enter Try.func69, Try.ntmps69
    go_upto_region 1 with (fail)
    have e := HW0.out
    rw [e]
    clear e
    go_wp2_with (go_at_call 96; refine HO.out.mono ?_; rintro e w1 ⟨rfl, hb1⟩; have B1 := Lib.hid hb1; clear hb1)
    go_ret2
    exact ⟨rfl, hb0to HBW.out B1.out⟩
end Go.Proofs.Ytgjpllmmpclgaaa
