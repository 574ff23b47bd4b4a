import Derived.Test.YtgjpllmmpclgaaaN7
namespace Go.Proofs.Ytgjpllmmpclgaaa
open Go.RowKit

/-! The specification's Short 59. -/
set_option maxRecDepth 100000 in
set_option maxHeartbeats 4000000 in
theorem rshort_any (L : SL) (s : Sea) (w : World) (hH : SeaAt w w.heap.size L s) : Calls Try.prog 59 #[L.enc s] w fun e w' => ListRet w.heap.size w' e (shortRet s) ∧ Below w.heap.size w w' := by
  have hbw := al_below w (.cells #[.int .i64 s.wl, .int .i64 s.wh, .slice L.Ap s.ps.length L.cp, .slice L.Ab s.bs.length L.cb] 27)
  have HB := Lib.hid (SBox.new w L s)
  obtain ⟨c0, c1, c2, c3⟩ := (SBox.new w L s).cells
  obtain ⟨W0, hW0⟩ : ∃ W0, w.alloc (.cells #[.int .i64 s.wl, .int .i64 s.wh, .slice L.Ap s.ps.length L.cp, .slice L.Ab s.bs.length L.cb] 27) = W0 := ⟨_, rfl⟩
  rw [hW0] at hbw HB c0 c1 c2 c3
  have HBW := Lib.hid hbw
  have HW0 := Lib.hid hW0
  have HH := Lib.hid (hH.below hbw)
  have HK := Lib.hid (rcheck_any L s W0 HH.out)
  rw [ckS_ask] at HK
  by_cases h0 : askS s true = 0
  · rw [h0] at HK
    have hS := SOK.ofValid (askS_ok h0).1
    have HS := Lib.hid hS
    have hpl := hS.pl
    have hbl := hS.bl
    have HN := Lib.hid (fun W hW => rneeds_any L s hS W hW)
    have HL := Lib.hid (fun (mn : Nat) (hm : mn ≤ 4) W => rlists_any s.ps.length hpl mn hm mn [] 0 rfl (by omega) (by simp) none 0 W.heap.size W (fun _ => ⟨rfl, rfl⟩) (.inl rfl) (Nat.le_refl _))
    have H22 := Lib.hid (fun (n : Int) W hW => Can_any L s (by omega) n W hW)
    have H23 := Lib.hid (fun (p : List Int) (hp : p ≠ []) (hr : riseB p s.ps.length = true) A B ca cb W hI hJ => show Calls Try.prog 23 #[.slice A s.ps.length ca, .slice B p.length cb] W fun e w' => e = .returned (.int .i64 (leastL (needsL s) p)) ∧ W = w' by
      have := Least_any (needsL s) p A B ca cb (by rw [needsL_len]; omega) (by have := rise_len hr; omega) hp (by rw [needsL_len]; exact (rise_iff.1 hr).2) W hI hJ
      rwa [needsL_len] at this)
    have HQ := Lib.hid (show shortRet s = shortOf (shortS s) by unfold shortRet; rw [if_neg (by simp [h0])])
    rw [HQ.out]
    clear hbw hW0 hH hS h0
    obtain ⟨Ap, cp, Ab, cb⟩ := L
    go_enter Try.func59, Try.ntmps59
    go_upto_region 1 with (fail)
    have e := HW0.out
    rw [e]
    clear e
    go_upto_region 5 with (first
      | (go_at_call 52; refine HK.out.mono ?_; rintro e w1 ⟨rfl, hb1⟩; have B1 := Lib.hid hb1; obtain ⟨r0, r1, r2, r3⟩ := (HB.out.of (hb1.block _ HB.out.lt)).cells; clear hb1)
      | (go_at_call 81; refine (HN.out w1 (HH.out.below B1.out)).mono ?_; rintro e w3 ⟨⟨An, cn, rfl, hIn⟩, hb3⟩; have B3 := Lib.hid (hb0to B1.out hb3); have HI3 := Lib.hid hIn; clear hb3 hIn))
    clear c0 c1 c2 c3 r0 r1 r2 r3
    go_wp2_with (fail)
    go_loopw [6] (fun v wr => ∃ mn : Nat, (1 ≤ mn ∧ mn ≤ s.ps.length + 1) ∧ v = .int .i64 mn ∧ Hid (allTo s mn) ∧ Hid (Below w3.heap.size w3 wr)) (fun v _ => s.ps.length + 1 - (intOf v).toNat)
    case atStart => exact ⟨1, ⟨Nat.le_refl _, by omega⟩, rfl, Lib.hid (allTo_one s), Lib.hid (Below.refl _ _)⟩
    case round =>
      obtain ⟨wo, rfl⟩ : ∃ x : World, x = wr := ⟨_, rfl⟩
      obtain ⟨mn, ⟨hm1, hm2⟩, rfl, hall, hb⟩ := hrel
      have HBo := Lib.hid (hb0to B3.out hb.out)
      obtain ⟨r0, r1, r2, r3⟩ := (HB.out.of (HBo.out.block _ HB.out.lt)).cells
      by_cases hlt : mn ≤ s.ps.length
      · have HLm := Lib.hid (HL.out mn (by omega) wo)
        have hlt' : (mn : Int) ≤ (s.ps.length : Int) := by omega
        have HFD := Lib.hid (fun k p => short_found (k := k) (p := p) HS.out hm1 hall.out)
        have HRI := Lib.hid (fun (p : List Int) (hp : p ∈ combR s.ps.length mn []) => show p ≠ [] ∧ riseB p s.ps.length = true by
          obtain ⟨h1, h2⟩ := comb_rise.1 hp
          refine ⟨fun e => ?_, h2⟩
          rw [e] at h1; simp at h1; omega)
        have HLE := Lib.hid (fun (p : List Int) (hp : p ∈ combR s.ps.length mn []) => (comb_rise.1 hp).1)
        have HNX := Lib.hid (fun h => allTo_next hall.out (s := s) (many := mn) h)
        have HRN := Lib.hid (fun k p h hp ho => rowTo_next (s := s) (many := mn) (k := k) (p := p) h hp ho)
        have HRZ := Lib.hid (rowTo_zero s mn)
        have hsm := combR_small (nb := s.ps.length) (n := mn) hpl (by omega) (f := []) (by rw [fromN_nil]; omega)
        obtain ⟨rs, hrs⟩ : ∃ rs, combR s.ps.length mn [] = rs := ⟨_, rfl⟩
        rw [hrs] at HLm HFD HRI HLE HNX hsm HRN
        clear hrs
        go_wp2_with (go_at_call 93; refine HLm.out.mono ?_; rintro e w5 ⟨⟨Ar, cr, rfl, hAr, hR⟩, hb5⟩; have B5 := Lib.hid (hb0to hb.out hb5); have HR5 := Lib.hid hR; clear hAr hR hb5)
        have B5o := Lib.hid (hb0to B3.out B5.out)
        have HJ5 := Lib.hid (HI3.out.below B5.out)
        go_loopw [8] (fun v wi => ∃ k : Nat, k ≤ rs.length ∧ v = .int .i64 k ∧ Hid (rowTo s mn k) ∧ Hid (Below w5.heap.size w5 wi)) (fun v _ => rs.length - (intOf v).toNat)
        case atStart => exact ⟨0, Nat.zero_le _, rfl, HRZ, Lib.hid (Below.refl _ _)⟩
        case round =>
          obtain ⟨k, hk, rfl, hrow, hbi⟩ := hrel
          have HBi := Lib.hid (hb0to B5o.out hbi.out)
          clear r0 r1 r2 r3
          obtain ⟨r0, r1, r2, r3⟩ := (HB.out.of (HBi.out.block _ HB.out.lt)).cells
          by_cases hlk : k < rs.length
          · obtain ⟨p, hp⟩ : ∃ p, rs[k]? = some p := ⟨_, List.getElem?_eq_getElem hlk⟩
            have HPM := Lib.hid (List.mem_of_getElem? hp)
            have HPK := Lib.hid hp
            obtain ⟨b, off, A', c', eA, hbl2, k1, _, k2⟩ := (HR5.out.below hbi.out (Nat.le_refl _)).at_ hp
            have hszr := hbi.out.size
            have K2 := Lib.hid (k2.keep (hi' := wr.heap.size) (Nat.le_refl _) (by omega) (fun _ _ _ _ => rfl))
            subst eA
            have hpn := (HRI.out p HPM.out).1
            have HPN := Lib.hid hpn
            have X23 := Lib.hid (fun z => H23.out p (HRI.out p HPM.out).1 (HRI.out p HPM.out).2 An A' cn c' (extB wr z) (ints_later (HJ5.out.below hbi.out).ints (extB_below wr z)) (ints_later K2.out.at_ (extB_below wr z)))
            have X22 := Lib.hid (fun n z => H22.out n (extB wr z) (HH.out.below (hb0to HBi.out (extB_below wr z))))
            have e0 := extB_cell r0
            have e1 := extB_cell r1
            have e2 := extB_cell r2
            have e3 := extB_cell r3
            have f1 := extB_cell k1
            have HF2 := Lib.hid (fun h => HFD.out k p hrow.out HPK.out h)
            have HRx := Lib.hid (fun h => HRN.out k p hrow.out HPK.out h)
            have HEP : Hid (enoughP s p ↔ ¬ ((canC s (leastL (needsL s) p) : Int) < (mn : Int))) := Lib.hid (by unfold enoughP; rw [HLE.out p HPM.out]; omega)
            clear hp k2 hpn
            generalize leastL (needsL s) p = ln at X23 HEP
            have X22l := Lib.hid (X22.out ln)
            generalize canC s ln = cn2 at X22l HEP
            by_cases hcn : (cn2 : Int) < (mn : Int)
            · have hdl : decide ((cn2 : Int) < (mn : Int)) = true := decide_eq_true hcn
              have hdn : decide (cn2 < mn) = true := decide_eq_true (by omega)
              have HF3 := Lib.hid (HF2.out (fun h => HEP.out.1 h hcn))
              clear hcn
              as_aux_lemma =>
              go_upto_region 12 with (fail)
              refine wp_region_ext (by kernel_rfl) (by kernel_rfl) ?_
              repeat (go_big_quiet_step (first
                | (go_at_call 23; exact ext_same (X23.out _))
                | (go_at_call 22; exact ext_call (X22l.out _))))
              refine wpQuiet_nil ?_
              rintro _ ⟨y1, rfl⟩
              have hk3 := f1 y1
              have HBe := Lib.hid (hb0to HBW.out (hb0to HBi.out (extB_below wr y1)))
              have HQ3 := Lib.hid (ints_in_from (B := w.heap.size) (K2.out.keep (hi' := (extB wr y1).heap.size) (Nat.le_refl _) (extB_below wr y1).size (fun b o _ hlt => (extB_below wr y1).cell (p := ⟨b, o, none⟩) hlt)) HPN.out (hb0to HBW.out HBo.out).size)
              clear e0 e1 e2 e3 f1 r0 r1 r2 r3 k1
              go_wp2_with (fail)
              go_ret2
              exact ⟨by rw [HF3.out.1]; unfold shortOf; rw [if_neg HF3.out.2]; exact ⟨A', c', rfl, HQ3.out⟩, HBe.out⟩
            · have hdl : decide ((cn2 : Int) < (mn : Int)) = false := decide_eq_false hcn
              have hdn : decide (cn2 < mn) = false := decide_eq_false (by omega)
              have HF3 := Lib.hid (HRx.out (HEP.out.2 hcn))
              clear hcn
              as_aux_lemma =>
              go_upto_region 12 with (fail)
              refine wp_region_ext (by kernel_rfl) (by kernel_rfl) ?_
              repeat (go_big_quiet_step (first
                | (go_at_call 23; exact ext_same (X23.out _))
                | (go_at_call 22; exact ext_call (X22l.out _))))
              refine wpQuiet_nil ?_
              rintro _ ⟨y1, rfl⟩
              have hb3 := Lib.hid (hb0to hbi.out (extB_below wr y1))
              clear e0 e1 e2 e3 f1 r0 r1 r2 r3 k1
              go_wp2_with (fail)
              go_roundw
              case rel => exact ⟨k + 1, by omega, by go_num, HF3, hb3⟩
              case measure => simp [intOf]; omega
          · obtain rfl : k = rs.length := by omega
            have HNx := Lib.hid (HNX.out hrow.out)
            go_wp2_with (fail)
            go_roundw
            case rel => exact ⟨mn + 1, ⟨by omega, by omega⟩, by go_num, HNx, Lib.hid (hb0to B5.out hbi.out)⟩
            case measure => simp [intOf]; omega
      · obtain rfl : mn = s.ps.length + 1 := by omega
        have HE := Lib.hid (short_end hall.out)
        have hlt' : decide (((s.ps.length + 1 : Nat) : Int) ≤ (s.ps.length : Int)) = false := decide_eq_false (by omega)
        go_wp2_with (fail)
        go_ret2
        exact ⟨by rw [HE.out]; exact listRet_nil, hb0to HBW.out HBo.out⟩
  · have HR := Lib.hid (show shortRet s = ([], askS s true) by unfold shortRet; rw [if_pos h0])
    have hd : (askS s true != 0) = true := by simp [h0]
    rw [HR.out]
    generalize askS s true = er at HK hd
    clear hbw hW0 hH h0
    obtain ⟨Ap, cp, Ab, cb⟩ := L
    go_enter Try.func59, Try.ntmps59
    go_upto_region 1 with (fail)
    have e := HW0.out
    rw [e]
    clear e
    go_wp2_with (go_at_call 52; refine HK.out.mono ?_; rintro e w1 ⟨rfl, hb1⟩; have B1 := Lib.hid hb1; clear hb1)
    go_ret2
    exact ⟨listRet_nil, hb0to HBW.out B1.out⟩
end Go.Proofs.Ytgjpllmmpclgaaa
