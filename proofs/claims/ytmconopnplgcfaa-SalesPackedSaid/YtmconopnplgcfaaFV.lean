import Derived.Test.YtmconopnplgcfaaFT
import Derived.Test.YtmconopnplgcfaaFQ
namespace Go.Proofs.Ytmconopnplgcfaa
open Go.RowKit

/-! The specification's Repack 63. -/
theorem FOK.pack {f : Fair} (h : FOK f) {p : List Int} (hg : goodB f.h p = true) : FOK (packF f p) := ⟨h.h, hg, h.d0, h.d1, h.n0, h.n1, h.ql, h.bl, h.who, h.pay, h.ne, h.bar⟩
theorem FN.pack {f : Fair} (h : FN f) {p : List Int} (hp : p.length ≤ 1000) : FN (packF f p) := ⟨h.h, hp, h.q, h.b⟩
theorem good_len {h : House} {p : List Int} (hg : goodB h p = true) : p.length = h.ps.length := (goodB_parts hg).1
theorem gP_nonneg {f : Fair} (hf : FOK f) (p : List Int) : 0 ≤ gP f p := by
  unfold gP
  rw [mostV_win hf.ql hf.pos]
  exact brings_nonneg hf.pos _
theorem bestP_next {f : Fair} {st : List Int × Int} {R : List (List Int)} {k : Nat} {p : List Int} (hk : R[k]? = some p) : bestP f st (R.take (k + 1)) = stepP f (bestP f st (R.take k)) p := by
  rw [← take_snoc_next hk, bestP_app, bestP_one]
theorem good_self {f : Fair} (hf : FOK f) : f.pk ∈ packsF f f.pk.length [] :=
  mem_packsF.2 ⟨f.pk, rfl, rfl, (goodB_parts hf.p).2.1, hf.p⟩
set_option maxRecDepth 100000 in
set_option maxHeartbeats 4000000 in
theorem rRepack_any (F : FL) (f : Fair) (hn : FN f) (hok : FLOK F f) (hc : f.h.bs.length ^ f.pk.length ≤ 1000 ∨ validF f = false) (w : World) (hF : FairAt w w.heap.size F f) : Calls Try.prog 63 #[F.enc f] w fun e w' => ListIn (repRet f) w.heap.size w' e ∧ Below w.heap.size w w' := by
  have hbw := al_below w (.cells #[.slice F.L.Ak f.h.ks.length F.L.ck, .int .i64 f.h.fl, .slice F.L.Ap f.h.ps.length F.L.cp, .slice F.L.Ab f.h.bs.length F.L.cb, .slice F.Ap f.pk.length F.cp, .int .i64 f.day, .int .i64 f.nb, .slice F.Aq f.q.length F.cq] 29)
  have HB := Lib.hid (FBox.new w F f)
  obtain ⟨c0, c1, c2, c3, c4, c5, c6, c7⟩ := (FBox.new w F f).cells
  obtain ⟨W0, hW0⟩ : ∃ W0, w.alloc (.cells #[.slice F.L.Ak f.h.ks.length F.L.ck, .int .i64 f.h.fl, .slice F.L.Ap f.h.ps.length F.L.cp, .slice F.L.Ab f.h.bs.length F.L.cb, .slice F.Ap f.pk.length F.cp, .int .i64 f.day, .int .i64 f.nb, .slice F.Aq f.q.length F.cq] 29) = W0 := ⟨_, rfl⟩
  rw [hW0] at hbw HB c0 c1 c2 c3 c4 c5 c6 c7
  have HBW := Lib.hid hbw
  have HW0 := Lib.hid hW0
  have HF := Lib.hid (hF.below hbw)
  clear hbw hW0 hF
  have HC := Lib.hid (rcheckF_any F f hn W0 HF.out)
  cases hv : validF f
  · rw [ckF_no hv] at HC
    have HQ := Lib.hid (show repRet f = ([], 90) from listRF_no (askF_bad true hv).symm (by omega))
    obtain ⟨L, Ap, cp, Aq, cq⟩ := F
    clear hv hn hok hc
    go_enter Try.func63, Try.ntmps63
    go_upto_region 1 with (fail)
    have e := HW0.out
    rw [e]
    clear e
    go_wp2_with (go_at_call 48; refine HC.out.mono ?_; rintro e w1 ⟨rfl, hb1⟩; have B1 := Lib.hid hb1; clear hb1)
    go_ret2
    exact ⟨by rw [HQ.out]; exact ⟨none, 0, rfl, fun _ => ⟨rfl, rfl⟩, .inl rfl⟩, hb0to HBW.out B1.out⟩
  · rw [ckF_yes hv] at HC
    have hf := FOK.of hv
    have HQ := Lib.hid (show repRet f = (repL f, 0) from listRF_ok (askF_yes hv))
    have hps := good_len hf.p
    have hc1 : (packsF f f.pk.length []).length ≤ 1000 := by
      rcases hc with h | h
      · exact Nat.le_trans (packsF_len f _ _) h
      · rw [hv] at h; cases h
    have hself := good_self hf
    have hmem : ∀ p ∈ packsF f f.pk.length [], p.length ≤ 1000 ∧ goodB f.h p = true := fun p hp => by
      obtain ⟨t, e, h1, h2, h3⟩ := mem_packsF.1 hp
      rw [List.nil_append] at e
      subst e
      exact ⟨by rw [h1]; exact hn.p, h3⟩
    have H97 := Lib.hid (fun W hW => packs_any F f (HOK.ofValid hf.h) f.pk.length hps.symm hn.p hn.h.2.2 f.pk.length [] 0 rfl (by simp) hc1 none 0 W0.heap.size W hW (fun _ => ⟨rfl, rfl⟩) (.inl rfl))
    have HRL := Lib.hid (show repL f = (bestP f ([], -1) (packsF f f.pk.length [])).1 from rfl)
    have HG0 := Lib.hid (fun p => gP_nonneg hf p)
    obtain ⟨R, hR⟩ : ∃ R, R = packsF f f.pk.length [] := ⟨_, rfl⟩
    rw [← hR] at hc1 hself hmem H97 HRL
    have H62 := Lib.hid (fun p hp A c hA W hW hI => packed62_any F f hn hok p hp A c hA W hW hI)
    have H79 := Lib.hid (fun p (hp : p ∈ R) F' W hW => mostOf_any F' (packF f p) (hn.pack (hmem p hp).1) (hf.pack (hmem p hp).2) W hW)
    have HM := Lib.hid hmem
    have HNX := Lib.hid (fun k p (h : R[k]? = some p) => bestP_next (f := f) (st := ([], -1)) h)
    have hpos : 0 < R.length := List.length_pos_of_mem hself
    clear hv hn hok hc hf hps hself hmem hR
    obtain ⟨L, Ap, cp, Aq, cq⟩ := F
    go_enter Try.func63, Try.ntmps63
    go_upto_region 1 with (fail)
    have e := HW0.out
    rw [e]
    clear e
    go_upto_region 5 with (first
      | (go_at_call 48; refine HC.out.mono ?_; rintro e w1 ⟨rfl, hb1⟩; have B1 := Lib.hid hb1; obtain ⟨g0, g1, g2, g3, g4, g5, g6, g7⟩ := (HB.out.of (hb1.block _ HB.out.lt)).cells; clear hb1)
      | (go_at_call 97; refine (H97.out w1 (HF.out.below B1.out) B1.out.size).mono ?_; rintro e w2 ⟨⟨A2, cc2, rfl, hA2, hR2⟩, hb2⟩; have B2 := Lib.hid (hb0to B1.out hb2); have HR2 := Lib.hid hR2; clear hb2 hA2 hR2))
    clear c0 c1 c2 c3 c4 c5 c6 c7 g0 g1 g2 g3 g4 g5 g6 g7
    go_wp2_with (fail)
    go_loopw [6, 7, 8] (fun j m i wr => ∃ (k jn : Nat) (bl : List Int) (bm : Int), k ≤ R.length ∧ i = .int .i64 (k : Int) ∧ j = .int .i64 (jn : Int) ∧ m = .int .i64 bm ∧ Hid (bestP f ([], -1) (R.take k) = (bl, bm)) ∧ Hid ((k = 0 ∧ jn = 0 ∧ bm = -1) ∨ R[jn]? = some bl) ∧ Hid (Below w2.heap.size w2 wr)) (fun _ _ i _ => R.length - (intOf i).toNat)
    case atStart => exact ⟨0, 0, [], -1, Nat.zero_le _, rfl, rfl, rfl, Lib.hid (by rw [List.take_zero, bestP_nil]), Lib.hid (.inl ⟨rfl, rfl, rfl⟩), Lib.hid (Below.refl _ _)⟩
    case round =>
      obtain ⟨k, jn, bl, bm, hk, rfl, rfl, rfl, HBE, HJ, hb⟩ := hrel
      have hbW := hb0to B2.out hb.out
      by_cases hlt : k < R.length
      · obtain ⟨p, hp⟩ : ∃ p, R[k]? = some p := ⟨_, List.getElem?_eq_getElem hlt⟩
        obtain ⟨b4, o4, A4, c4, eA, b4lt, t4, hA4, hI4⟩ := HR2.out.at_ hp
        subst eA
        have t5 := below_cell hb.out t4
        obtain ⟨g0, g1, g2, g3, g4, g5, g6, g7⟩ := (HB.out.of (hbW.block _ HB.out.lt)).cells
        have HBr := Lib.hid hbW
        have hmp := HM.out p (List.mem_of_getElem? hp)
        have H62p := Lib.hid (fun W (hX : Below wr.heap.size wr W) => H62.out p hmp.1 A4 c4 hA4 W (HF.out.below (hb0to hbW hX)) (ints_later (ints_later hI4.at_ hb.out) hX))
        have H79p := Lib.hid (fun F' W hW => H79.out p (List.mem_of_getElem? hp) F' W hW)
        have HS := Lib.hid (HNX.out k p hp)
        have hg0 := HG0.out p
        have HE := Lib.hid (show mostV (packF f p).q (rdF (packF f p)) = gP f p from rfl)
        rw [HE.out] at H79p
        have HS : Hid (bestP f ([], -1) (R.take (k + 1)) = if bm < gP f p then (p, gP f p) else (bl, bm)) := Lib.hid (by rw [HS.out, HBE.out]; rfl)
        have HP := Lib.hid hp
        have T5 := Lib.hid t5
        clear HE hmp hA4 hI4 t4 hbW hp
        generalize gP f p = g at H79p HS hg0
        by_cases hgt : bm < g
        · rw [if_pos hgt] at HS
          have hd : decide (bm < g) = true := decide_eq_true hgt
          clear hgt hg0
          go_wp2_with (fail)
          go_region_held3 (fun w' => w'.cell? ⟨w.heap.size, 0, none⟩ = some (.slice L.Ak f.h.ks.length L.ck) ∧ w'.cell? ⟨w.heap.size, 1, none⟩ = some (.int .i64 f.h.fl) ∧ w'.cell? ⟨w.heap.size, 2, none⟩ = some (.slice L.Ap f.h.ps.length L.cp) ∧ w'.cell? ⟨w.heap.size, 3, none⟩ = some (.slice L.Ab f.h.bs.length L.cb) ∧ w'.cell? ⟨w.heap.size, 4, none⟩ = some (.slice Ap f.pk.length cp) ∧ w'.cell? ⟨w.heap.size, 5, none⟩ = some (.int .i64 f.day) ∧ w'.cell? ⟨w.heap.size, 6, none⟩ = some (.int .i64 f.nb) ∧ w'.cell? ⟨w.heap.size, 7, none⟩ = some (.slice Aq f.q.length cq) ∧ w'.cell? ⟨b4, o4 + k, none⟩ = some (.slice A4 p.length c4)) (first | go_keep)
            (first
              | (have hg9 := HG2.out; clear HG2; go_at_call 79; refine (H79p.out _ w3 hg9).mono ?_; rintro e w4 ⟨rfl, hb9⟩; have B3 := Lib.hid (hb0to B9.out hb9); obtain ⟨g0, g1, g2, g3, g4, g5, g6, g7⟩ := (HB.out.of ((hb0to B2.out B3.out).block _ HB.out.lt)).cells; have t5 := below_cell (hb0to BR.out hb9) T5.out; clear hg9 hb9)
              | (go_at_call 62; refine (H62p.out _ (by first | exact Below.refl _ _ | exact drew_below _)).mono ?_; rintro e w3 ⟨⟨⟨⟨k1, k2, k3, k4, k5, k6⟩, k7, k8, k9, k10⟩, rfl, hcf, hq⟩, hb9⟩; have BR : Hid (Below wr.heap.size wr w3) := Lib.hid (by first | exact hb9 | exact hb0to (drew_below _) hb9); have B9 := Lib.hid (hb0to hb.out BR.out); have HG2 := Lib.hid (CopRet.fair hcf hq).1; obtain ⟨g0, g1, g2, g3, g4, g5, g6, g7⟩ := (HB.out.of ((hb0to B2.out B9.out).block _ HB.out.lt)).cells; have t5 := below_cell BR.out T5.out; clear hcf hq hb9))
          all_goals
            go_wp2_with (fail)
            go_roundw
            case rel => exact ⟨k + 1, k, p, g, by omega, by go_num, rfl, rfl, HS, Lib.hid (.inr HP.out), B3⟩
            case measure => simp [intOf]; omega
        · rw [if_neg hgt] at HS
          have hd : decide (bm < g) = false := decide_eq_false hgt
          have HJ2 : Hid (R[jn]? = some bl) := Lib.hid (by rcases HJ.out with ⟨_, _, e⟩ | h; (exfalso; omega); exact h)
          clear hgt hg0
          go_wp2_with (fail)
          go_region_held3 (fun w' => w'.cell? ⟨w.heap.size, 0, none⟩ = some (.slice L.Ak f.h.ks.length L.ck) ∧ w'.cell? ⟨w.heap.size, 1, none⟩ = some (.int .i64 f.h.fl) ∧ w'.cell? ⟨w.heap.size, 2, none⟩ = some (.slice L.Ap f.h.ps.length L.cp) ∧ w'.cell? ⟨w.heap.size, 3, none⟩ = some (.slice L.Ab f.h.bs.length L.cb) ∧ w'.cell? ⟨w.heap.size, 4, none⟩ = some (.slice Ap f.pk.length cp) ∧ w'.cell? ⟨w.heap.size, 5, none⟩ = some (.int .i64 f.day) ∧ w'.cell? ⟨w.heap.size, 6, none⟩ = some (.int .i64 f.nb) ∧ w'.cell? ⟨w.heap.size, 7, none⟩ = some (.slice Aq f.q.length cq) ∧ w'.cell? ⟨b4, o4 + k, none⟩ = some (.slice A4 p.length c4)) (first | go_keep)
            (first
              | (have hg9 := HG2.out; clear HG2; go_at_call 79; refine (H79p.out _ w3 hg9).mono ?_; rintro e w4 ⟨rfl, hb9⟩; have B3 := Lib.hid (hb0to B9.out hb9); obtain ⟨g0, g1, g2, g3, g4, g5, g6, g7⟩ := (HB.out.of ((hb0to B2.out B3.out).block _ HB.out.lt)).cells; have t5 := below_cell (hb0to BR.out hb9) T5.out; clear hg9 hb9)
              | (go_at_call 62; refine (H62p.out _ (by first | exact Below.refl _ _ | exact drew_below _)).mono ?_; rintro e w3 ⟨⟨⟨⟨k1, k2, k3, k4, k5, k6⟩, k7, k8, k9, k10⟩, rfl, hcf, hq⟩, hb9⟩; have BR : Hid (Below wr.heap.size wr w3) := Lib.hid (by first | exact hb9 | exact hb0to (drew_below _) hb9); have B9 := Lib.hid (hb0to hb.out BR.out); have HG2 := Lib.hid (CopRet.fair hcf hq).1; obtain ⟨g0, g1, g2, g3, g4, g5, g6, g7⟩ := (HB.out.of ((hb0to B2.out B9.out).block _ HB.out.lt)).cells; have t5 := below_cell BR.out T5.out; clear hcf hq hb9))
          all_goals
            go_wp2_with (fail)
            go_roundw
            case rel => exact ⟨k + 1, jn, bl, bm, by omega, by go_num, rfl, rfl, HS, Lib.hid (.inr HJ2.out), B3⟩
            case measure => simp [intOf]; omega
      · have hke : k = R.length := by omega
        have HJ2 : R[jn]? = some bl := by rcases HJ.out with ⟨e, _, _⟩ | h; (exfalso; omega); exact h
        have hj := (List.getElem?_eq_some_iff.1 HJ2).1
        have hj2 : (jn : Int) < (R.length : Int) := by omega
        have HB2 := HBE.out
        rw [hke, List.take_length] at HB2
        have HL2 : Hid (repL f = bl) := Lib.hid (by rw [HRL.out, HB2])
        obtain ⟨b4, o4, A4, c4, eA, b4lt, t4, hA4, hI4⟩ := HR2.out.at_ HJ2
        subst eA
        have t5 := below_cell hb.out t4
        have HA4 := Lib.hid hA4
        have HI4 := Lib.hid hI4
        have HBr := Lib.hid hbW
        subst hke
        clear HB2 HJ2 t4 hA4 hI4 hbW
        go_wp2_with (fail)
        go_ret2
        refine ⟨?_, hb0to HBW.out HBr.out⟩
        rw [HQ.out, HL2.out]
        exact ⟨A4, c4, rfl, HA4.out, HI4.out.keep HBW.out.size hb.out.size fun b o h1 h2 => hb.out.cell (p := ⟨b, o, none⟩) h2⟩

end Go.Proofs.Ytmconopnplgcfaa
