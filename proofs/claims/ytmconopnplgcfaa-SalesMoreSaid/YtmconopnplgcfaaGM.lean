import Derived.Test.YtmconopnplgcfaaPP
namespace Go.Proofs.Ytmconopnplgcfaa
open Go.RowKit

/-! SalesMore. -/
structure MIn (W : World) (b : Nat) (F : FL) (f : Fair) (A : Option Addr) (c : Nat) (bd : Bid) : Prop where
  H : FairAt W W.heap.size F f
  x : FBox W b F f
  y : BBox W (b + 1) A c bd
  I : IntsAt W W.heap.size A bd.bar
theorem chainM {n m : Nat} {w X W : World} (_ : Below m X W) (h : Below n w X) : Below n w X := h
theorem MIn.next {W W' : World} {b : Nat} {F : FL} {f : Fair} {A : Option Addr} {c : Nat} {bd : Bid} (h : MIn W b F f A c bd) (hb : Below W.heap.size W W') : MIn W' b F f A c bd := ⟨h.H.below hb, h.x.of (hb.block _ h.x.lt), h.y.of (hb.block _ h.y.lt), ints_later h.I hb⟩
def moreF (f : Fair) (b : Bid) : Fair := { f with q := f.q ++ [b] }
def MoreIs (W : World) (z : Nat) (g : Fair) (s : Value) (wx : World) : Prop := s = .pointer (some ⟨z, 0, none⟩) ∧ ∃ F', FBox wx z F' g ∧ FairAt wx wx.heap.size F' g ∧ Below W.heap.size W wx
theorem moreIs_mk {W Wz X w5 : World} {z : Nat} {f : Fair} {bd : Bid} {F : FL} {A5 : Option Addr} {k5 : Nat} (h1 : CBox w5 z F f (.slice F.Aq f.q.length F.cq)) (h2 : CopF w5 W.heap.size F f) (h3 : OwnsQ InnOwn w5 W.heap.size (.slice A5 (f.q ++ [bd]).length k5) (f.q ++ [bd]))
    (hx : Below W.heap.size X w5) (hz : Below Wz.heap.size Wz X) (hw : Below W.heap.size W Wz) (hn : W.heap.size ≤ z) : MoreIs W z (moreF f bd) (.pointer (some ⟨z, 0, none⟩)) (w5.setCell ⟨z, 7, none⟩ (.slice A5 (f.q.length + 1) k5)) := by
  have e := h1.set7 (.slice A5 (f.q.length + 1) k5)
  have hl : (moreF f bd).q.length = f.q.length + 1 := by simp [moreF]
  have c2 := h2.set (o := 7) (u := .slice A5 (f.q.length + 1) k5) h1 (by decide) (by decide) (by decide)
  have c3 := h3.keepO (KeepT.set (o := 7) (u := .slice A5 (f.q.length + 1) k5) h1 (by decide)) (KeepT.set (o := 7) (u := .slice A5 (f.q.length + 1) k5) h1 (by decide))
  obtain ⟨A, c, eq, -, hB, -⟩ := c3.layO
  injection eq with e1 e2 e3
  subst e1
  refine ⟨rfl, ⟨F.L, F.Ap, F.cp, A5, k5⟩, ?_, ⟨c2.h.house, (ints_at c2.p).1.at_, hB⟩, ((hw.trans (hz.mono hw.size)).trans hx).setCell (p := ⟨z, 7, none⟩) hn _⟩
  unfold FBox
  rw [hl]
  exact e
set_option maxRecDepth 100000 in
set_option maxHeartbeats 4000000 in
theorem more_law (F : FL) (f : Fair) (A : Option Addr) (c : Nat) (bd : Bid) (hA : A = none → c = 0 ∧ bd.bar = []) (a : Int) (w : World) (hok : FLOK F f) (hF : FairAt w w.heap.size F f) (hI : IntsAt w w.heap.size A bd.bar) :
    Calls Try.prog 7 #[F.enc f, .agg #[.int .i64 bd.who, .slice A bd.bar.length c, .int .i64 bd.pay], .int .i64 a] w fun e w' => e = .returned (.bool true) ∧ Below w.heap.size w w' := by
  obtain ⟨W0, hW0⟩ : ∃ W0, (w.alloc (.cells #[.slice F.L.Ak f.h.ks.length F.L.ck, .int .i64 f.h.fl, .slice F.L.Ap f.h.ps.length F.L.cp, .slice F.L.Ab f.h.bs.length F.L.cb, .slice F.Ap f.pk.length F.cp, .int .i64 f.day, .int .i64 f.nb, .slice F.Aq f.q.length F.cq] 29)).alloc (.cells #[.int .i64 bd.who, .slice A bd.bar.length c, .int .i64 bd.pay] 38) = W0 := ⟨_, rfl⟩
  have hbw : Below w.heap.size w W0 := by rw [← hW0]; exact hb0to (al_below _ _) (al_below _ _)
  have hx0 : FBox W0 w.heap.size F f := (FBox.new w F f).of (by rw [← hW0]; exact Below.heap_alloc _ _ _ (by simp))
  have hy0 : BBox W0 (w.heap.size + 1) A c bd := by rw [← hW0]; exact heap_new2 _ _ _
  have HW0 := Lib.hid hW0
  have HBW := Lib.hid hbw
  have HF := Lib.hid (hF.below hbw)
  have M := Lib.hid (MIn.mk (hF.below hbw) hx0 hy0 (ints_later hI hbw))
  have B := Lib.hid (Below.refl W0.heap.size W0)
  have HA := Lib.hid hA
  obtain ⟨c0, c1, c2, c3, c4, c5, c6, c7⟩ := hx0.cells
  obtain ⟨c8, c9, c10⟩ := hy0.cells
  clear hW0 hbw hx0 hy0 hF hI hA
  have H16 := Lib.hid (fun W hW => readyF_any F f W hW)
  cases hr : readyB9 f
  · rw [hr] at H16
    clear hok hr
    obtain ⟨L, Ap, cp, Aq, cq⟩ := F
    go_enter Try.func7, Try.ntmps7
    go_upto_region 1 with (fail)
    have e := HW0.out
    rw [e]
    clear e

    go_wp2_with (first
      | (go_at_call 16; refine (H16.out _ M.out.H).mono ?_; rintro e wn ⟨rfl, hb⟩; have MN := Lib.hid (M.out.next hb); have BN := Lib.hid (hb0to B.out hb); have M := MN; have B := BN; clear MN BN; obtain ⟨r0, r1, r2, r3, r4, r5, r6, r7⟩ := M.out.x.cells; obtain ⟨s0, s1, s2⟩ := M.out.y.cells; (first | (have NN := Lib.hid (N.out.next hb); have N := NN; clear NN; obtain ⟨q0, q1, q2, q3, q4, q5, q6, q7⟩ := N.out.x.cells) | skip); clear H16; clear hb)
      | (go_at_call 19; refine (works_any _).mono ?_; rintro e wn ⟨rfl, hb⟩; have MN := Lib.hid (M.out.next hb); have BN := Lib.hid (hb0to B.out hb); have M := MN; have B := BN; clear MN BN; obtain ⟨r0, r1, r2, r3, r4, r5, r6, r7⟩ := M.out.x.cells; obtain ⟨s0, s1, s2⟩ := M.out.y.cells; (first | (have NN := Lib.hid (N.out.next hb); have N := NN; clear NN; obtain ⟨q0, q1, q2, q3, q4, q5, q6, q7⟩ := N.out.x.cells) | skip); clear hb))
    go_ret
    exact ⟨rfl, hb0to HBW.out B.out⟩
  · rw [hr] at H16
    obtain ⟨hh, hv⟩ := readyB9_iff.1 hr
    have hf := FOK.of hv
    have hn := hugeF_fn hh
    clear hr hh
    by_cases h40 : 40 < bd.bar.length
    · have d1 : decide ((40 : Int) < (bd.bar.length : Int)) = true := decide_eq_true (by omega)
      clear hf hn hv hok
      obtain ⟨L, Ap, cp, Aq, cq⟩ := F
      go_enter Try.func7, Try.ntmps7
      go_upto_region 1 with (fail)
      have e := HW0.out
      rw [e]
      clear e

      go_wp2_with (first
        | (go_at_call 16; refine (H16.out _ M.out.H).mono ?_; rintro e wn ⟨rfl, hb⟩; have MN := Lib.hid (M.out.next hb); have BN := Lib.hid (hb0to B.out hb); have M := MN; have B := BN; clear MN BN; obtain ⟨r0, r1, r2, r3, r4, r5, r6, r7⟩ := M.out.x.cells; obtain ⟨s0, s1, s2⟩ := M.out.y.cells; (first | (have NN := Lib.hid (N.out.next hb); have N := NN; clear NN; obtain ⟨q0, q1, q2, q3, q4, q5, q6, q7⟩ := N.out.x.cells) | skip); clear H16; clear hb)
        | (go_at_call 19; refine (works_any _).mono ?_; rintro e wn ⟨rfl, hb⟩; have MN := Lib.hid (M.out.next hb); have BN := Lib.hid (hb0to B.out hb); have M := MN; have B := BN; clear MN BN; obtain ⟨r0, r1, r2, r3, r4, r5, r6, r7⟩ := M.out.x.cells; obtain ⟨s0, s1, s2⟩ := M.out.y.cells; (first | (have NN := Lib.hid (N.out.next hb); have N := NN; clear NN; obtain ⟨q0, q1, q2, q3, q4, q5, q6, q7⟩ := N.out.x.cells) | skip); clear hb))
      go_ret
      exact ⟨rfl, hb0to HBW.out B.out⟩
    · have d1 : decide ((40 : Int) < (bd.bar.length : Int)) = false := decide_eq_false (by omega)
      have H25 := Lib.hid (fun W hW => mostF_any F f hn hv W hW)
      have H33 := Lib.hid (fun W hW => copy_line F f hn hok W hW)
      have H34 := Lib.hid (fun W hW => copyBid_any A c bd HA.out (by omega) W hW)
      have H35 := Lib.hid (fun W => rIsBid_any F f a hn.q W)
      have H16g := Lib.hid (fun G W hW => readyF_any G (moreF f bd) W hW)
      have H25g : readyB9 (moreF f bd) = true → ∃ mg, mW f ≤ mg ∧ Hid (∀ G W, FairAt W W.heap.size G (moreF f bd) → Calls Try.prog 25 #[G.enc (moreF f bd)] W fun e w' => e = .returned (.int .i64 mg) ∧ Below W.heap.size W w') := fun hro => by
        obtain ⟨hh2, hv2⟩ := readyB9_iff.1 hro
        have hg := FOK.of hv2
        refine ⟨mW (moreF f bd), most_more bd (mostV_is hf.ql hf.pos') (mostV_is (rd := rdF (moreF f bd)) hg.ql hg.pos'), Lib.hid fun G W hW => mostF_any G _ (hugeF_fn hh2) hv2 W hW⟩
      have hmb := mW_bd hf
      have hql := hf.ql
      have d2 : decide (mW f < 0) = false := decide_eq_false (by omega)
      cases hb1 : isBid f a
      · rw [hb1] at H35
        generalize mW f = n at H25 H25g hmb d2
        clear hf hn hv hok h40 hb1
        obtain ⟨L, Ap, cp, Aq, cq⟩ := F
        as_aux_lemma =>
          go_enter Try.func7, Try.ntmps7
          go_upto_region 1 with (fail)
          have e := HW0.out
          rw [e]
          clear e

          go_upto_region 7 with (first
            | (go_at_call 16; refine (H16.out _ M.out.H).mono ?_; rintro e wn ⟨rfl, hb⟩; have MN := Lib.hid (M.out.next hb); have BN := Lib.hid (hb0to B.out hb); have M := MN; have B := BN; clear MN BN; obtain ⟨r0, r1, r2, r3, r4, r5, r6, r7⟩ := M.out.x.cells; obtain ⟨s0, s1, s2⟩ := M.out.y.cells; (first | (have NN := Lib.hid (N.out.next hb); have N := NN; clear NN; obtain ⟨q0, q1, q2, q3, q4, q5, q6, q7⟩ := N.out.x.cells) | skip); clear H16; clear hb)
            | (go_at_call 25; refine (H25.out _ M.out.H).mono ?_; rintro e wn ⟨rfl, hb⟩; have MN := Lib.hid (M.out.next hb); have BN := Lib.hid (hb0to B.out hb); have M := MN; have B := BN; clear MN BN; obtain ⟨r0, r1, r2, r3, r4, r5, r6, r7⟩ := M.out.x.cells; obtain ⟨s0, s1, s2⟩ := M.out.y.cells; (first | (have NN := Lib.hid (N.out.next hb); have N := NN; clear NN; obtain ⟨q0, q1, q2, q3, q4, q5, q6, q7⟩ := N.out.x.cells) | skip); clear H25; clear hb)
            | (go_at_call 33; refine (H33.out _ M.out.H).mono ?_; rintro e w2 ⟨⟨⟨⟨k1, k2, k3, k4, k5, k6⟩, k7, k8, k9, k10⟩, rfl, hcf, hq⟩, hb⟩; have M2 := Lib.hid (M.out.next hb); have BA2 := Lib.hid hb; have swn := hb.size; have HCF := Lib.hid hcf; have HQ := Lib.hid hq; clear hb hcf hq))
          obtain ⟨Wz, hWz⟩ : ∃ W, w2.alloc (.cells #[.slice k1 f.h.ks.length k2, .int .i64 f.h.fl, .slice k3 f.h.ps.length k4, .slice k5 f.h.bs.length k6, .slice k7 f.pk.length k8, .int .i64 f.day, .int .i64 f.nb, .slice k9 f.q.length k10] 29) = W := ⟨_, rfl⟩
          have hz : Wz.heap[w2.heap.size]? = some (.cells #[.slice k1 f.h.ks.length k2, .int .i64 f.h.fl, .slice k3 f.h.ps.length k4, .slice k5 f.h.bs.length k6, .slice k7 f.pk.length k8, .int .i64 f.day, .int .i64 f.nb, .slice k9 f.q.length k10] 29) := by rw [← hWz]; exact heap_new1 _ _
          have hbz : Below w2.heap.size w2 Wz := by rw [← hWz]; exact al_below _ _
          rw [hWz]
          have HZ := Lib.hid (show CBox Wz w2.heap.size ⟨⟨k1, k2, k3, k4, k5, k6⟩, k7, k8, k9, k10⟩ f (.slice k9 f.q.length k10) from hz)
          have HG := Lib.hid (HCF.out.below hbz)
          have HQZ := Lib.hid (HQ.out.belowO hbz)
          have MZ := Lib.hid (M2.out.next hbz)
          have BZ := Lib.hid hbz
          have hwz : w.heap.size + 1 < w2.heap.size := M2.out.y.lt
          have hzz : w2.heap.size < Wz.heap.size := heap_lt hz
          have hz1 : ¬ w2.heap.size = w.heap.size := by omega
          have hz2 : ¬ w.heap.size = w2.heap.size := by omega
          have hz3 : ¬ w2.heap.size = w.heap.size + 1 := by omega
          have hz4 : ¬ w.heap.size + 1 = w2.heap.size := by omega
          obtain ⟨q0, q1, q2, q3, q4, q5, q6, q7⟩ := HZ.out.cells
          have zf := frozen_of_heap HZ.out
          obtain ⟨s0, s1, s2⟩ := MZ.out.y.cells
          have hqq := hql
          clear hz hbz hWz HCF HQ r0 r1 r2 r3 r4 r5 r6 r7 q0 q1 q2 q3 q4 q5 q6
          go_cut [8] (fun s wx => MoreIs wn w2.heap.size (moreF f bd) s wx)
          case first =>
            go_region_law
              (first
                | (refine step_appQ (by rfl) (.tmp 29) (.tmp 32) (by rfl) InnOwn wn.heap.size (.slice k9 f.q.length k10) f.q (by rfl) (HQZ.out.belowO (by first | exact hb0to B1.out (al_below _ _) | exact hb0to B1.out (rows_below1 _ _))) w1.heap.size 1 bd Au cu (by rfl) (by simp [go_sem]) (by simp [go_sem]) (by simp [go_sem]) (by omega) (by simp; omega) (fun w' hb' hk' => ⟨Ints.keepT (Ints.keepT HU.out (KeepT.below (by first | exact al_below _ _ | exact rows_below1 _ _))) hk', fun u l hu => Ints.keepT hu hk'⟩) ?_; intro v5 w5 ho5 hb5 hk5; obtain ⟨A5, j5, rfl, -, -, -⟩ := ho5.layO; have hbX := chainM hb5 (n := Wz.heap.size) (w := Wz) (by first | exact hb0to B1.out (al_below _ _) | exact hb0to B1.out (rows_below1 _ _)); have BX := Lib.hid hbX; clear hbX; have HO5 := Lib.hid (show CBox w5 w2.heap.size ⟨⟨k1, k2, k3, k4, k5, k6⟩, k7, k8, k9, k10⟩ f (.slice k9 f.q.length k10) from hk5 29 (by decide) _ _ ((HZ.out.of (BX.out.block _ HZ.out.lt)))); have HG5 := Lib.hid ((HG.out.below BX.out).keepT (hk5 97 (by decide)) (hk5 99 (by decide)) (hk5 3 (by decide))); have HQ5 := Lib.hid ho5; have HB5 := Lib.hid (And.intro hb5 BX.out); have HK5 := Lib.hid hk5; have q7 := HO5.out.cells.2.2.2.2.2.2.2; have zf := frozen_of_heap HO5.out; clear ho5 hb5 hk5)
                | (go_simp; go_at_call 34; refine (H34.out _ (ints_later MZ.out.I (by first | exact Below.refl _ _ | exact al_below _ _ | exact hb0to (al_below _ _) (al_below _ _) | exact drew_below _ | exact rows_below1 _ _ | exact hb0to (al_below _ _) (rows_below1 _ _) | exact hb0to (drew_below _) (al_below _ _)))).mono ?_; rintro e w1 ⟨⟨u, rfl, hu⟩, hb1⟩; have B1 : Hid (Below Wz.heap.size Wz w1) := Lib.hid (by first | exact hb1 | exact hb0to (al_below _ _) hb1 | exact hb0to (hb0to (al_below _ _) (al_below _ _)) hb1 | exact hb0to (drew_below _) hb1 | exact hb0to (rows_below1 _ _) hb1 | exact hb0to (hb0to (al_below _ _) (rows_below1 _ _)) hb1); have HU := Lib.hid (Ints.mono hu (Nat.zero_le _)); obtain ⟨Au, cu, rfl, -, -, -⟩ := ints_slice hu; have q7 := (HZ.out.of (B1.out.block _ HZ.out.lt)).cells.2.2.2.2.2.2.2; have sz1 := B1.out.size; have zz1 : w2.heap.size < w1.heap.size := (by omega); have zz2 : ¬ w2.heap.size = w1.heap.size := (by omega); have zz3 : ¬ w1.heap.size = w2.heap.size := (by omega); clear hu hb1))
            all_goals
              go_wp2_with (fail)
              go_meet
              exact moreIs_mk (F := ⟨⟨k1, k2, k3, k4, k5, k6⟩, k7, k8, k9, k10⟩) HO5.out HG5.out HQ5.out HB5.out.1 HB5.out.2 (hb0to BA2.out BZ.out) (by omega)
          case rest =>
            obtain ⟨rfl, F', hN1, hN2, hbx⟩ := hcut
            obtain ⟨wx, rfl⟩ : ∃ x : World, x = wc := ⟨_, rfl⟩
            have MX := Lib.hid (M.out.next hbx)
            have BX := Lib.hid (hb0to B.out hbx)
            have M := MX
            have B := BX
            have N := Lib.hid (FIn.mk hN2 hN1)
            clear hN1 hN2 hbx M2 MX BX BA2 MZ BZ HZ HG HQZ s0 s1 s2 q7 zf H33 H34
            obtain ⟨⟨l1, l2, l3, l4, l5, l6⟩, l7, l8, l9, l10⟩ := F'
            obtain ⟨r0, r1, r2, r3, r4, r5, r6, r7⟩ := M.out.x.cells; obtain ⟨s0, s1, s2⟩ := M.out.y.cells
            obtain ⟨q0, q1, q2, q3, q4, q5, q6, q7⟩ := N.out.x.cells
            cases hro : readyB9 (moreF f bd)
            · rw [hro] at H16g
              clear H25g
              go_wp2_with (first
                | (have n9 := N.out; clear n9; go_at_call 16; refine (H16g.out _ _ N.out.H).mono ?_; rintro e wn ⟨rfl, hb⟩; have MN := Lib.hid (M.out.next hb); have BN := Lib.hid (hb0to B.out hb); have M := MN; have B := BN; clear MN BN; obtain ⟨r0, r1, r2, r3, r4, r5, r6, r7⟩ := M.out.x.cells; obtain ⟨s0, s1, s2⟩ := M.out.y.cells; (first | (have NN := Lib.hid (N.out.next hb); have N := NN; clear NN; obtain ⟨q0, q1, q2, q3, q4, q5, q6, q7⟩ := N.out.x.cells) | skip); clear hb)
                | (go_at_call 35; refine (H35.out _).mono ?_; rintro e wn ⟨rfl, hb⟩; have MN := Lib.hid (M.out.next hb); have BN := Lib.hid (hb0to B.out hb); have M := MN; have B := BN; clear MN BN; obtain ⟨r0, r1, r2, r3, r4, r5, r6, r7⟩ := M.out.x.cells; obtain ⟨s0, s1, s2⟩ := M.out.y.cells; (first | (have NN := Lib.hid (N.out.next hb); have N := NN; clear NN; obtain ⟨q0, q1, q2, q3, q4, q5, q6, q7⟩ := N.out.x.cells) | skip); clear hb)
                | (go_at_call 19; refine (works_any _).mono ?_; rintro e wn ⟨rfl, hb⟩; have MN := Lib.hid (M.out.next hb); have BN := Lib.hid (hb0to B.out hb); have M := MN; have B := BN; clear MN BN; obtain ⟨r0, r1, r2, r3, r4, r5, r6, r7⟩ := M.out.x.cells; obtain ⟨s0, s1, s2⟩ := M.out.y.cells; (first | (have NN := Lib.hid (N.out.next hb); have N := NN; clear NN; obtain ⟨q0, q1, q2, q3, q4, q5, q6, q7⟩ := N.out.x.cells) | skip); clear hb))
              go_ret
              exact ⟨rfl, hb0to HBW.out B.out⟩

            · rw [hro] at H16g
              obtain ⟨mg, hmg, H25g⟩ := H25g hro
              have d8 : decide (mg < n) = false := decide_eq_false (by omega)
              clear hmg
              go_wp2_with (first
                | (have n9 := N.out; clear n9; go_at_call 16; refine (H16g.out _ _ N.out.H).mono ?_; rintro e wn ⟨rfl, hb⟩; have MN := Lib.hid (M.out.next hb); have BN := Lib.hid (hb0to B.out hb); have M := MN; have B := BN; clear MN BN; obtain ⟨r0, r1, r2, r3, r4, r5, r6, r7⟩ := M.out.x.cells; obtain ⟨s0, s1, s2⟩ := M.out.y.cells; (first | (have NN := Lib.hid (N.out.next hb); have N := NN; clear NN; obtain ⟨q0, q1, q2, q3, q4, q5, q6, q7⟩ := N.out.x.cells) | skip); clear hb)
                | (have n9 := N.out; have n8 := H25g.out; clear n8 n9; go_at_call 25; refine (H25g.out _ _ N.out.H).mono ?_; rintro e wn ⟨rfl, hb⟩; have MN := Lib.hid (M.out.next hb); have BN := Lib.hid (hb0to B.out hb); have M := MN; have B := BN; clear MN BN; obtain ⟨r0, r1, r2, r3, r4, r5, r6, r7⟩ := M.out.x.cells; obtain ⟨s0, s1, s2⟩ := M.out.y.cells; (first | (have NN := Lib.hid (N.out.next hb); have N := NN; clear NN; obtain ⟨q0, q1, q2, q3, q4, q5, q6, q7⟩ := N.out.x.cells) | skip); clear H25g; clear hb)
                | (go_at_call 35; refine (H35.out _).mono ?_; rintro e wn ⟨rfl, hb⟩; have MN := Lib.hid (M.out.next hb); have BN := Lib.hid (hb0to B.out hb); have M := MN; have B := BN; clear MN BN; obtain ⟨r0, r1, r2, r3, r4, r5, r6, r7⟩ := M.out.x.cells; obtain ⟨s0, s1, s2⟩ := M.out.y.cells; (first | (have NN := Lib.hid (N.out.next hb); have N := NN; clear NN; obtain ⟨q0, q1, q2, q3, q4, q5, q6, q7⟩ := N.out.x.cells) | skip); clear hb)
                | (go_at_call 19; refine (works_any _).mono ?_; rintro e wn ⟨rfl, hb⟩; have MN := Lib.hid (M.out.next hb); have BN := Lib.hid (hb0to B.out hb); have M := MN; have B := BN; clear MN BN; obtain ⟨r0, r1, r2, r3, r4, r5, r6, r7⟩ := M.out.x.cells; obtain ⟨s0, s1, s2⟩ := M.out.y.cells; (first | (have NN := Lib.hid (N.out.next hb); have N := NN; clear NN; obtain ⟨q0, q1, q2, q3, q4, q5, q6, q7⟩ := N.out.x.cells) | skip); clear hb))
              go_ret
              exact ⟨rfl, hb0to HBW.out B.out⟩
      · rw [hb1] at H35
        have hab := inR_true.1 hb1
        obtain ⟨i, rfl⟩ := Int.eq_ofNat_of_zero_le hab.1
        have hil : i < f.q.length := by omega
        obtain ⟨x, hx⟩ : ∃ x, f.q[i]? = some x := ⟨_, List.getElem?_eq_getElem hil⟩
        have hxp := hf.pay x (List.mem_of_getElem? hx)
        by_cases h99 : x.pay = 99
        · have d3 : (x.pay == (99 : Int)) = true := beq_iff_eq.2 h99
          generalize mW f = n at H25 H25g hmb d2
          clear hf hn hv hok h40 hb1 h99 hab
          obtain ⟨L, Ap, cp, Aq, cq⟩ := F
          obtain ⟨bk, ok, A', c', rfl, hbk, x1, x2, x3, hA', hXI⟩ := HF.out.q.at_ hx
          have X3 := Lib.hid x3
          clear x1 x2 x3 hA' hXI hx
          as_aux_lemma =>
            go_enter Try.func7, Try.ntmps7
            go_upto_region 1 with (fail)
            have e := HW0.out
            rw [e]
            clear e

            go_upto_region 7 with (first
              | (go_at_call 16; refine (H16.out _ M.out.H).mono ?_; rintro e wn ⟨rfl, hb⟩; have MN := Lib.hid (M.out.next hb); have BN := Lib.hid (hb0to B.out hb); have M := MN; have B := BN; clear MN BN; obtain ⟨r0, r1, r2, r3, r4, r5, r6, r7⟩ := M.out.x.cells; obtain ⟨s0, s1, s2⟩ := M.out.y.cells; (first | (have NN := Lib.hid (N.out.next hb); have N := NN; clear NN; obtain ⟨q0, q1, q2, q3, q4, q5, q6, q7⟩ := N.out.x.cells) | skip); clear H16; clear hb)
              | (go_at_call 25; refine (H25.out _ M.out.H).mono ?_; rintro e wn ⟨rfl, hb⟩; have MN := Lib.hid (M.out.next hb); have BN := Lib.hid (hb0to B.out hb); have M := MN; have B := BN; clear MN BN; obtain ⟨r0, r1, r2, r3, r4, r5, r6, r7⟩ := M.out.x.cells; obtain ⟨s0, s1, s2⟩ := M.out.y.cells; (first | (have NN := Lib.hid (N.out.next hb); have N := NN; clear NN; obtain ⟨q0, q1, q2, q3, q4, q5, q6, q7⟩ := N.out.x.cells) | skip); clear H25; clear hb)
              | (go_at_call 33; refine (H33.out _ M.out.H).mono ?_; rintro e w2 ⟨⟨⟨⟨k1, k2, k3, k4, k5, k6⟩, k7, k8, k9, k10⟩, rfl, hcf, hq⟩, hb⟩; have M2 := Lib.hid (M.out.next hb); have BA2 := Lib.hid hb; have swn := hb.size; have HCF := Lib.hid hcf; have HQ := Lib.hid hq; clear hb hcf hq))
            obtain ⟨Wz, hWz⟩ : ∃ W, w2.alloc (.cells #[.slice k1 f.h.ks.length k2, .int .i64 f.h.fl, .slice k3 f.h.ps.length k4, .slice k5 f.h.bs.length k6, .slice k7 f.pk.length k8, .int .i64 f.day, .int .i64 f.nb, .slice k9 f.q.length k10] 29) = W := ⟨_, rfl⟩
            have hz : Wz.heap[w2.heap.size]? = some (.cells #[.slice k1 f.h.ks.length k2, .int .i64 f.h.fl, .slice k3 f.h.ps.length k4, .slice k5 f.h.bs.length k6, .slice k7 f.pk.length k8, .int .i64 f.day, .int .i64 f.nb, .slice k9 f.q.length k10] 29) := by rw [← hWz]; exact heap_new1 _ _
            have hbz : Below w2.heap.size w2 Wz := by rw [← hWz]; exact al_below _ _
            rw [hWz]
            have HZ := Lib.hid (show CBox Wz w2.heap.size ⟨⟨k1, k2, k3, k4, k5, k6⟩, k7, k8, k9, k10⟩ f (.slice k9 f.q.length k10) from hz)
            have HG := Lib.hid (HCF.out.below hbz)
            have HQZ := Lib.hid (HQ.out.belowO hbz)
            have MZ := Lib.hid (M2.out.next hbz)
            have BZ := Lib.hid hbz
            have hwz : w.heap.size + 1 < w2.heap.size := M2.out.y.lt
            have hzz : w2.heap.size < Wz.heap.size := heap_lt hz
            have hz1 : ¬ w2.heap.size = w.heap.size := by omega
            have hz2 : ¬ w.heap.size = w2.heap.size := by omega
            have hz3 : ¬ w2.heap.size = w.heap.size + 1 := by omega
            have hz4 : ¬ w.heap.size + 1 = w2.heap.size := by omega
            obtain ⟨q0, q1, q2, q3, q4, q5, q6, q7⟩ := HZ.out.cells
            have zf := frozen_of_heap HZ.out
            obtain ⟨s0, s1, s2⟩ := MZ.out.y.cells
            have hqq := hql
            clear hz hbz hWz HCF HQ r0 r1 r2 r3 r4 r5 r6 r7 q0 q1 q2 q3 q4 q5 q6
            go_cut [8] (fun s wx => MoreIs wn w2.heap.size (moreF f bd) s wx)
            case first =>
              go_region_law
                (first
                  | (refine step_appQ (by rfl) (.tmp 29) (.tmp 32) (by rfl) InnOwn wn.heap.size (.slice k9 f.q.length k10) f.q (by rfl) (HQZ.out.belowO (by first | exact hb0to B1.out (al_below _ _) | exact hb0to B1.out (rows_below1 _ _))) w1.heap.size 1 bd Au cu (by rfl) (by simp [go_sem]) (by simp [go_sem]) (by simp [go_sem]) (by omega) (by simp; omega) (fun w' hb' hk' => ⟨Ints.keepT (Ints.keepT HU.out (KeepT.below (by first | exact al_below _ _ | exact rows_below1 _ _))) hk', fun u l hu => Ints.keepT hu hk'⟩) ?_; intro v5 w5 ho5 hb5 hk5; obtain ⟨A5, j5, rfl, -, -, -⟩ := ho5.layO; have hbX := chainM hb5 (n := Wz.heap.size) (w := Wz) (by first | exact hb0to B1.out (al_below _ _) | exact hb0to B1.out (rows_below1 _ _)); have BX := Lib.hid hbX; clear hbX; have HO5 := Lib.hid (show CBox w5 w2.heap.size ⟨⟨k1, k2, k3, k4, k5, k6⟩, k7, k8, k9, k10⟩ f (.slice k9 f.q.length k10) from hk5 29 (by decide) _ _ ((HZ.out.of (BX.out.block _ HZ.out.lt)))); have HG5 := Lib.hid ((HG.out.below BX.out).keepT (hk5 97 (by decide)) (hk5 99 (by decide)) (hk5 3 (by decide))); have HQ5 := Lib.hid ho5; have HB5 := Lib.hid (And.intro hb5 BX.out); have HK5 := Lib.hid hk5; have q7 := HO5.out.cells.2.2.2.2.2.2.2; have zf := frozen_of_heap HO5.out; clear ho5 hb5 hk5)
                  | (go_simp; go_at_call 34; refine (H34.out _ (ints_later MZ.out.I (by first | exact Below.refl _ _ | exact al_below _ _ | exact hb0to (al_below _ _) (al_below _ _) | exact drew_below _ | exact rows_below1 _ _ | exact hb0to (al_below _ _) (rows_below1 _ _) | exact hb0to (drew_below _) (al_below _ _)))).mono ?_; rintro e w1 ⟨⟨u, rfl, hu⟩, hb1⟩; have B1 : Hid (Below Wz.heap.size Wz w1) := Lib.hid (by first | exact hb1 | exact hb0to (al_below _ _) hb1 | exact hb0to (hb0to (al_below _ _) (al_below _ _)) hb1 | exact hb0to (drew_below _) hb1 | exact hb0to (rows_below1 _ _) hb1 | exact hb0to (hb0to (al_below _ _) (rows_below1 _ _)) hb1); have HU := Lib.hid (Ints.mono hu (Nat.zero_le _)); obtain ⟨Au, cu, rfl, -, -, -⟩ := ints_slice hu; have q7 := (HZ.out.of (B1.out.block _ HZ.out.lt)).cells.2.2.2.2.2.2.2; have sz1 := B1.out.size; have zz1 : w2.heap.size < w1.heap.size := (by omega); have zz2 : ¬ w2.heap.size = w1.heap.size := (by omega); have zz3 : ¬ w1.heap.size = w2.heap.size := (by omega); clear hu hb1))
              all_goals
                go_wp2_with (fail)
                go_meet
                exact moreIs_mk (F := ⟨⟨k1, k2, k3, k4, k5, k6⟩, k7, k8, k9, k10⟩) HO5.out HG5.out HQ5.out HB5.out.1 HB5.out.2 (hb0to BA2.out BZ.out) (by omega)
            case rest =>
              obtain ⟨rfl, F', hN1, hN2, hbx⟩ := hcut
              obtain ⟨wx, rfl⟩ : ∃ x : World, x = wc := ⟨_, rfl⟩
              have MX := Lib.hid (M.out.next hbx)
              have BX := Lib.hid (hb0to B.out hbx)
              have M := MX
              have B := BX
              have N := Lib.hid (FIn.mk hN2 hN1)
              clear hN1 hN2 hbx M2 MX BX BA2 MZ BZ HZ HG HQZ s0 s1 s2 q7 zf H33 H34
              obtain ⟨⟨l1, l2, l3, l4, l5, l6⟩, l7, l8, l9, l10⟩ := F'
              obtain ⟨r0, r1, r2, r3, r4, r5, r6, r7⟩ := M.out.x.cells; obtain ⟨s0, s1, s2⟩ := M.out.y.cells
              obtain ⟨q0, q1, q2, q3, q4, q5, q6, q7⟩ := N.out.x.cells
              cases hro : readyB9 (moreF f bd)
              · rw [hro] at H16g
                clear H25g
                go_wp2_with (first
                  | (have n9 := N.out; clear n9; go_at_call 16; refine (H16g.out _ _ N.out.H).mono ?_; rintro e wn ⟨rfl, hb⟩; have MN := Lib.hid (M.out.next hb); have BN := Lib.hid (hb0to B.out hb); have M := MN; have B := BN; clear MN BN; obtain ⟨r0, r1, r2, r3, r4, r5, r6, r7⟩ := M.out.x.cells; obtain ⟨s0, s1, s2⟩ := M.out.y.cells; (first | (have NN := Lib.hid (N.out.next hb); have N := NN; clear NN; obtain ⟨q0, q1, q2, q3, q4, q5, q6, q7⟩ := N.out.x.cells) | skip); clear hb)
                  | (go_at_call 35; refine (H35.out _).mono ?_; rintro e wn ⟨rfl, hb⟩; have MN := Lib.hid (M.out.next hb); have BN := Lib.hid (hb0to B.out hb); have M := MN; have B := BN; clear MN BN; obtain ⟨r0, r1, r2, r3, r4, r5, r6, r7⟩ := M.out.x.cells; obtain ⟨s0, s1, s2⟩ := M.out.y.cells; (first | (have NN := Lib.hid (N.out.next hb); have N := NN; clear NN; obtain ⟨q0, q1, q2, q3, q4, q5, q6, q7⟩ := N.out.x.cells) | skip); have e3 := below_cell B.out X3.out; clear hb)
                  | (go_at_call 19; refine (works_any _).mono ?_; rintro e wn ⟨rfl, hb⟩; have MN := Lib.hid (M.out.next hb); have BN := Lib.hid (hb0to B.out hb); have M := MN; have B := BN; clear MN BN; obtain ⟨r0, r1, r2, r3, r4, r5, r6, r7⟩ := M.out.x.cells; obtain ⟨s0, s1, s2⟩ := M.out.y.cells; (first | (have NN := Lib.hid (N.out.next hb); have N := NN; clear NN; obtain ⟨q0, q1, q2, q3, q4, q5, q6, q7⟩ := N.out.x.cells) | skip); clear hb))
                go_ret
                exact ⟨rfl, hb0to HBW.out B.out⟩

              · rw [hro] at H16g
                obtain ⟨mg, hmg, H25g⟩ := H25g hro
                have d8 : decide (mg < n) = false := decide_eq_false (by omega)
                clear hmg
                go_wp2_with (first
                  | (have n9 := N.out; clear n9; go_at_call 16; refine (H16g.out _ _ N.out.H).mono ?_; rintro e wn ⟨rfl, hb⟩; have MN := Lib.hid (M.out.next hb); have BN := Lib.hid (hb0to B.out hb); have M := MN; have B := BN; clear MN BN; obtain ⟨r0, r1, r2, r3, r4, r5, r6, r7⟩ := M.out.x.cells; obtain ⟨s0, s1, s2⟩ := M.out.y.cells; (first | (have NN := Lib.hid (N.out.next hb); have N := NN; clear NN; obtain ⟨q0, q1, q2, q3, q4, q5, q6, q7⟩ := N.out.x.cells) | skip); clear hb)
                  | (have n9 := N.out; have n8 := H25g.out; clear n8 n9; go_at_call 25; refine (H25g.out _ _ N.out.H).mono ?_; rintro e wn ⟨rfl, hb⟩; have MN := Lib.hid (M.out.next hb); have BN := Lib.hid (hb0to B.out hb); have M := MN; have B := BN; clear MN BN; obtain ⟨r0, r1, r2, r3, r4, r5, r6, r7⟩ := M.out.x.cells; obtain ⟨s0, s1, s2⟩ := M.out.y.cells; (first | (have NN := Lib.hid (N.out.next hb); have N := NN; clear NN; obtain ⟨q0, q1, q2, q3, q4, q5, q6, q7⟩ := N.out.x.cells) | skip); clear H25g; clear hb)
                  | (go_at_call 35; refine (H35.out _).mono ?_; rintro e wn ⟨rfl, hb⟩; have MN := Lib.hid (M.out.next hb); have BN := Lib.hid (hb0to B.out hb); have M := MN; have B := BN; clear MN BN; obtain ⟨r0, r1, r2, r3, r4, r5, r6, r7⟩ := M.out.x.cells; obtain ⟨s0, s1, s2⟩ := M.out.y.cells; (first | (have NN := Lib.hid (N.out.next hb); have N := NN; clear NN; obtain ⟨q0, q1, q2, q3, q4, q5, q6, q7⟩ := N.out.x.cells) | skip); have e3 := below_cell B.out X3.out; clear hb)
                  | (go_at_call 19; refine (works_any _).mono ?_; rintro e wn ⟨rfl, hb⟩; have MN := Lib.hid (M.out.next hb); have BN := Lib.hid (hb0to B.out hb); have M := MN; have B := BN; clear MN BN; obtain ⟨r0, r1, r2, r3, r4, r5, r6, r7⟩ := M.out.x.cells; obtain ⟨s0, s1, s2⟩ := M.out.y.cells; (first | (have NN := Lib.hid (N.out.next hb); have N := NN; clear NN; obtain ⟨q0, q1, q2, q3, q4, q5, q6, q7⟩ := N.out.x.cells) | skip); clear hb))
                go_ret
                exact ⟨rfl, hb0to HBW.out B.out⟩
        · have d3 : (x.pay == (99 : Int)) = false := beq_eq_false_iff_ne.2 h99
          have H22 := Lib.hid (fun W hW => offered_any F f hn hok i (x.pay + 1) hil W hW)
          have hmw := more_won hv hx (by omega)
          have H25o := Lib.hid (fun G W hW => mostF_any G (offerF f i (x.pay + 1)) (offer_fn hx hn _) (offer_valid hx hv (by omega)) W hW)
          have H36 := Lib.hid (fun W hW => Won_any F f hn (i : Int) W hW)
          rw [won_ret hv hil] at H36
          have hkb := wonN_in (withV f.q (rdF f) i) (outV f.q (rdF f) i)
          generalize wonN (withV f.q (rdF f) i) (outV f.q (rdF f) i) = kw at H36 hmw hkb
          generalize mW (offerF f i (x.pay + 1)) = mo at H25o hmw
          generalize mW f = n at H25 H25g hmb d2 hmw
          have hway : (kw = 2 ∧ mo = n) ∨ (kw = 1 ∧ mo = n + 1) ∨ (kw = 3 ∧ mo = n + 1) := by omega
          have hw1 : IntKind.i64.wrap (x.pay + 1) = x.pay + 1 := IntWalk.i64_in _ (by omega)
          have hw2 : wrap64 (x.pay + 1) = x.pay + 1 := by rw [wrap64_eq]; exact hw1
          have hd9 : (n + 1 == n) = false := beq_eq_false_iff_ne.2 (by omega)
          clear hf hn hv hok h40 hb1 h99 hab hkb hmw
          obtain ⟨L, Ap, cp, Aq, cq⟩ := F
          obtain ⟨bk, ok, A', c', rfl, hbk, x1, x2, x3, hA', hXI⟩ := HF.out.q.at_ hx
          have X3 := Lib.hid x3
          clear x1 x2 x3 hA' hXI hx
          as_aux_lemma =>
            go_enter Try.func7, Try.ntmps7
            go_upto_region 1 with (fail)
            have e := HW0.out
            rw [e]
            clear e

            go_upto_region 7 with (first
              | (go_at_call 16; refine (H16.out _ M.out.H).mono ?_; rintro e wn ⟨rfl, hb⟩; have MN := Lib.hid (M.out.next hb); have BN := Lib.hid (hb0to B.out hb); have M := MN; have B := BN; clear MN BN; obtain ⟨r0, r1, r2, r3, r4, r5, r6, r7⟩ := M.out.x.cells; obtain ⟨s0, s1, s2⟩ := M.out.y.cells; (first | (have NN := Lib.hid (N.out.next hb); have N := NN; clear NN; obtain ⟨q0, q1, q2, q3, q4, q5, q6, q7⟩ := N.out.x.cells) | skip); clear H16; clear hb)
              | (go_at_call 25; refine (H25.out _ M.out.H).mono ?_; rintro e wn ⟨rfl, hb⟩; have MN := Lib.hid (M.out.next hb); have BN := Lib.hid (hb0to B.out hb); have M := MN; have B := BN; clear MN BN; obtain ⟨r0, r1, r2, r3, r4, r5, r6, r7⟩ := M.out.x.cells; obtain ⟨s0, s1, s2⟩ := M.out.y.cells; (first | (have NN := Lib.hid (N.out.next hb); have N := NN; clear NN; obtain ⟨q0, q1, q2, q3, q4, q5, q6, q7⟩ := N.out.x.cells) | skip); clear H25; clear hb)
              | (go_at_call 33; refine (H33.out _ M.out.H).mono ?_; rintro e w2 ⟨⟨⟨⟨k1, k2, k3, k4, k5, k6⟩, k7, k8, k9, k10⟩, rfl, hcf, hq⟩, hb⟩; have M2 := Lib.hid (M.out.next hb); have BA2 := Lib.hid hb; have swn := hb.size; have HCF := Lib.hid hcf; have HQ := Lib.hid hq; clear hb hcf hq))
            obtain ⟨Wz, hWz⟩ : ∃ W, w2.alloc (.cells #[.slice k1 f.h.ks.length k2, .int .i64 f.h.fl, .slice k3 f.h.ps.length k4, .slice k5 f.h.bs.length k6, .slice k7 f.pk.length k8, .int .i64 f.day, .int .i64 f.nb, .slice k9 f.q.length k10] 29) = W := ⟨_, rfl⟩
            have hz : Wz.heap[w2.heap.size]? = some (.cells #[.slice k1 f.h.ks.length k2, .int .i64 f.h.fl, .slice k3 f.h.ps.length k4, .slice k5 f.h.bs.length k6, .slice k7 f.pk.length k8, .int .i64 f.day, .int .i64 f.nb, .slice k9 f.q.length k10] 29) := by rw [← hWz]; exact heap_new1 _ _
            have hbz : Below w2.heap.size w2 Wz := by rw [← hWz]; exact al_below _ _
            rw [hWz]
            have HZ := Lib.hid (show CBox Wz w2.heap.size ⟨⟨k1, k2, k3, k4, k5, k6⟩, k7, k8, k9, k10⟩ f (.slice k9 f.q.length k10) from hz)
            have HG := Lib.hid (HCF.out.below hbz)
            have HQZ := Lib.hid (HQ.out.belowO hbz)
            have MZ := Lib.hid (M2.out.next hbz)
            have BZ := Lib.hid hbz
            have hwz : w.heap.size + 1 < w2.heap.size := M2.out.y.lt
            have hzz : w2.heap.size < Wz.heap.size := heap_lt hz
            have hz1 : ¬ w2.heap.size = w.heap.size := by omega
            have hz2 : ¬ w.heap.size = w2.heap.size := by omega
            have hz3 : ¬ w2.heap.size = w.heap.size + 1 := by omega
            have hz4 : ¬ w.heap.size + 1 = w2.heap.size := by omega
            obtain ⟨q0, q1, q2, q3, q4, q5, q6, q7⟩ := HZ.out.cells
            have zf := frozen_of_heap HZ.out
            obtain ⟨s0, s1, s2⟩ := MZ.out.y.cells
            have hqq := hql
            clear hz hbz hWz HCF HQ r0 r1 r2 r3 r4 r5 r6 r7 q0 q1 q2 q3 q4 q5 q6
            go_cut [8] (fun s wx => MoreIs wn w2.heap.size (moreF f bd) s wx)
            case first =>
              go_region_law
                (first
                  | (refine step_appQ (by rfl) (.tmp 29) (.tmp 32) (by rfl) InnOwn wn.heap.size (.slice k9 f.q.length k10) f.q (by rfl) (HQZ.out.belowO (by first | exact hb0to B1.out (al_below _ _) | exact hb0to B1.out (rows_below1 _ _))) w1.heap.size 1 bd Au cu (by rfl) (by simp [go_sem]) (by simp [go_sem]) (by simp [go_sem]) (by omega) (by simp; omega) (fun w' hb' hk' => ⟨Ints.keepT (Ints.keepT HU.out (KeepT.below (by first | exact al_below _ _ | exact rows_below1 _ _))) hk', fun u l hu => Ints.keepT hu hk'⟩) ?_; intro v5 w5 ho5 hb5 hk5; obtain ⟨A5, j5, rfl, -, -, -⟩ := ho5.layO; have hbX := chainM hb5 (n := Wz.heap.size) (w := Wz) (by first | exact hb0to B1.out (al_below _ _) | exact hb0to B1.out (rows_below1 _ _)); have BX := Lib.hid hbX; clear hbX; have HO5 := Lib.hid (show CBox w5 w2.heap.size ⟨⟨k1, k2, k3, k4, k5, k6⟩, k7, k8, k9, k10⟩ f (.slice k9 f.q.length k10) from hk5 29 (by decide) _ _ ((HZ.out.of (BX.out.block _ HZ.out.lt)))); have HG5 := Lib.hid ((HG.out.below BX.out).keepT (hk5 97 (by decide)) (hk5 99 (by decide)) (hk5 3 (by decide))); have HQ5 := Lib.hid ho5; have HB5 := Lib.hid (And.intro hb5 BX.out); have HK5 := Lib.hid hk5; have q7 := HO5.out.cells.2.2.2.2.2.2.2; have zf := frozen_of_heap HO5.out; clear ho5 hb5 hk5)
                  | (go_simp; go_at_call 34; refine (H34.out _ (ints_later MZ.out.I (by first | exact Below.refl _ _ | exact al_below _ _ | exact hb0to (al_below _ _) (al_below _ _) | exact drew_below _ | exact rows_below1 _ _ | exact hb0to (al_below _ _) (rows_below1 _ _) | exact hb0to (drew_below _) (al_below _ _)))).mono ?_; rintro e w1 ⟨⟨u, rfl, hu⟩, hb1⟩; have B1 : Hid (Below Wz.heap.size Wz w1) := Lib.hid (by first | exact hb1 | exact hb0to (al_below _ _) hb1 | exact hb0to (hb0to (al_below _ _) (al_below _ _)) hb1 | exact hb0to (drew_below _) hb1 | exact hb0to (rows_below1 _ _) hb1 | exact hb0to (hb0to (al_below _ _) (rows_below1 _ _)) hb1); have HU := Lib.hid (Ints.mono hu (Nat.zero_le _)); obtain ⟨Au, cu, rfl, -, -, -⟩ := ints_slice hu; have q7 := (HZ.out.of (B1.out.block _ HZ.out.lt)).cells.2.2.2.2.2.2.2; have sz1 := B1.out.size; have zz1 : w2.heap.size < w1.heap.size := (by omega); have zz2 : ¬ w2.heap.size = w1.heap.size := (by omega); have zz3 : ¬ w1.heap.size = w2.heap.size := (by omega); clear hu hb1))
              all_goals
                go_wp2_with (fail)
                go_meet
                exact moreIs_mk (F := ⟨⟨k1, k2, k3, k4, k5, k6⟩, k7, k8, k9, k10⟩) HO5.out HG5.out HQ5.out HB5.out.1 HB5.out.2 (hb0to BA2.out BZ.out) (by omega)
            case rest =>
              obtain ⟨rfl, F', hN1, hN2, hbx⟩ := hcut
              obtain ⟨wx, rfl⟩ : ∃ x : World, x = wc := ⟨_, rfl⟩
              have MX := Lib.hid (M.out.next hbx)
              have BX := Lib.hid (hb0to B.out hbx)
              have M := MX
              have B := BX
              have N := Lib.hid (FIn.mk hN2 hN1)
              clear hN1 hN2 hbx M2 MX BX BA2 MZ BZ HZ HG HQZ s0 s1 s2 q7 zf H33 H34
              obtain ⟨⟨l1, l2, l3, l4, l5, l6⟩, l7, l8, l9, l10⟩ := F'
              obtain ⟨r0, r1, r2, r3, r4, r5, r6, r7⟩ := M.out.x.cells; obtain ⟨s0, s1, s2⟩ := M.out.y.cells
              obtain ⟨q0, q1, q2, q3, q4, q5, q6, q7⟩ := N.out.x.cells
              cases hro : readyB9 (moreF f bd)
              · rw [hro] at H16g
                clear H25g
                go_upto_region 12 with (first
                  | (have n9 := N.out; clear n9; go_at_call 16; refine (H16g.out _ _ N.out.H).mono ?_; rintro e wn ⟨rfl, hb⟩; have MN := Lib.hid (M.out.next hb); have BN := Lib.hid (hb0to B.out hb); have M := MN; have B := BN; clear MN BN; obtain ⟨r0, r1, r2, r3, r4, r5, r6, r7⟩ := M.out.x.cells; obtain ⟨s0, s1, s2⟩ := M.out.y.cells; (first | (have NN := Lib.hid (N.out.next hb); have N := NN; clear NN; obtain ⟨q0, q1, q2, q3, q4, q5, q6, q7⟩ := N.out.x.cells) | skip); clear hb)
                  | (go_at_call 35; refine (H35.out _).mono ?_; rintro e wn ⟨rfl, hb⟩; have MN := Lib.hid (M.out.next hb); have BN := Lib.hid (hb0to B.out hb); have M := MN; have B := BN; clear MN BN; obtain ⟨r0, r1, r2, r3, r4, r5, r6, r7⟩ := M.out.x.cells; obtain ⟨s0, s1, s2⟩ := M.out.y.cells; (first | (have NN := Lib.hid (N.out.next hb); have N := NN; clear NN; obtain ⟨q0, q1, q2, q3, q4, q5, q6, q7⟩ := N.out.x.cells) | skip); have e3 := below_cell B.out X3.out; clear hb))
                have hwn := B.out.size
                clear N q0 q1 q2 q3 q4 q5 q6 q7 s0 s1 s2
                go_cut [9] (fun s wx => s = .int .i64 mo ∧ Hid (Below wn.heap.size wn wx))
                case first =>
                  go_region_held3 (fun w' => w'.cell? ⟨w.heap.size, 0, none⟩ = some (.slice L.Ak f.h.ks.length L.ck) ∧ w'.cell? ⟨w.heap.size, 1, none⟩ = some (.int .i64 f.h.fl) ∧ w'.cell? ⟨w.heap.size, 2, none⟩ = some (.slice L.Ap f.h.ps.length L.cp) ∧ w'.cell? ⟨w.heap.size, 3, none⟩ = some (.slice L.Ab f.h.bs.length L.cb) ∧ w'.cell? ⟨w.heap.size, 4, none⟩ = some (.slice Ap f.pk.length cp) ∧ w'.cell? ⟨w.heap.size, 5, none⟩ = some (.int .i64 f.day) ∧ w'.cell? ⟨w.heap.size, 6, none⟩ = some (.int .i64 f.nb) ∧ w'.cell? ⟨w.heap.size, 7, none⟩ = some (.slice (some ⟨bk, ok, none⟩) f.q.length cq) ∧ w'.cell? ⟨bk, ok + i * 3 + 2, none⟩ = some (.int .i64 x.pay)) (first | go_keep)
                    (first
                      | (have hg9 := HG.out; go_at_call 25; refine (H25o.out _ _ hg9).mono ?_; rintro e w6 ⟨rfl, hb⟩; have B6 : Hid (Below wn.heap.size wn w6) := Lib.hid (hb0to B5.out hb); have M6 := Lib.hid (M.out.next B6.out); obtain ⟨r0, r1, r2, r3, r4, r5, r6, r7⟩ := M6.out.x.cells; have e3 := below_cell (hb0to B.out B6.out) X3.out; clear hg9 hb)
                      | (go_at_call 22; refine (H22.out _ (M.out.H.below (by first | exact Below.refl _ _ | exact al_below _ _ | exact hb0to (al_below _ _) (al_below _ _) | exact drew_below _ | exact rows_below1 _ _ | exact hb0to (al_below _ _) (rows_below1 _ _) | exact hb0to (drew_below _) (al_below _ _)))).mono ?_; rintro e w5 ⟨⟨⟨⟨k1, k2, k3, k4, k5, k6⟩, k7, k8, k9, k10⟩, rfl, hcf, hq⟩, hb⟩; have B5 : Hid (Below wn.heap.size wn w5) := Lib.hid (by first | exact hb | exact hb0to (al_below _ _) hb | exact hb0to (hb0to (al_below _ _) (al_below _ _)) hb | exact hb0to (drew_below _) hb | exact hb0to (rows_below1 _ _) hb | exact hb0to (hb0to (al_below _ _) (rows_below1 _ _)) hb); have HG := Lib.hid (CopRet.fair hcf hq).1; have M5 := Lib.hid (M.out.next B5.out); obtain ⟨r0, r1, r2, r3, r4, r5, r6, r7⟩ := M5.out.x.cells; have e3 := below_cell (hb0to B.out B5.out) X3.out; clear hcf hq hb))
                  all_goals
                    go_wp2_with (fail)
                    go_meet
                    exact ⟨rfl, B6⟩
                case rest =>
                  obtain ⟨rfl, hb⟩ := hcut
                  obtain ⟨wy, rfl⟩ : ∃ x : World, x = wc := ⟨_, rfl⟩
                  have MN := Lib.hid (M.out.next hb.out)
                  have BN := Lib.hid (hb0to B.out hb.out)
                  have M := MN
                  have B := BN
                  clear MN BN hb
                  obtain ⟨r0, r1, r2, r3, r4, r5, r6, r7⟩ := M.out.x.cells; obtain ⟨s0, s1, s2⟩ := M.out.y.cells
                  rcases hway with ⟨rfl, rfl⟩ | ⟨rfl, rfl⟩ | ⟨rfl, rfl⟩
                  all_goals
                    go_wp2_with (first
                      | (go_at_call 36; refine (H36.out _ M.out.H).mono ?_; rintro e wn ⟨rfl, hb⟩; have MN := Lib.hid (M.out.next hb); have BN := Lib.hid (hb0to B.out hb); have M := MN; have B := BN; clear MN BN; obtain ⟨r0, r1, r2, r3, r4, r5, r6, r7⟩ := M.out.x.cells; obtain ⟨s0, s1, s2⟩ := M.out.y.cells; (first | (have NN := Lib.hid (N.out.next hb); have N := NN; clear NN; obtain ⟨q0, q1, q2, q3, q4, q5, q6, q7⟩ := N.out.x.cells) | skip); clear hb)
                      | (go_at_call 19; refine (works_any _).mono ?_; rintro e wn ⟨rfl, hb⟩; have MN := Lib.hid (M.out.next hb); have BN := Lib.hid (hb0to B.out hb); have M := MN; have B := BN; clear MN BN; obtain ⟨r0, r1, r2, r3, r4, r5, r6, r7⟩ := M.out.x.cells; obtain ⟨s0, s1, s2⟩ := M.out.y.cells; (first | (have NN := Lib.hid (N.out.next hb); have N := NN; clear NN; obtain ⟨q0, q1, q2, q3, q4, q5, q6, q7⟩ := N.out.x.cells) | skip); clear hb))
                    go_ret
                    exact ⟨rfl, hb0to HBW.out B.out⟩

              · rw [hro] at H16g
                obtain ⟨mg, hmg, H25g⟩ := H25g hro
                have d8 : decide (mg < n) = false := decide_eq_false (by omega)
                clear hmg
                go_upto_region 12 with (first
                  | (have n9 := N.out; clear n9; go_at_call 16; refine (H16g.out _ _ N.out.H).mono ?_; rintro e wn ⟨rfl, hb⟩; have MN := Lib.hid (M.out.next hb); have BN := Lib.hid (hb0to B.out hb); have M := MN; have B := BN; clear MN BN; obtain ⟨r0, r1, r2, r3, r4, r5, r6, r7⟩ := M.out.x.cells; obtain ⟨s0, s1, s2⟩ := M.out.y.cells; (first | (have NN := Lib.hid (N.out.next hb); have N := NN; clear NN; obtain ⟨q0, q1, q2, q3, q4, q5, q6, q7⟩ := N.out.x.cells) | skip); clear hb)
                  | (have n9 := N.out; have n8 := H25g.out; clear n8 n9; go_at_call 25; refine (H25g.out _ _ N.out.H).mono ?_; rintro e wn ⟨rfl, hb⟩; have MN := Lib.hid (M.out.next hb); have BN := Lib.hid (hb0to B.out hb); have M := MN; have B := BN; clear MN BN; obtain ⟨r0, r1, r2, r3, r4, r5, r6, r7⟩ := M.out.x.cells; obtain ⟨s0, s1, s2⟩ := M.out.y.cells; (first | (have NN := Lib.hid (N.out.next hb); have N := NN; clear NN; obtain ⟨q0, q1, q2, q3, q4, q5, q6, q7⟩ := N.out.x.cells) | skip); clear H25g; clear hb)
                  | (go_at_call 35; refine (H35.out _).mono ?_; rintro e wn ⟨rfl, hb⟩; have MN := Lib.hid (M.out.next hb); have BN := Lib.hid (hb0to B.out hb); have M := MN; have B := BN; clear MN BN; obtain ⟨r0, r1, r2, r3, r4, r5, r6, r7⟩ := M.out.x.cells; obtain ⟨s0, s1, s2⟩ := M.out.y.cells; (first | (have NN := Lib.hid (N.out.next hb); have N := NN; clear NN; obtain ⟨q0, q1, q2, q3, q4, q5, q6, q7⟩ := N.out.x.cells) | skip); have e3 := below_cell B.out X3.out; clear hb))
                have hwn := B.out.size
                clear N q0 q1 q2 q3 q4 q5 q6 q7 s0 s1 s2
                go_cut [9] (fun s wx => s = .int .i64 mo ∧ Hid (Below wn.heap.size wn wx))
                case first =>
                  go_region_held3 (fun w' => w'.cell? ⟨w.heap.size, 0, none⟩ = some (.slice L.Ak f.h.ks.length L.ck) ∧ w'.cell? ⟨w.heap.size, 1, none⟩ = some (.int .i64 f.h.fl) ∧ w'.cell? ⟨w.heap.size, 2, none⟩ = some (.slice L.Ap f.h.ps.length L.cp) ∧ w'.cell? ⟨w.heap.size, 3, none⟩ = some (.slice L.Ab f.h.bs.length L.cb) ∧ w'.cell? ⟨w.heap.size, 4, none⟩ = some (.slice Ap f.pk.length cp) ∧ w'.cell? ⟨w.heap.size, 5, none⟩ = some (.int .i64 f.day) ∧ w'.cell? ⟨w.heap.size, 6, none⟩ = some (.int .i64 f.nb) ∧ w'.cell? ⟨w.heap.size, 7, none⟩ = some (.slice (some ⟨bk, ok, none⟩) f.q.length cq) ∧ w'.cell? ⟨bk, ok + i * 3 + 2, none⟩ = some (.int .i64 x.pay)) (first | go_keep)
                    (first
                      | (have hg9 := HG.out; go_at_call 25; refine (H25o.out _ _ hg9).mono ?_; rintro e w6 ⟨rfl, hb⟩; have B6 : Hid (Below wn.heap.size wn w6) := Lib.hid (hb0to B5.out hb); have M6 := Lib.hid (M.out.next B6.out); obtain ⟨r0, r1, r2, r3, r4, r5, r6, r7⟩ := M6.out.x.cells; have e3 := below_cell (hb0to B.out B6.out) X3.out; clear hg9 hb)
                      | (go_at_call 22; refine (H22.out _ (M.out.H.below (by first | exact Below.refl _ _ | exact al_below _ _ | exact hb0to (al_below _ _) (al_below _ _) | exact drew_below _ | exact rows_below1 _ _ | exact hb0to (al_below _ _) (rows_below1 _ _) | exact hb0to (drew_below _) (al_below _ _)))).mono ?_; rintro e w5 ⟨⟨⟨⟨k1, k2, k3, k4, k5, k6⟩, k7, k8, k9, k10⟩, rfl, hcf, hq⟩, hb⟩; have B5 : Hid (Below wn.heap.size wn w5) := Lib.hid (by first | exact hb | exact hb0to (al_below _ _) hb | exact hb0to (hb0to (al_below _ _) (al_below _ _)) hb | exact hb0to (drew_below _) hb | exact hb0to (rows_below1 _ _) hb | exact hb0to (hb0to (al_below _ _) (rows_below1 _ _)) hb); have HG := Lib.hid (CopRet.fair hcf hq).1; have M5 := Lib.hid (M.out.next B5.out); obtain ⟨r0, r1, r2, r3, r4, r5, r6, r7⟩ := M5.out.x.cells; have e3 := below_cell (hb0to B.out B5.out) X3.out; clear hcf hq hb))
                  all_goals
                    go_wp2_with (fail)
                    go_meet
                    exact ⟨rfl, B6⟩
                case rest =>
                  obtain ⟨rfl, hb⟩ := hcut
                  obtain ⟨wy, rfl⟩ : ∃ x : World, x = wc := ⟨_, rfl⟩
                  have MN := Lib.hid (M.out.next hb.out)
                  have BN := Lib.hid (hb0to B.out hb.out)
                  have M := MN
                  have B := BN
                  clear MN BN hb
                  obtain ⟨r0, r1, r2, r3, r4, r5, r6, r7⟩ := M.out.x.cells; obtain ⟨s0, s1, s2⟩ := M.out.y.cells
                  rcases hway with ⟨rfl, rfl⟩ | ⟨rfl, rfl⟩ | ⟨rfl, rfl⟩
                  all_goals
                    go_wp2_with (first
                      | (go_at_call 36; refine (H36.out _ M.out.H).mono ?_; rintro e wn ⟨rfl, hb⟩; have MN := Lib.hid (M.out.next hb); have BN := Lib.hid (hb0to B.out hb); have M := MN; have B := BN; clear MN BN; obtain ⟨r0, r1, r2, r3, r4, r5, r6, r7⟩ := M.out.x.cells; obtain ⟨s0, s1, s2⟩ := M.out.y.cells; (first | (have NN := Lib.hid (N.out.next hb); have N := NN; clear NN; obtain ⟨q0, q1, q2, q3, q4, q5, q6, q7⟩ := N.out.x.cells) | skip); clear hb)
                      | (go_at_call 19; refine (works_any _).mono ?_; rintro e wn ⟨rfl, hb⟩; have MN := Lib.hid (M.out.next hb); have BN := Lib.hid (hb0to B.out hb); have M := MN; have B := BN; clear MN BN; obtain ⟨r0, r1, r2, r3, r4, r5, r6, r7⟩ := M.out.x.cells; obtain ⟨s0, s1, s2⟩ := M.out.y.cells; (first | (have NN := Lib.hid (N.out.next hb); have N := NN; clear NN; obtain ⟨q0, q1, q2, q3, q4, q5, q6, q7⟩ := N.out.x.cells) | skip); clear hb))
                    go_ret
                    exact ⟨rfl, hb0to HBW.out B.out⟩

end Go.Proofs.Ytmconopnplgcfaa
