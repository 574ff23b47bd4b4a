import Derived.Test.YtmconopnplgcfaaFW
import Derived.Test.YtmconopnplgcfaaEA
namespace Go.Proofs.Ytmconopnplgcfaa
open Go.RowKit

/-! SalesPacked. -/
structure PIn (W : World) (b : Nat) (F : FL) (f : Fair) (A : Option Addr) (l : List Int) : Prop where
  H : FairAt W W.heap.size F f
  x : FBox W b F f
  I : IntsAt W W.heap.size A l
theorem PIn.next {W W' : World} {b : Nat} {F : FL} {f : Fair} {A : Option Addr} {l : List Int} (h : PIn W b F f A l) (hb : Below W.heap.size W W') : PIn W' b F f A l := ⟨h.H.below hb, h.x.of (hb.block _ h.x.lt), ints_later h.I hb⟩
theorem packs_plain {f : Fair} (hf : FOK f) {p : List Int} (hp : goodB f.h p = true) : goodB f.h (repL f) = true ∧ gP f p ≤ gP f (repL f) ∧ (gP f p = gP f (repL f) → earlierB p (repL f) = false) := by
  have hin : ∀ q, goodB f.h q = true → q ∈ packsF f f.pk.length [] := fun q hq => by
    obtain ⟨h1, h2, -⟩ := goodB_parts hq
    exact mem_packsF.2 ⟨q, rfl, by rw [h1, good_len hf.p], h2, hq⟩
  have h := bestP_is (fun q => gP_nonneg hf q) (packsF f f.pk.length []) [] ([], -1) (by rw [List.nil_append]; exact packs_sorted f _ _) (.inl ⟨rfl, rfl⟩)
  rw [List.nil_append] at h
  rcases h with ⟨h1, -⟩ | ⟨h1, h2, h3⟩
  · have := hin p hp
    rw [h1] at this
    cases this
  · obtain ⟨t, e1, -, -, e2⟩ := mem_packsF.1 h1
    obtain ⟨h4, h5⟩ := h3 p (hin p hp)
    unfold repL
    rw [h2] at h4 h5
    exact ⟨e2, h4, h5⟩
theorem validF_pack {f : Fair} (hv : validF f = true) {p : List Int} (hg : goodB f.h p = true) : validF (packF f p) = true := by
  unfold validF packOK at hv ⊢
  simp only [Bool.and_eq_true] at hv ⊢
  exact ⟨⟨hv.1.1, hg⟩, hv.2⟩
set_option maxRecDepth 100000 in
set_option maxHeartbeats 4000000 in
theorem packed_law (F : FL) (f : Fair) (A : Option Addr) (c : Nat) (l : List Int) (hA : A = none → c = 0 ∧ l = []) (w : World) (hok : FLOK F f) (hF : FairAt w w.heap.size F f) (hI : IntsAt w w.heap.size A l) : Calls Try.prog 14 #[F.enc f, .slice A l.length c] w fun e w' => e = .returned (.bool true) ∧ Below w.heap.size w w' := by
  have hbw := al_below w (.cells #[.slice F.L.Ak f.h.ks.length F.L.ck, .int .i64 f.h.fl, .slice F.L.Ap f.h.ps.length F.L.cp, .slice F.L.Ab f.h.bs.length F.L.cb, .slice F.Ap f.pk.length F.cp, .int .i64 f.day, .int .i64 f.nb, .slice F.Aq f.q.length F.cq] 29)
  have HB := Lib.hid (FBox.new w F f)
  obtain ⟨c0, c1, c2, c3, c4, c5, c6, c7⟩ := (FBox.new w F f).cells
  obtain ⟨W0, hW0⟩ : ∃ W0, w.alloc (.cells #[.slice F.L.Ak f.h.ks.length F.L.ck, .int .i64 f.h.fl, .slice F.L.Ap f.h.ps.length F.L.cp, .slice F.L.Ab f.h.bs.length F.L.cb, .slice F.Ap f.pk.length F.cp, .int .i64 f.day, .int .i64 f.nb, .slice F.Aq f.q.length F.cq] 29) = W0 := ⟨_, rfl⟩
  rw [hW0] at hbw HB c0 c1 c2 c3 c4 c5 c6 c7
  have HBW := Lib.hid hbw
  have HW0 := Lib.hid hW0
  have HF := Lib.hid (hF.below hbw)
  clear hbw hW0 hF
  have M := Lib.hid (PIn.mk HF.out HB.out (ints_later hI HBW.out))
  have B := Lib.hid (Below.refl W0.heap.size W0)
  have H59 := Lib.hid (fun W hW => farF_any F f W hW)
  have H16 := Lib.hid (fun W hW => readyF_any F f W hW)
  clear hI
  cases hh : farF f
  · rw [hh] at H59
    cases hr : readyB9 f
    · rw [hr] at H16
      clear hok hh hA hr
      obtain ⟨L, Ap, cp, Aq, cq⟩ := F
      go_enter Try.func14, Try.ntmps14
      go_upto_region 1 with (fail)
      have e := HW0.out
      rw [e]
      clear e
      go_wp2_with (first
        | (go_at_call 59; refine (H59.out _ M.out.H).mono ?_; rintro e wn ⟨rfl, hb⟩; have MN := Lib.hid (M.out.next hb); have BN := Lib.hid (hb0to B.out hb); have M := MN; have B := BN; clear MN BN; skip; obtain ⟨r0, r1, r2, r3, r4, r5, r6, r7⟩ := M.out.x.cells; clear hb)
        | (go_at_call 16; refine (H16.out _ M.out.H).mono ?_; rintro e wn ⟨rfl, hb⟩; have MN := Lib.hid (M.out.next hb); have BN := Lib.hid (hb0to B.out hb); have M := MN; have B := BN; clear MN BN; skip; obtain ⟨r0, r1, r2, r3, r4, r5, r6, r7⟩ := M.out.x.cells; clear hb)
        | (go_at_call 19; refine (works_any _).mono ?_; rintro e wn ⟨rfl, hb⟩; have MN := Lib.hid (M.out.next hb); have BN := Lib.hid (hb0to B.out hb); have M := MN; have B := BN; clear MN BN; skip; obtain ⟨r0, r1, r2, r3, r4, r5, r6, r7⟩ := M.out.x.cells; clear hb))
      go_ret
      exact ⟨rfl, hb0to HBW.out B.out⟩
    · rw [hr] at H16
      obtain ⟨hu, hv⟩ := readyB9_iff.1 hr
      have hf := FOK.of hv
      have hn := hugeF_fn hu
      have hc := (farF_no hh).2
      have HV := HOK.ofValid hf.h
      have H60 := Lib.hid (fun p A c W hW hI => packB_any F f HV p A c W hW hI)
      have hps := HV.pl
      cases hp : packB f l
      · have h60 := H60.out l
        rw [hp] at h60
        have H60 := Lib.hid (fun (p : List Int) => h60)
        clear hok hh hA hr hu hv hf hn hc HV hps hp h60
        obtain ⟨L, Ap, cp, Aq, cq⟩ := F
        go_enter Try.func14, Try.ntmps14
        go_upto_region 1 with (fail)
        have e := HW0.out
        rw [e]
        clear e
        go_wp2_with (first
          | (go_at_call 59; refine (H59.out _ M.out.H).mono ?_; rintro e wn ⟨rfl, hb⟩; have MN := Lib.hid (M.out.next hb); have BN := Lib.hid (hb0to B.out hb); have M := MN; have B := BN; clear MN BN; skip; obtain ⟨r0, r1, r2, r3, r4, r5, r6, r7⟩ := M.out.x.cells; clear hb)
          | (go_at_call 16; refine (H16.out _ M.out.H).mono ?_; rintro e wn ⟨rfl, hb⟩; have MN := Lib.hid (M.out.next hb); have BN := Lib.hid (hb0to B.out hb); have M := MN; have B := BN; clear MN BN; skip; obtain ⟨r0, r1, r2, r3, r4, r5, r6, r7⟩ := M.out.x.cells; clear hb)
          | (go_at_call 19; refine (works_any _).mono ?_; rintro e wn ⟨rfl, hb⟩; have MN := Lib.hid (M.out.next hb); have BN := Lib.hid (hb0to B.out hb); have M := MN; have B := BN; clear MN BN; skip; obtain ⟨r0, r1, r2, r3, r4, r5, r6, r7⟩ := M.out.x.cells; clear hb)
          | (go_at_call 60; refine (H60.out l A c _ M.out.H M.out.I).mono ?_; rintro e wn ⟨rfl, hb⟩; have MN := Lib.hid (M.out.next hb); have BN := Lib.hid (hb0to B.out hb); have M := MN; have B := BN; clear MN BN; skip; obtain ⟨r0, r1, r2, r3, r4, r5, r6, r7⟩ := M.out.x.cells; clear hb))
        go_ret
        exact ⟨rfl, hb0to HBW.out B.out⟩
      · have hg : goodB f.h l = true := by
          unfold packB at hp
          simp only [Bool.and_eq_true] at hp
          exact hp.2
        have hll := good_len hg
        obtain ⟨q1, q2, q3⟩ := packs_plain hf hg
        have hrl := good_len q1
        have hq : repRet f = (repL f, 0) := listRF_ok (askF_yes hv)
        have hpr : packB f (repL f) = true := by unfold packB; rw [q1, decide_eq_true (show (repL f).length ≤ 40 by omega)]; rfl
        have H60r := Lib.hid (by
          have h := H60.out (repL f)
          rw [hpr] at h
          exact h)
        have H60 := Lib.hid (by
          have h := H60.out l
          rw [hp] at h
          exact fun (_ : List Int) => h)
        have H61 := Lib.hid (fun W hW => Repack_any F f hn hc W hW)
        rw [hq] at H61
        have H62r := Lib.hid (fun A c hA W hW hI => packed62_any F f hn hok (repL f) (by omega) A c hA W hW hI)
        have H62l := Lib.hid (fun W hW hI => packed62_any F f hn hok l (by omega) A c hA W hW hI)
        have H25r := Lib.hid (fun G W hW => mostF_any G (packF f (repL f)) (hn.pack (by omega)) (validF_pack hv q1) W hW)
        have H25l := Lib.hid (fun G W hW => mostF_any G (packF f l) (hn.pack (by omega)) (validF_pack hv hg) W hW)
        have H58 := Lib.hid (fun B cb W hI hJ => rEarlier_any l (repL f) A B c cb (by omega) (by omega) W hI hJ)
        have e1 : mW (packF f (repL f)) = gP f (repL f) := rfl
        have e2 : mW (packF f l) = gP f l := rfl
        rw [e1] at H25r
        rw [e2] at H25l
        have q0 := gP_nonneg hf l
        generalize gP f (repL f) = gn at H25r q2 q3
        generalize gP f l = gm at H25l q0 q2 q3
        generalize repL f = rl at H60r H61 H62r H25r H58 q3
        by_cases hlt : gm < gn
        · have hd : decide (gm < gn) = true := decide_eq_true hlt
          have hd0 : decide (0 ≤ gm) = true := decide_eq_true q0
          have hd1 : decide (gm ≤ gn) = true := decide_eq_true q2
          have T0 := Lib.hid True.intro
          clear hok hh hA hr hu hv hf hn hc HV hps hp hg hll q1 q3 hrl hq hpr e1 e2
          obtain ⟨L, Ap, cp, Aq, cq⟩ := F
          go_enter Try.func14, Try.ntmps14
          go_upto_region 1 with (fail)
          have e := HW0.out
          rw [e]
          clear e
          go_wp2_with (first
            | (go_at_call 59; refine (H59.out _ M.out.H).mono ?_; rintro e wn ⟨rfl, hb⟩; have MN := Lib.hid (M.out.next hb); have BN := Lib.hid (hb0to B.out hb); have M := MN; have B := BN; clear MN BN; skip; obtain ⟨r0, r1, r2, r3, r4, r5, r6, r7⟩ := M.out.x.cells; clear hb)
            | (go_at_call 16; refine (H16.out _ M.out.H).mono ?_; rintro e wn ⟨rfl, hb⟩; have MN := Lib.hid (M.out.next hb); have BN := Lib.hid (hb0to B.out hb); have M := MN; have B := BN; clear MN BN; skip; obtain ⟨r0, r1, r2, r3, r4, r5, r6, r7⟩ := M.out.x.cells; clear hb)
            | (have t9 := T0.out; clear T0 t9; go_at_call 60; refine (H60.out l A c _ M.out.H M.out.I).mono ?_; rintro e wn ⟨rfl, hb⟩; have MN := Lib.hid (M.out.next hb); have BN := Lib.hid (hb0to B.out hb); have M := MN; have B := BN; clear MN BN; skip; obtain ⟨r0, r1, r2, r3, r4, r5, r6, r7⟩ := M.out.x.cells; clear hb)
            | (go_at_call 60; refine (H60r.out A7 c7 _ M.out.H V.out).mono ?_; rintro e wn ⟨rfl, hb⟩; have MN := Lib.hid (M.out.next hb); have BN := Lib.hid (hb0to B.out hb); have M := MN; have B := BN; clear MN BN; have VN := Lib.hid (ints_later V.out hb); have V := VN; clear VN; obtain ⟨r0, r1, r2, r3, r4, r5, r6, r7⟩ := M.out.x.cells; clear hb)
            | (go_at_call 61; refine (H61.out _ M.out.H).mono ?_; rintro e wn ⟨⟨A7, c7, rfl, hA7, hv7⟩, hb⟩; have MN := Lib.hid (M.out.next hb); have BN := Lib.hid (hb0to B.out hb); have M := MN; have B := BN; clear MN BN; have V := Lib.hid hv7.at_; have HA7 := Lib.hid hA7; clear hv7 hA7; obtain ⟨r0, r1, r2, r3, r4, r5, r6, r7⟩ := M.out.x.cells; clear hb)
            | (have hx7 := HA7.out; clear HA7; go_at_call 62; refine (H62r.out A7 c7 hx7 _ M.out.H V.out).mono ?_; rintro e wn ⟨⟨⟨⟨k1, k2, k3, k4, k5, k6⟩, k7, k8, k9, k10⟩, rfl, hcf, hq⟩, hb⟩; have MN := Lib.hid (M.out.next hb); have BN := Lib.hid (hb0to B.out hb); have M := MN; have B := BN; clear MN BN; clear hx7; have HG2 := Lib.hid (CopRet.fair hcf hq).1; have VN := Lib.hid (ints_later V.out hb); have V := VN; clear VN hcf hq; obtain ⟨r0, r1, r2, r3, r4, r5, r6, r7⟩ := M.out.x.cells; clear hb)
            | (go_at_call 62; refine (H62l.out _ M.out.H M.out.I).mono ?_; rintro e wn ⟨⟨⟨⟨j1, j2, j3, j4, j5, j6⟩, j7, j8, j9, j10⟩, rfl, hcf, hq⟩, hb⟩; have MN := Lib.hid (M.out.next hb); have BN := Lib.hid (hb0to B.out hb); have M := MN; have B := BN; clear MN BN; have HG4 := Lib.hid (CopRet.fair hcf hq).1; have VN := Lib.hid (ints_later V.out hb); have V := VN; clear VN hcf hq; obtain ⟨r0, r1, r2, r3, r4, r5, r6, r7⟩ := M.out.x.cells; clear hb)
            | (have hg9 := HG2.out; clear HG2; go_at_call 25; refine (H25r.out _ _ hg9).mono ?_; rintro e wn ⟨rfl, hb⟩; have MN := Lib.hid (M.out.next hb); have BN := Lib.hid (hb0to B.out hb); have M := MN; have B := BN; clear MN BN; have VN := Lib.hid (ints_later V.out hb); have V := VN; clear VN hg9; obtain ⟨r0, r1, r2, r3, r4, r5, r6, r7⟩ := M.out.x.cells; clear hb)
            | (have hg9 := HG4.out; clear HG4; go_at_call 25; refine (H25l.out _ _ hg9).mono ?_; rintro e wn ⟨rfl, hb⟩; have MN := Lib.hid (M.out.next hb); have BN := Lib.hid (hb0to B.out hb); have M := MN; have B := BN; clear MN BN; have VN := Lib.hid (ints_later V.out hb); have V := VN; clear VN hg9; obtain ⟨r0, r1, r2, r3, r4, r5, r6, r7⟩ := M.out.x.cells; clear hb)
            | (go_at_call 19; refine (works_any _).mono ?_; rintro e wn ⟨rfl, hb⟩; have MN := Lib.hid (M.out.next hb); have BN := Lib.hid (hb0to B.out hb); have M := MN; have B := BN; clear MN BN; skip; obtain ⟨r0, r1, r2, r3, r4, r5, r6, r7⟩ := M.out.x.cells; clear hb))
          go_ret
          exact ⟨rfl, hb0to HBW.out B.out⟩
        · have hd : decide (gm < gn) = false := decide_eq_false hlt
          have hd0 : decide (0 ≤ gm) = true := decide_eq_true q0
          have hd1 : decide (gm ≤ gn) = true := decide_eq_true q2
          have T0 := Lib.hid True.intro
          have he := q3 (by omega)
          rw [he] at H58
          clear hok hh hA hr hu hv hf hn hc HV hps hp hg hll q1 q3 hrl hq hpr e1 e2 he
          obtain ⟨L, Ap, cp, Aq, cq⟩ := F
          go_enter Try.func14, Try.ntmps14
          go_upto_region 1 with (fail)
          have e := HW0.out
          rw [e]
          clear e
          go_wp2_with (first
            | (go_at_call 59; refine (H59.out _ M.out.H).mono ?_; rintro e wn ⟨rfl, hb⟩; have MN := Lib.hid (M.out.next hb); have BN := Lib.hid (hb0to B.out hb); have M := MN; have B := BN; clear MN BN; skip; obtain ⟨r0, r1, r2, r3, r4, r5, r6, r7⟩ := M.out.x.cells; clear hb)
            | (go_at_call 16; refine (H16.out _ M.out.H).mono ?_; rintro e wn ⟨rfl, hb⟩; have MN := Lib.hid (M.out.next hb); have BN := Lib.hid (hb0to B.out hb); have M := MN; have B := BN; clear MN BN; skip; obtain ⟨r0, r1, r2, r3, r4, r5, r6, r7⟩ := M.out.x.cells; clear hb)
            | (have t9 := T0.out; clear T0 t9; go_at_call 60; refine (H60.out l A c _ M.out.H M.out.I).mono ?_; rintro e wn ⟨rfl, hb⟩; have MN := Lib.hid (M.out.next hb); have BN := Lib.hid (hb0to B.out hb); have M := MN; have B := BN; clear MN BN; skip; obtain ⟨r0, r1, r2, r3, r4, r5, r6, r7⟩ := M.out.x.cells; clear hb)
            | (go_at_call 60; refine (H60r.out A7 c7 _ M.out.H V.out).mono ?_; rintro e wn ⟨rfl, hb⟩; have MN := Lib.hid (M.out.next hb); have BN := Lib.hid (hb0to B.out hb); have M := MN; have B := BN; clear MN BN; have VN := Lib.hid (ints_later V.out hb); have V := VN; clear VN; obtain ⟨r0, r1, r2, r3, r4, r5, r6, r7⟩ := M.out.x.cells; clear hb)
            | (go_at_call 61; refine (H61.out _ M.out.H).mono ?_; rintro e wn ⟨⟨A7, c7, rfl, hA7, hv7⟩, hb⟩; have MN := Lib.hid (M.out.next hb); have BN := Lib.hid (hb0to B.out hb); have M := MN; have B := BN; clear MN BN; have V := Lib.hid hv7.at_; have HA7 := Lib.hid hA7; clear hv7 hA7; obtain ⟨r0, r1, r2, r3, r4, r5, r6, r7⟩ := M.out.x.cells; clear hb)
            | (have hx7 := HA7.out; clear HA7; go_at_call 62; refine (H62r.out A7 c7 hx7 _ M.out.H V.out).mono ?_; rintro e wn ⟨⟨⟨⟨k1, k2, k3, k4, k5, k6⟩, k7, k8, k9, k10⟩, rfl, hcf, hq⟩, hb⟩; have MN := Lib.hid (M.out.next hb); have BN := Lib.hid (hb0to B.out hb); have M := MN; have B := BN; clear MN BN; clear hx7; have HG2 := Lib.hid (CopRet.fair hcf hq).1; have VN := Lib.hid (ints_later V.out hb); have V := VN; clear VN hcf hq; obtain ⟨r0, r1, r2, r3, r4, r5, r6, r7⟩ := M.out.x.cells; clear hb)
            | (go_at_call 62; refine (H62l.out _ M.out.H M.out.I).mono ?_; rintro e wn ⟨⟨⟨⟨j1, j2, j3, j4, j5, j6⟩, j7, j8, j9, j10⟩, rfl, hcf, hq⟩, hb⟩; have MN := Lib.hid (M.out.next hb); have BN := Lib.hid (hb0to B.out hb); have M := MN; have B := BN; clear MN BN; have HG4 := Lib.hid (CopRet.fair hcf hq).1; have VN := Lib.hid (ints_later V.out hb); have V := VN; clear VN hcf hq; obtain ⟨r0, r1, r2, r3, r4, r5, r6, r7⟩ := M.out.x.cells; clear hb)
            | (have hg9 := HG2.out; clear HG2; go_at_call 25; refine (H25r.out _ _ hg9).mono ?_; rintro e wn ⟨rfl, hb⟩; have MN := Lib.hid (M.out.next hb); have BN := Lib.hid (hb0to B.out hb); have M := MN; have B := BN; clear MN BN; have VN := Lib.hid (ints_later V.out hb); have V := VN; clear VN hg9; obtain ⟨r0, r1, r2, r3, r4, r5, r6, r7⟩ := M.out.x.cells; clear hb)
            | (have hg9 := HG4.out; clear HG4; go_at_call 25; refine (H25l.out _ _ hg9).mono ?_; rintro e wn ⟨rfl, hb⟩; have MN := Lib.hid (M.out.next hb); have BN := Lib.hid (hb0to B.out hb); have M := MN; have B := BN; clear MN BN; have VN := Lib.hid (ints_later V.out hb); have V := VN; clear VN hg9; obtain ⟨r0, r1, r2, r3, r4, r5, r6, r7⟩ := M.out.x.cells; clear hb)
            | (go_at_call 58; refine (H58.out A7 c7 _ M.out.I V.out).mono ?_; rintro e wn ⟨rfl, hb⟩; have MN := Lib.hid (M.out.next hb); have BN := Lib.hid (hb0to B.out hb); have M := MN; have B := BN; clear MN BN; skip; obtain ⟨r0, r1, r2, r3, r4, r5, r6, r7⟩ := M.out.x.cells; clear hb)
            | (go_at_call 19; refine (works_any _).mono ?_; rintro e wn ⟨rfl, hb⟩; have MN := Lib.hid (M.out.next hb); have BN := Lib.hid (hb0to B.out hb); have M := MN; have B := BN; clear MN BN; skip; obtain ⟨r0, r1, r2, r3, r4, r5, r6, r7⟩ := M.out.x.cells; clear hb))
          go_ret
          exact ⟨rfl, hb0to HBW.out B.out⟩
  · rw [hh] at H59
    clear hok hh hA
    obtain ⟨L, Ap, cp, Aq, cq⟩ := F
    go_enter Try.func14, Try.ntmps14
    go_upto_region 1 with (fail)
    have e := HW0.out
    rw [e]
    clear e
    go_wp2_with (first
      | (go_at_call 59; refine (H59.out _ M.out.H).mono ?_; rintro e wn ⟨rfl, hb⟩; have MN := Lib.hid (M.out.next hb); have BN := Lib.hid (hb0to B.out hb); have M := MN; have B := BN; clear MN BN; skip; obtain ⟨r0, r1, r2, r3, r4, r5, r6, r7⟩ := M.out.x.cells; clear hb)
      | (go_at_call 19; refine (works_any _).mono ?_; rintro e wn ⟨rfl, hb⟩; have MN := Lib.hid (M.out.next hb); have BN := Lib.hid (hb0to B.out hb); have M := MN; have B := BN; clear MN BN; skip; obtain ⟨r0, r1, r2, r3, r4, r5, r6, r7⟩ := M.out.x.cells; clear hb))
    go_ret
    exact ⟨rfl, hb0to HBW.out B.out⟩

end Go.Proofs.Ytmconopnplgcfaa
