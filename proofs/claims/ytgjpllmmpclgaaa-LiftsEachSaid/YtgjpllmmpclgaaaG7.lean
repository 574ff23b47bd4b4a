import Derived.Test.YtgjpllmmpclgaaaM8
import Derived.Test.YtgjpllmmpclgaaaG6
namespace Go.Proofs.Ytgjpllmmpclgaaa
open Go.RowKit

/-! LiftsEach. -/
/-- What LiftsEach keeps. -/
structure EIn (W : World) (b : Nat) (L : SL) (s : Sea) (n k : Int) (A : Option Addr) (p : List Int) : Prop where
  H : SeaAt W W.heap.size L s
  x : SBox W b L s
  y : W.heap[b + 1]? = some (.cells #[.int .i64 n, .int .i64 k] 65 (0, 0))
  i : IntsAt W W.heap.size A p
theorem EIn.next {W W' : World} {b : Nat} {L : SL} {s : Sea} {n k : Int} {A : Option Addr} {p : List Int} (h : EIn W b L s n k A p) (hb : Below W.heap.size W W') : EIn W' b L s n k A p :=
  ⟨h.H.below hb, h.x.of (hb.block _ h.x.lt), (hb.block _ (heap_lt h.y)).trans h.y, ints_later h.i hb⟩
theorem EIn.c {W : World} {b : Nat} {L : SL} {s : Sea} {n k : Int} {A : Option Addr} {p : List Int} (h : EIn W b L s n k A p) :
    W.cell? ⟨b, 0, none⟩ = some (.int .i64 s.wl) ∧ W.cell? ⟨b, 1, none⟩ = some (.int .i64 s.wh) ∧ W.cell? ⟨b, 2, none⟩ = some (.slice L.Ap s.ps.length L.cp) ∧ W.cell? ⟨b, 3, none⟩ = some (.slice L.Ab s.bs.length L.cb) ∧ W.cell? ⟨b + 1, 0, none⟩ = some (.int .i64 n) ∧ W.cell? ⟨b + 1, 1, none⟩ = some (.int .i64 k) := by
  obtain ⟨h0, h1, h2, h3⟩ := h.x.cells
  exact ⟨h0, h1, h2, h3, cell_of_heap (o := 0) h.y rfl, cell_of_heap (o := 1) h.y rfl⟩
theorem Share_at (L : SL) (s : Sea) (hv : validS s = true) (i : Nat) (hi : i < s.ps.length) (w : World) (hW : SeaAt w w.heap.size L s) : Calls Try.prog 46 #[L.enc s, .int .i64 i] w fun e w' => e = .returned (.tuple #[.agg #[.int .i64 (shares s i).1, .int .i64 (shares s i).2], .int .i64 0]) ∧ Below w.heap.size w w' := by
  have h := Share_any L s (by have := (SOK.ofValid hv).pl; omega) i w hW
  rw [share_ret hv hi] at h
  exact h
theorem Load_at (L : SL) (s : Sea) (hv : validS s = true) (i : Nat) (hi : i < s.ps.length) (w : World) (hW : SeaAt w w.heap.size L s) : Calls Try.prog 47 #[L.enc s, .int .i64 i] w fun e w' => e = .returned (.tuple #[.agg #[.int .i64 (s.wl * (shares s i).1), .int .i64 (s.wh * (shares s i).2)], .int .i64 0]) ∧ Below w.heap.size w w' := by
  have h := Load_any L s (by have := (SOK.ofValid hv).pl; omega) i w hW
  rw [load_ret hv hi] at h
  exact h
theorem has_yes (a b v : Int) (h : inR v a b = true) (W : World) : Calls Try.prog 48 #[.agg #[.int .i64 a, .int .i64 b], .int .i64 v] W fun e w' => e = .returned (.bool true) ∧ Below W.heap.size W w' := by
  rw [← h]; exact has_any (a, b) v W
set_option maxRecDepth 100000 in
set_option maxHeartbeats 8000000 in
theorem each_law (L : SL) (s : Sea) (n k : Int) (A : Option Addr) (cv : Nat) (p : List Int) (hA : A = none → cv = 0 ∧ p = []) (w : World) (hH : SeaAt w w.heap.size L s) (hI : IntsAt w w.heap.size A p) : Calls Try.prog 9 #[L.enc s, .agg #[.int .i64 n, .int .i64 k], .slice A p.length cv] w fun e w' => e = .returned (.bool true) ∧ Below w.heap.size w w' := by
  have hbw := hb0to (al_below w (.cells #[.int .i64 s.wl, .int .i64 s.wh, .slice L.Ap s.ps.length L.cp, .slice L.Ab s.bs.length L.cb] 27)) (al_below _ (.cells #[.int .i64 n, .int .i64 k] 65))
  have hx0 := (SBox.new w L s).of (Below.heap_alloc _ (.cells #[.int .i64 n, .int .i64 k] 65) _ (by simp))
  have hy0 := heap_new2 w (.cells #[.int .i64 s.wl, .int .i64 s.wh, .slice L.Ap s.ps.length L.cp, .slice L.Ab s.bs.length L.cb] 27) (.cells #[.int .i64 n, .int .i64 k] 65)
  obtain ⟨W0, hW0⟩ : ∃ W0, (w.alloc (.cells #[.int .i64 s.wl, .int .i64 s.wh, .slice L.Ap s.ps.length L.cp, .slice L.Ab s.bs.length L.cb] 27)).alloc (.cells #[.int .i64 n, .int .i64 k] 65) = W0 := ⟨_, rfl⟩
  rw [hW0] at hbw hx0 hy0
  have HM := Lib.hid (EIn.mk (hH.below hbw) hx0 hy0 (ints_later hI hbw))
  have HBW := Lib.hid hbw
  have BX := Lib.hid (Below.refl W0.heap.size W0)
  have HW0 := Lib.hid hW0
  have HA := Lib.hid hA
  obtain ⟨c0, c1, c2, c3, c4, c5⟩ := HM.out.c
  have HR := Lib.hid (fun W hW => ready_any L s W hW)
  clear hbw hx0 hy0 hW0 hH hI hA
  cases hv : validS s
  · rw [hv] at HR
    clear hv
    as_aux_lemma =>
    obtain ⟨Ap, cp, Ab, cb⟩ := L
    go_enter Try.func9, Try.ntmps9
    go_upto_region 1 with (fail)
    have e := HW0.out
    rw [e]
    clear e
    go_wp2_with (first
      | (go_at_call 16; refine (HR.out W0 HM.out.H).mono ?_; rintro e w1 ⟨rfl, hb⟩; have M1 := Lib.hid (HM.out.next hb); obtain ⟨r0, r1, r2, r3, r4, r5⟩ := M1.out.c; have B1 := Lib.hid (hb0to BX.out hb); clear hb)
      | (go_at_call 17; refine (works_any _).mono ?_; rintro e w9 ⟨rfl, hb9⟩; have B9 := Lib.hid (hb0to B1.out hb9); clear hb9))
    go_ret
    exact ⟨rfl, hb0to HBW.out B9.out⟩
  · rw [hv] at HR
    by_cases h40 : 40 < p.length
    · have hd : decide ((40 : Int) < (p.length : Int)) = true := decide_eq_true (by omega)
      clear hv h40
      as_aux_lemma =>
      obtain ⟨Ap, cp, Ab, cb⟩ := L
      go_enter Try.func9, Try.ntmps9
      go_upto_region 1 with (fail)
      have e := HW0.out
      rw [e]
      clear e
      go_wp2_with (first
      | (go_at_call 16; refine (HR.out W0 HM.out.H).mono ?_; rintro e w1 ⟨rfl, hb⟩; have M1 := Lib.hid (HM.out.next hb); obtain ⟨r0, r1, r2, r3, r4, r5⟩ := M1.out.c; have B1 := Lib.hid (hb0to BX.out hb); clear hb)
      | (go_at_call 17; refine (works_any _).mono ?_; rintro e w9 ⟨rfl, hb9⟩; have B9 := Lib.hid (hb0to B1.out hb9); clear hb9))
      go_ret
      exact ⟨rfl, hb0to HBW.out B9.out⟩
    · have hd : decide ((40 : Int) < (p.length : Int)) = false := decide_eq_false (by omega)
      have hp4 : p.length ≤ 1000 := by omega
      cases hin : inR n s.wl s.wh
      · have HIN := Lib.hid hin
        clear hv h40 hin
        as_aux_lemma =>
        obtain ⟨Ap, cp, Ab, cb⟩ := L
        go_enter Try.func9, Try.ntmps9
        go_upto_region 1 with (fail)
        have e := HW0.out
        rw [e]
        clear e
        go_wp2_with (first
          | (go_at_call 16; refine (HR.out W0 HM.out.H).mono ?_; rintro e w1 ⟨rfl, hb⟩; have M1 := Lib.hid (HM.out.next hb); obtain ⟨r0, r1, r2, r3, r4, r5⟩ := M1.out.c; have B1 := Lib.hid (hb0to BX.out hb); clear hb)
          | (go_at_call 28; refine (within28_any _ _ _ _).mono ?_; rintro e w' ⟨rfl, rfl⟩; rw [HIN.out])
          | (go_at_call 17; refine (works_any _).mono ?_; rintro e w9 ⟨rfl, hb9⟩; have B9 := Lib.hid (hb0to B1.out hb9); clear hb9))
        go_ret
        exact ⟨rfl, hb0to HBW.out B9.out⟩
      · have HIN := Lib.hid hin
        have hS := SOK.ofValid hv
        have H30 := Lib.hid (fun W hW hI => areParts_any L s hS p A cv hp4 W hW hI)
        cases hpb : partsB s p
        · rw [hpb] at H30
          clear hv h40 hin hpb hS
          as_aux_lemma =>
          obtain ⟨Ap, cp, Ab, cb⟩ := L
          go_enter Try.func9, Try.ntmps9
          go_upto_region 1 with (fail)
          have e := HW0.out
          rw [e]
          clear e
          go_wp2_with (first
            | (go_at_call 16; refine (HR.out W0 HM.out.H).mono ?_; rintro e w1 ⟨rfl, hb⟩; have M1 := Lib.hid (HM.out.next hb); obtain ⟨r0, r1, r2, r3, r4, r5⟩ := M1.out.c; have B1 := Lib.hid (hb0to BX.out hb); clear hb)
            | (go_at_call 28; refine (within28_any _ _ _ _).mono ?_; rintro e w' ⟨rfl, rfl⟩; rw [HIN.out])
            | (go_at_call 30; refine (H30.out w1 M1.out.H M1.out.i).mono ?_; rintro e w2 ⟨rfl, hb⟩; have M2 := Lib.hid (M1.out.next hb); obtain ⟨s0, s1, s2, s3, s4, s5⟩ := M2.out.c; have B2 := Lib.hid (hb0to B1.out hb); clear hb)
            | (go_at_call 17; refine (works_any _).mono ?_; rintro e w9 ⟨rfl, hb9⟩; have B9 := Lib.hid (hb0to B2.out hb9); clear hb9))
          go_ret
          exact ⟨rfl, hb0to HBW.out B9.out⟩
        · rw [hpb] at H30
          have hpt := partsB_iff.1 hpb
          have hpln := hpt.len
          have hpl := hS.pl
          have H19 := Lib.hid (fun W hW => needs_any L s hv W hW)
          have H45 := Lib.hid (fun Ax cx W hW hI => Holds_any L s n p Ax cx W hW hI)
          rw [holds_ret hv hin hpb] at H45
          obtain ⟨i0, i1⟩ := inR_true.1 hin
          have hw0 := hS.w0
          have hw2 := hS.w2
          have HEP := Lib.hid (fun (i : Nat) v hv => each_plain hS hpt i0 i1 (i := i) (v := v) hv)
          have H46 := Lib.hid (fun L' (i : Nat) (hi : i < s.ps.length) W hW => Share_at L' s hv i hi W hW)
          have H47 := Lib.hid (fun L' (i : Nat) (hi : i < s.ps.length) W hW => Load_at L' s hv i hi W hW)
          have H39 := Lib.hid (fun L' W => rIsPlace_any L' s k W (by omega))
          have HS := Lib.hid hS
          have HPL := Lib.hid hpln
          have hlp : p.length ≤ s.ps.length := by omega
          clear hv h40 hin hpb hS hpt hpln
          as_aux_lemma =>
          obtain ⟨Ap, cp, Ab, cb⟩ := L
          go_enter Try.func9, Try.ntmps9
          go_upto_region 1 with (fail)
          have e := HW0.out
          rw [e]
          clear e
          go_upto_region 4 with (first
            | (go_at_call 16; refine (HR.out W0 HM.out.H).mono ?_; rintro e w1 ⟨rfl, hb⟩; have M1 := Lib.hid (HM.out.next hb); obtain ⟨r0, r1, r2, r3, r4, r5⟩ := M1.out.c; have B1 := Lib.hid (hb0to BX.out hb); clear hb)
            | (go_at_call 28; refine (within28_any _ _ _ _).mono ?_; rintro e w' ⟨rfl, rfl⟩; rw [HIN.out])
            | (go_at_call 30; refine (H30.out w1 M1.out.H M1.out.i).mono ?_; rintro e w2 ⟨rfl, hb⟩; have M2 := Lib.hid (M1.out.next hb); obtain ⟨s0, s1, s2, s3, s4, s5⟩ := M2.out.c; have B2 := Lib.hid (hb0to B1.out hb); clear hb)
            | (go_at_call 19; refine (H19.out w2 M2.out.H).mono ?_; rintro e w3 ⟨⟨A7, c7, rfl, hA7⟩, hb⟩; have M3 := Lib.hid (M2.out.next hb); obtain ⟨t0, t1, t2, t3, t4, t5⟩ := M3.out.c; have B3 := Lib.hid (hb0to B2.out hb); have I7 := Lib.hid hA7.ints; clear hb hA7))
          have HI0 := Lib.hid (ints_made w3 w3.heap.size (Nat.le_refl _))
          go_cut [9, 10] (fun s9 s10 wx => s9 = .bool true ∧ s10 = .int .i64 0 ∧ Hid (Below w3.heap.size w3 wx))
          case first =>
            go_region_held3 (fun w' => w'.cell? ⟨w.heap.size, 0, none⟩ = some (.int .i64 s.wl) ∧ w'.cell? ⟨w.heap.size, 1, none⟩ = some (.int .i64 s.wh) ∧ w'.cell? ⟨w.heap.size, 2, none⟩ = some (.slice Ap s.ps.length cp) ∧ w'.cell? ⟨w.heap.size, 3, none⟩ = some (.slice Ab s.bs.length cb) ∧ w'.cell? ⟨w.heap.size + 1, 0, none⟩ = some (.int .i64 n)) (first | go_keep)
              (first
                | (refine step_copyI (by rfl) (.tmp 58) (.tmp 59) (by rfl) w3.heap.size _ [] (by rfl) (show Ints (w3.alloc (.cells #[] 3)).drew w3.heap.size _ [] from HI0.out) A cv p HA.out (by rfl) (ints_later M3.out.i (al_below w3 (.cells #[] 3)).drew) (by simp) (by omega) (by simp) ?_; intro v4 w4 h1 h2; have B4 := Lib.hid ((al_below w3 (.cells #[] 3)).drew.trans h2); obtain ⟨A4, c4', rfl, -, -, hA4⟩ := (show Ints w4 w3.heap.size v4 p from h1).lay; have I4 := Lib.hid hA4.at_; have M4 := Lib.hid (M3.out.next B4.out); obtain ⟨u0, u1, u2, u3, u4, u5⟩ := M4.out.c; clear h1 h2 hA4)
                | (go_at_call 45; refine (H45.out A4 c4' w4 M4.out.H I4.out).mono ?_; rintro e w5 ⟨rfl, hb⟩; have B5 := Lib.hid (hb0to B4.out hb); have M5 := Lib.hid (M4.out.next hb); obtain ⟨v0, v1, v2, v3, v4, v5⟩ := M5.out.c; clear hb))
            all_goals
              go_wp2_with (fail)
              go_meet
              exact ⟨rfl, rfl, B5⟩
          case rest =>
            obtain ⟨rfl, rfl, hb4⟩ := hcut
            obtain ⟨w4, rfl⟩ : ∃ x : World, x = wc := ⟨_, rfl⟩
            have M4 := Lib.hid (M3.out.next hb4.out)
            have B4 := Lib.hid (hb0to B3.out hb4.out)
            have I74 := Lib.hid (ints_later I7.out hb4.out)
            clear r0 r1 r2 r3 r4 r5 s0 s1 s2 s3 s4 s5 t0 t1 t2 t3 t4 t5 c0 c1 c2 c3 c4 c5
            go_wp2_with (fail)
            go_loopw [11] (fun i wr => ∃ m : Nat, m ≤ p.length ∧ i = .int .i64 m ∧ Hid (Below w4.heap.size w4 wr)) (fun i _ => p.length - (intOf i).toNat)
            case atStart => exact ⟨0, Nat.zero_le _, rfl, Lib.hid (Below.refl _ _)⟩
            case round =>
              obtain ⟨m, hm, rfl, hb⟩ := hrel
              have M5 := Lib.hid (M4.out.next hb.out)
              have I75 := Lib.hid (ints_later I74.out hb.out)
              obtain ⟨r0, r1, r2, r3, r4, r5⟩ := M5.out.c
              by_cases hlt : m < p.length
              · obtain ⟨v, hvv⟩ : ∃ v, p[m]? = some v := ⟨_, List.getElem?_eq_getElem hlt⟩
                obtain ⟨⟨e1, e2⟩, ⟨e3, e4⟩, e5, e6, e7⟩ := HEP.out m v hvv
                have hms : m < s.ps.length := by omega
                have H46m := Lib.hid (fun L' W hW => H46.out L' m hms W hW)
                have H47m := Lib.hid (fun L' W hW => H47.out L' m hms W hW)
                have hnl := needsL_at (s := s) hms
                obtain ⟨_, _, eA7, _, q7⟩ := I75.out.at_ hnl
                have hnb := needN_bd HS.out hms
                generalize shares s m = sh at H46m H47m e1 e2 e3 e4
                generalize needN s m = nd at e5 q7 hnb
                have h1 : inR v sh.1 sh.2 = true := inR_true.2 ⟨e1, e2⟩
                have h2 : inR (n * v) (s.wl * sh.1) (s.wh * sh.2) = true := inR_true.2 ⟨e3, e4⟩
                have H1 := Lib.hid h1
                have H2 := Lib.hid h2
                have hm0 : 0 ≤ n * v := Int.mul_nonneg (by omega) e6
                have hm1 : n * v ≤ 2000 * 12 := Int.mul_le_mul (by omega) e7 e6 (by omega)
                have hw1 : IntKind.i64.wrap (n * v) = n * v := IntWalk.i64_in _ (by omega)
                have hw3 : IntKind.i64.wrap (12 * nd) = 12 * nd := IntWalk.i64_in _ (by omega)
                have hdl : decide (12 * nd < n * v) = false := decide_eq_false (by omega)
                have HVV := Lib.hid hvv
                have HQ7 := Lib.hid q7
                clear hvv hnl e1 e2 e3 e4 e5 hm0 hm1 h1 h2 q7
                subst eA7
                as_aux_lemma =>
                go_upto_region 12 with (first
                  | (go_at_call 46; refine (H46m.out _ wr M5.out.H).mono ?_; rintro e w6 ⟨rfl, hb6⟩; have B6 := Lib.hid (hb0to hb6 (al_below w6 (.cells #[.int .i64 sh.1, .int .i64 sh.2] 23))); have M6 := Lib.hid (M5.out.next B6.out); obtain ⟨s0, s1, s2, s3, s4, s5⟩ := M6.out.c; have P6 := Lib.hid (show PairBox _ w6.heap.size sh from heap_new1 w6 (.cells #[.int .i64 sh.1, .int .i64 sh.2] 23)); clear hb6)
                  | (go_at_call 47; refine (H47m.out _ _ M6.out.H).mono ?_; rintro e w7 ⟨rfl, hb7⟩; have hk7 := hb0to hb7 (al_below w7 (.cells #[.int .i64 (s.wl * sh.1), .int .i64 (s.wh * sh.2)] 23)); have B7 := Lib.hid (hb0to B6.out hk7); have M7 := Lib.hid (M6.out.next hk7); obtain ⟨t0, t1, t2, t3, t4, t5⟩ := M7.out.c; have P7 := Lib.hid (P6.out.next hk7); have Q7 := Lib.hid (show PairBox _ w7.heap.size (s.wl * sh.1, s.wh * sh.2) from heap_new1 w7 (.cells #[.int .i64 (s.wl * sh.1), .int .i64 (s.wh * sh.2)] 23)); clear hb7 hk7))
                obtain ⟨X7, hX7⟩ : ∃ X7, w7.alloc (.cells #[.int .i64 (s.wl * sh.1), .int .i64 (s.wh * sh.2)] 23) = X7 := ⟨_, rfl⟩
                rw [hX7] at M7 B7 P7 Q7 t0 t1 t2 t3 t4 t5 ⊢
                clear hX7 r0 r1 r2 r3 r4 r5 s0 s1 s2 s3 s4 s5 M6 P6 B6
                obtain ⟨bi, oi, eA, _, q1⟩ := M7.out.i.at_ HVV.out
                have q7 := below_cell B7.out HQ7.out
                obtain ⟨d0, d1⟩ := P7.out.cells
                obtain ⟨d2, d3⟩ := Q7.out.cells
                simp only at d2 d3
                have ex1 := extB_cell t4
                have ex2 := extB_cell q1
                have X1 := Lib.hid q1
                have X2 := Lib.hid q7
                have X3 := Lib.hid d0
                have X4 := Lib.hid d1
                have X5 := Lib.hid d2
                have X6 := Lib.hid d3
                have hms' : m < s.ps.length := hms
                clear t0 t1 t2 t3 t4 t5 q1 q7 d0 d1 d2 d3
                subst eA
                as_aux_lemma =>
                refine wp_region_extW (by kernel_rfl) (by kernel_rfl) ?_
                repeat (go_big_quiet_step (fail))
                refine wpQuiet_nil ?_
                rintro _ ⟨y1, rfl⟩
                clear ex1 ex2
                have ex1 := extB_cell (below_cell (extB_below X7 y1) X1.out)
                have ex2 := extB_cell (below_cell (extB_below X7 y1) X2.out)
                have ex3 := extB_cell (below_cell (extB_below X7 y1) X3.out)
                have ex4 := extB_cell (below_cell (extB_below X7 y1) X4.out)
                have ex5 := extB_cell (below_cell (extB_below X7 y1) X5.out)
                have ex6 := extB_cell (below_cell (extB_below X7 y1) X6.out)
                have B8 := Lib.hid (hb0to hb.out (hb0to B7.out (extB_below X7 y1)))
                obtain ⟨X8, hX8⟩ : ∃ X8, extB X7 y1 = X8 := ⟨_, rfl⟩
                rw [hX8] at ex1 ex2 ex3 ex4 ex5 ex6 B8 ⊢
                clear hX8
                go_upto_region 13 with (fail)
                refine wp_region_extW (by kernel_rfl) (by kernel_rfl) ?_
                repeat (go_big_quiet_step ((go_at_call 48; exact ext_call (has_yes _ _ _ (by first | exact H1.out | exact H2.out) _))))
                refine wpQuiet_nil ?_
                rintro _ ⟨y2, rfl⟩
                have hb9 := hb0to B8.out (extB_below X8 y2)
                go_wp2_with (fail)
                go_roundw
                case rel => exact ⟨m + 1, by omega, by go_num, Lib.hid hb9⟩
                case measure => simp [intOf]; omega
              · obtain rfl : m = p.length := by omega
                clear r0 r1 r2 r3 r4 r5
                obtain ⟨wq, rfl⟩ : ∃ x : World, x = wr := ⟨_, rfl⟩
                have B5 := Lib.hid (hb0to B4.out hb.out)
                obtain ⟨r0, r1, r2, r3, r4, r5⟩ := M5.out.c
                have H39k := Lib.hid (fun L' => H39.out L' wq)
                cases hpk : inR k 0 ((s.ps.length : Int) - 1)
                · rw [hpk] at H39k
                  clear hpk
                  as_aux_lemma =>
                  go_wp2_with (first
                    | (go_at_call 39; refine (H39k.out ⟨Ap, cp, Ab, cb⟩).mono ?_; rintro e w6 ⟨rfl, hb6⟩; have B6 := Lib.hid (hb0to B5.out hb6); clear hb6)
                    | (go_at_call 17; refine (works_any _).mono ?_; rintro e w9 ⟨rfl, hb9⟩; have B9 := Lib.hid (hb0to B6.out hb9); clear hb9))
                  go_ret
                  exact ⟨rfl, hb0to HBW.out B9.out⟩
                · rw [hpk] at H39k
                  obtain ⟨k0, k1⟩ := inR_true.1 hpk
                  obtain ⟨kn, rfl⟩ : ∃ kn : Nat, k = kn := ⟨k.toNat, by omega⟩
                  have hkn : kn < s.ps.length := by omega
                  obtain ⟨x, hx⟩ : ∃ x, s.ps[kn]? = some x := ⟨_, List.getElem?_eq_getElem hkn⟩
                  have hsl := share_low hx
                  have H46k := Lib.hid (fun L' W hW => H46.out L' kn hkn W hW)
                  rw [hsl] at H46k
                  simp only at H46k
                  have HLS := Lib.hid (lowTo_self hx)
                  have HLO := Lib.hid (fun (i : Nat) (y : Int × Int) (hy : s.ps[i]? = some y) (hne : i ≠ kn) => lowTo_other (k := kn) hy hne)
                  have HLB := Lib.hid (fun (i : Nat) (hi : i ≤ s.ps.length) => lowTo_bd HS.out kn hi)
                  have HL0 : lowTo s kn 0 = 0 ∧ highTo s kn 0 = 0 := by unfold lowTo highTo; simp [sumL, sumH]
                  have HX := Lib.hid hx
                  have hpx := HS.out.p x (List.mem_of_getElem? hx)
                  have HLZ := Lib.hid HL0
                  obtain ⟨hi0, hi1, hi2, hi3⟩ := HLB.out s.ps.length (Nat.le_refl _)
                  obtain ⟨lo, hlo⟩ : ∃ y, lowTo s kn s.ps.length = y := ⟨_, rfl⟩
                  obtain ⟨hh, hhh⟩ : ∃ y, highTo s kn s.ps.length = y := ⟨_, rfl⟩
                  rw [hlo, hhh] at H46k
                  rw [hlo] at hi0 hi1
                  rw [hhh] at hi2 hi3
                  have HLW := Lib.hid (And.intro hlo hhh)
                  clear hpk hsl hx HL0 hlo hhh
                  obtain ⟨a, ha⟩ : ∃ y, max x.1 (12 - hh) = y := ⟨_, rfl⟩
                  obtain ⟨b, hb2⟩ : ∃ y, min x.2 (12 - lo) = y := ⟨_, rfl⟩
                  rw [ha, hb2] at H46k
                  have HAB := Lib.hid (And.intro ha hb2)
                  clear ha hb2
                  as_aux_lemma =>
                  go_upto_region 18 with (first
                    | (go_at_call 39; refine (H39k.out ⟨Ap, cp, Ab, cb⟩).mono ?_; rintro e w6 ⟨rfl, hb6⟩; have M6 := Lib.hid (M5.out.next hb6); obtain ⟨s0, s1, s2, s3, s4, s5⟩ := M6.out.c; have B6 := Lib.hid (hb0to B5.out hb6); clear hb6)
                    | (go_at_call 46; refine (H46k.out ⟨Ap, cp, Ab, cb⟩ w6 M6.out.H).mono ?_; rintro e w7 ⟨rfl, hb7⟩; have hk7 := hb0to hb7 (al_below w7 (.cells #[.int .i64 a, .int .i64 b] 23)); have M7 := Lib.hid (M6.out.next hk7); obtain ⟨t0, t1, t2, t3, t4, t5⟩ := M7.out.c; have P7 := Lib.hid (show PairBox _ w7.heap.size (a, b) from heap_new1 w7 (.cells #[.int .i64 a, .int .i64 b] 23)); have B7 := Lib.hid (hb0to B6.out hk7); clear hb7 hk7))
                  obtain ⟨X7, hX7⟩ : ∃ X7, w7.alloc (.cells #[.int .i64 a, .int .i64 b] 23) = X7 := ⟨_, rfl⟩
                  rw [hX7] at M7 B7 P7 t0 t1 t2 t3 t4 t5 ⊢
                  clear hX7 r0 r1 r2 r3 r4 r5 s0 s1 s2 s3 s4 s5
                  go_wp2_with (fail)
                  clear t0 t1 t2 t3 t4 t5
                  go_loopw [18, 19, 20] (fun v18 v19 i wr => ∃ m : Nat, m ≤ s.ps.length ∧ i = .int .i64 m ∧ v18 = .int .i64 (lowTo s kn m) ∧ v19 = .int .i64 (highTo s kn m) ∧ Hid (Below X7.heap.size X7 wr)) (fun _ _ i _ => s.ps.length - (intOf i).toNat)
                  case atStart => exact ⟨0, Nat.zero_le _, rfl, by rw [HLZ.out.1], by rw [HLZ.out.2], Lib.hid (Below.refl _ _)⟩
                  case round =>
                    obtain ⟨m, hm, rfl, rfl, rfl, hb⟩ := hrel
                    have M8 := Lib.hid (M7.out.next hb.out)
                    obtain ⟨r0, r1, r2, r3, r4, r5⟩ := M8.out.c
                    by_cases hlt : m < s.ps.length
                    · by_cases hmk : m = kn
                      · have HMK := Lib.hid hmk
                        have hd3 : ((m : Int) != (kn : Int)) = false := by simp [hmk]
                        have HN := Lib.hid (show lowTo s kn (m + 1) = lowTo s kn m ∧ highTo s kn (m + 1) = highTo s kn m by rw [hmk]; exact HLS.out)
                        clear hmk
                        as_aux_lemma =>
                        go_wp2_with (fail)
                        go_roundw
                        case rel => exact ⟨m + 1, by omega, by go_num, by rw [HN.out.1], by rw [HN.out.2], hb⟩
                        case measure => simp [intOf]; omega
                      · have hd3 : ((m : Int) != (kn : Int)) = true := by simp; omega
                        obtain ⟨y, hy⟩ : ∃ y, s.ps[m]? = some y := ⟨_, List.getElem?_eq_getElem hlt⟩
                        have HN := Lib.hid (HLO.out m y hy hmk)
                        obtain ⟨l0, l1, l2, l3⟩ := HLB.out m hm
                        have hyb := HS.out.p y (List.mem_of_getElem? hy)
                        obtain ⟨bb, ob, eB, _, q1, q2⟩ := M8.out.H.p.at_ hy
                        simp only at eB
                        rw [eB] at r2
                        have ex1 := extB_cell q1
                        have ex2 := extB_cell q2
                        have ex3 := extB_cell r2
                        generalize lowTo s kn m = la at HN l0 l1
                        generalize highTo s kn m = lb at HN l2 l3
                        have hw1 : IntKind.i64.wrap (la + y.1) = la + y.1 := IntWalk.i64_in _ (by omega)
                        have hw2 : IntKind.i64.wrap (lb + y.2) = lb + y.2 := IntWalk.i64_in _ (by omega)
                        clear hy hmk q1 q2 eB
                        as_aux_lemma =>
                        go_upto_region 23 with (fail)
                        refine wp_region_extW (by kernel_rfl) (by kernel_rfl) ?_
                        repeat (go_big_quiet_step (fail))
                        refine wpQuiet_nil ?_
                        rintro _ ⟨y2, rfl⟩
                        have hb9 := hb0to hb.out (extB_below wr y2)
                        go_wp2_with (fail)
                        go_roundw
                        case rel => exact ⟨m + 1, by omega, by go_num, by rw [HN.out.1], by rw [HN.out.2], Lib.hid hb9⟩
                        case measure => simp [intOf]; omega
                    · obtain rfl : m = s.ps.length := by omega
                      rw [HLW.out.1, HLW.out.2]
                      obtain ⟨bb, ob, eB, _, q1, q2⟩ := M8.out.H.p.at_ HX.out
                      simp only at eB
                      rw [eB] at r2
                      obtain ⟨d0, d1⟩ := (P7.out.next hb.out).cells
                      simp only at d0 d1
                      have hln := heap_lt (P7.out.next hb.out)
                      have ne1 : ¬ wr.heap.size = w7.heap.size := by omega
                      have ne2 : ¬ w7.heap.size = wr.heap.size := by omega
                      have B8 := Lib.hid (hb0to B7.out hb.out)
                      have hkn2 : kn < s.ps.length := hkn
                      have hab := HAB.out
                      obtain ⟨x1, x2⟩ := x
                      simp only at hab q1 q2 hpx
                      have hka : (x1 < 12 - hh ∧ 12 - hh = a) ∨ (¬ x1 < 12 - hh ∧ x1 = a) := by omega
                      have hkb : (12 - lo < x2 ∧ 12 - lo = b) ∨ (¬ 12 - lo < x2 ∧ x2 = b) := by omega
                      clear eB hab HAB HLW
                      rcases hka with ⟨ka, rfl⟩ | ⟨ka, rfl⟩ <;> rcases hkb with ⟨kb, rfl⟩ | ⟨kb, rfl⟩
                      all_goals
                        have hA1 : decide (x1 < 12 - hh) = _ := (by first | exact decide_eq_true ka | exact decide_eq_false ka)
                        have hB1 : decide (12 - lo < x2) = _ := (by first | exact decide_eq_true kb | exact decide_eq_false kb)
                        as_aux_lemma =>
                        go_wp2_with (go_at_call 17; refine (works_any _).mono ?_; rintro e w9 ⟨rfl, hb9⟩; have B9 := Lib.hid (hb0to (hb0to B8.out (al_below wr (.cells #[.int .i64 x1, .int .i64 x2] 23))) hb9); clear hb9)
                        go_ret
                        exact ⟨rfl, hb0to HBW.out B9.out⟩
end Go.Proofs.Ytgjpllmmpclgaaa
