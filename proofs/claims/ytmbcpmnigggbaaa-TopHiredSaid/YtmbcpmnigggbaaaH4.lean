import Derived.Test.YtmbcpmnigggbaaaH3
import Derived.Test.YtmbcpmnigggbaaaHQ
import Derived.Test.YtmbcpmnigggbaaaLiM5
namespace Go.Proofs.Ytmbcpmnigggbaaa
open Go.RowKit
theorem ints_fresh {W : World} {g : Nat} {x : Int} (h : W.heap[g]? = some (.cells #[.int .i64 x] 3)) : Ints W 0 (.slice (some ⟨g, 0, none⟩) 1 1) [x] :=
  ⟨rfl, .inr ⟨g, 1, #[.int .i64 x], rfl, Nat.zero_le _, h, by simp, by unfold maxLen; omega, by simp, by simp⟩⟩
/-- The fair at work: its box, whose bids grow. -/
structure HIn (W0 : World) (z : Nat) (L' : HL) (A' : Option Addr) (c' P : Nat) (nb : Int) (Aq : Option Addr) (cq : Nat) (q : List Bid) (W : World) : Prop where
  x : FBox W z ⟨L', A', c', Aq, cq⟩ (hF P nb q)
  c : CopF W W0.heap.size ⟨L', A', c', Aq, cq⟩ (hF P nb q)
  q : OwnsQ InnOwn W W0.heap.size (.slice Aq q.length cq) q
  hz : W0.heap.size ≤ z
  B : Below W0.heap.size W0 W
theorem HIn.next {W0 : World} {z : Nat} {L' : HL} {A' : Option Addr} {c' P : Nat} {nb : Int} {Aq : Option Addr} {cq : Nat} {q : List Bid} {W : World} {W' : World} (M : HIn W0 z L' A' c' P nb Aq cq q W) (hb : Below W.heap.size W W') : HIn W0 z L' A' c' P nb Aq cq q W' :=
  ⟨M.x.of (hb.block _ M.x.lt), M.c.below hb, M.q.belowO hb, M.hz, hb0to M.B hb⟩
theorem HIn.fair {W0 : World} {z : Nat} {L' : HL} {A' : Option Addr} {c' P : Nat} {nb : Int} {Aq : Option Addr} {cq : Nat} {q : List Bid} {W : World} (M : HIn W0 z L' A' c' P nb Aq cq q W) : FairAt W W.heap.size ⟨L', A', c', Aq, cq⟩ (hF P nb q) := (CopRet.fair M.c M.q).1
theorem HIn.app {W0 : World} {z : Nat} {L' : HL} {A' : Option Addr} {c' P : Nat} {nb : Int} {Aq : Option Addr} {cq : Nat} {q : List Bid} {W : World} {w5 : World} {A5 : Option Addr} {c5 : Nat} {bd : Bid} (M : HIn W0 z L' A' c' P nb Aq cq q W) (ho : OwnsQ InnOwn w5 W0.heap.size (.slice A5 (q.length + 1) c5) (q ++ [bd])) (hb : Below W0.heap.size W w5) (hk : ∀ t, t ≠ 68 → KeepT t W w5) :
    FBox w5 z ⟨L', A', c', Aq, cq⟩ (hF P nb q) ∧ HIn W0 z L' A' c' P nb A5 c5 (q ++ [bd]) (w5.setCell ⟨z, 7, none⟩ (.slice A5 (q.length + 1) c5)) := by
  have hl : (q ++ [bd]).length = q.length + 1 := by simp
  have hx : FBox w5 z ⟨L', A', c', Aq, cq⟩ (hF P nb q) := hk 62 (by decide) _ _ M.x
  have hs : ∀ t (u : Value), t ≠ 62 → KeepT t w5 (w5.setCell ⟨z, 7, none⟩ u) := fun t u ht => KeepT.set hx (Ne.symm ht)
  have k2 : ∀ t (u : Value), t ≠ 62 → t ≠ 68 → KeepT t W (w5.setCell ⟨z, 7, none⟩ u) := fun t u h1 h2 => (hk t h2).trans (hs t u h1)
  refine ⟨hx, ?_, ?_, ?_, M.hz, ?_⟩
  · have e := heap_set (o := 7) (.slice A5 (q.length + 1) c5) hx
    rw [← hl] at e ⊢
    exact e
  · exact ⟨⟨M.c.h.k.keepT (k2 _ _ (by decide) (by decide)), M.c.h.p.keepT (k2 _ _ (by decide) (by decide)), M.c.h.b.keepT (k2 _ _ (by decide) (by decide))⟩, M.c.p.keepT (k2 _ _ (by decide) (by decide))⟩
  · rw [hl]; exact ho.keepO (hs _ _ (by decide)) (hs _ _ (by decide))
  · exact (M.B.trans hb).setCell (p := ⟨z, 7, none⟩) M.hz _
theorem HIn.new {W0 w5 : World} {n5 : Nat} {L' : HL} {A' : Option Addr} {c' P : Nat} {nb : Int} (hc : CopF w5 n5 ⟨L', A', c', none, 0⟩ (emptyF P nb)) (h5 : W0.heap.size ≤ n5) (hB : Below W0.heap.size W0 w5) :
    HIn W0 w5.heap.size L' A' c' P nb none 0 [] (w5.alloc (.cells #[.slice L'.Ak (emptyF P nb).h.ks.length L'.ck, .int .i64 (emptyF P nb).h.fl, .slice L'.Ap (emptyF P nb).h.ps.length L'.cp, .slice L'.Ab (emptyF P nb).h.bs.length L'.cb, .slice A' (emptyF P nb).pk.length c', .int .i64 (emptyF P nb).day, .int .i64 (emptyF P nb).nb, .slice none (emptyF P nb).q.length 0] 62)) where
  x := FBox.new w5 ⟨L', A', c', none, 0⟩ (emptyF P nb)
  c := (hc.below (al_below _ _)).mono h5
  q := ⟨[], rfl, World.ownsRow_nil _ _ _ _, by simp⟩
  hz := hB.size
  B := hb0to hB (al_below _ _)
theorem Li.needN_bd {s : Li.Sea} (hS : Li.SOK s) {k : Nat} (hk : k < s.ps.length) : 0 ≤ Li.needN s k ∧ Li.needN s k ≤ 2000 := by
  have h1 := Li.shares_bd hS hk
  have h2 : 0 ≤ s.wh * (Li.shares s k).2 := Int.mul_nonneg (by have := hS.w0; have := hS.w1; omega) h1.1
  have h3 : s.wh * (Li.shares s k).2 ≤ 2000 * 12 := Int.mul_le_mul hS.w2 h1.2.1 h1.1 (by omega)
  unfold Li.needN
  omega
theorem hF_fn {P : Nat} {nb : Int} {q : List Bid} (hP : P ≤ 4) (hq : q.length ≤ 1000) (hb : ∀ b ∈ q, b.bar.length ≤ 1000) : FN (hF P nb q) :=
  ⟨⟨by simp [hF, emptyF], by simp [hF, emptyF]; omega, by simp [hF, emptyF]; omega⟩, by simp [hF, emptyF, intsN_len]; omega, hq, hb⟩
theorem hire_bars {s : Li.Sea} {P : Nat} : ∀ b ∈ hireQ (okS s) (payS s) s.bs.length P, b.bar.length ≤ 1000 := fun b hb => by
  obtain ⟨k, j, _, _, _, rfl⟩ := mem_hire.1 hb
  simp
theorem IsSaleN (F : FL) (f : Fair) (hn : FN f) (hf : FOK f) (l : List Nat) (hl : l.length ≤ 1000) (A : Option Addr) (c : Nat) (w : World) (hF : FairAt w w.heap.size F f) (hI : IntsAt w w.heap.size A (intsN l)) :
    Calls Try.prog 35 #[F.enc f, .slice A l.length c] w fun e w' => e = .returned (.bool (isSaleB f.q (rdF f) (intsN l))) ∧ Below w.heap.size w w' := by
  have h := rIsSale_any F f hn hf (intsN l) (by rw [intsN_len]; exact hl) A c w hF hI
  rw [intsN_len] at h
  exact h
/-- The fair, laid, and its box. -/
structure FE (W0 : World) (z : Nat) (F : FL) (f : Fair) (W : World) : Prop where
  H : FairAt W W.heap.size F f
  x : FBox W z F f
  B : Below W0.heap.size W0 W
theorem FE.next {W0 : World} {z : Nat} {F : FL} {f : Fair} {W W' : World} (M : FE W0 z F f W) (hb : Below W.heap.size W W') : FE W0 z F f W' := ⟨M.H.below hb, M.x.of (hb.block _ M.x.lt), hb0to M.B hb⟩
set_option maxRecDepth 100000 in
set_option maxHeartbeats 4000000 in
theorem hire_law (L : Li.SL) (s : Li.Sea) (hnl : s.ps.length ≤ 9223372036854775807 ∧ s.bs.length ≤ 9223372036854775807) (w : World) (hH : Li.SeaAt w w.heap.size L s) :
    Calls Try.prog 5 #[L.enc s] w fun e w' => e = .returned (.bool true) ∧ Below w.heap.size w w' := by
  obtain ⟨W0, hW0⟩ : ∃ W0, w.alloc (.cells #[.int .i64 s.wl, .int .i64 s.wh, .slice L.Ap s.ps.length L.cp, .slice L.Ab s.bs.length L.cb] 44) = W0 := ⟨_, rfl⟩
  have hbw : Below w.heap.size w W0 := by rw [← hW0]; exact al_below _ _
  have hx0 : Li.SBox W0 w.heap.size L s := by rw [← hW0]; exact Li.SBox.new w L s
  have HW0 := Lib.hid hW0
  have HBW := Lib.hid hbw
  have HX := Lib.hid hx0
  have HS := Lib.hid (hH.below hbw)
  have hlt0 : w.heap.size < W0.heap.size := hx0.lt
  obtain ⟨s0, s1, s2, s3⟩ := hx0.cells
  have B := Lib.hid (Below.refl W0.heap.size W0)
  clear hW0 hbw hx0 hH
  have H17 := Lib.hid (fun W => Li.far_any L s W)
  have H18 := Lib.hid (fun W hW => Li.rcheck_any L s W hW)
  cases hfar : Li.farB s
  · rw [hfar] at H17
    cases hv : Li.validS s
    · have e18 : Li.ckS s = 50 := by simp [Li.ckS, hv]
      rw [e18] at H18
      clear hfar hv e18 hnl
      obtain ⟨Ap, cp, Ab, cb⟩ := L
      go_enter Try.func5, Try.ntmps5
      go_upto_region 1 with (fail)
      have e := HW0.out
      rw [e]
      clear e
      go_wp2_with (first
        | (go_at_call 17; refine (H17.out _).mono ?_; rintro e wn ⟨rfl, hb⟩; have BN := Lib.hid (hb0to B.out hb); have B := BN; clear BN; obtain ⟨s0, s1, s2, s3⟩ := (HX.out.of (B.out.block _ HX.out.lt)).cells; clear hb)
        | (go_at_call 18; refine (H18.out _ (HS.out.below B.out)).mono ?_; rintro e wn ⟨rfl, hb⟩; have BN := Lib.hid (hb0to B.out hb); have B := BN; clear BN; obtain ⟨s0, s1, s2, s3⟩ := (HX.out.of (B.out.block _ HX.out.lt)).cells; clear hb)
        | (go_at_call 29; refine (hired_any _).mono ?_; rintro e wn ⟨rfl, hb⟩; have BN := Lib.hid (hb0to B.out hb); have B := BN; clear BN; obtain ⟨s0, s1, s2, s3⟩ := (HX.out.of (B.out.block _ HX.out.lt)).cells; clear hb))
      go_ret
      exact ⟨rfl, hb0to HBW.out B.out⟩
    · have e18 : Li.ckS s = 0 := by simp [Li.ckS, hv]
      rw [e18] at H18
      have hS := Li.SOK.ofValid hv
      by_cases h4 : 4 < s.bs.length
      · have d4 : decide ((4 : Int) < (s.bs.length : Int)) = true := decide_eq_true (by omega)
        clear hfar hv e18 hS
        obtain ⟨Ap, cp, Ab, cb⟩ := L
        go_enter Try.func5, Try.ntmps5
        go_upto_region 1 with (fail)
        have e := HW0.out
        rw [e]
        clear e
        go_wp2_with (first
          | (go_at_call 17; refine (H17.out _).mono ?_; rintro e wn ⟨rfl, hb⟩; have BN := Lib.hid (hb0to B.out hb); have B := BN; clear BN; obtain ⟨s0, s1, s2, s3⟩ := (HX.out.of (B.out.block _ HX.out.lt)).cells; clear hb)
          | (go_at_call 18; refine (H18.out _ (HS.out.below B.out)).mono ?_; rintro e wn ⟨rfl, hb⟩; have BN := Lib.hid (hb0to B.out hb); have B := BN; clear BN; obtain ⟨s0, s1, s2, s3⟩ := (HX.out.of (B.out.block _ HX.out.lt)).cells; clear hb)
          | (go_at_call 29; refine (hired_any _).mono ?_; rintro e wn ⟨rfl, hb⟩; have BN := Lib.hid (hb0to B.out hb); have B := BN; clear BN; obtain ⟨s0, s1, s2, s3⟩ := (HX.out.of (B.out.block _ HX.out.lt)).cells; clear hb))
        go_ret
        exact ⟨rfl, hb0to HBW.out B.out⟩
      · have d4 : decide ((4 : Int) < (s.bs.length : Int)) = false := decide_eq_false (by omega)
        have hb4 : s.bs.length ≤ 4 := by omega
        have hp4 := hS.pl
        have H30 := Lib.hid (fun W => emptyFair_any s.ps.length (by omega) (s.bs.length : Int) W)
        have H31 := Lib.hid (fun (k : Nat) W hW => Li.Need_any L s (by omega) k W hW)
        have e31 : ∀ k : Nat, k < s.ps.length → Li.needRet s k = (Li.needN s k, 0) := fun k hk => by
          have hi : Li.inR k 0 (s.ps.length - 1) = true := Li.inR_true.2 (by omega)
          unfold Li.needRet
          rw [hi, Li.askS_true hv]
          simp
        have HE := Lib.hid e31
        have HNB := Lib.hid (fun k (hk : k < s.ps.length) => Li.needN_bd hS hk)
        have HV := Lib.hid hv
        have HSB := Lib.hid hS.b
        have HPL := Lib.hid hS.hi
        have H24 := Lib.hid (fun W hW => Li.Cheap_any L s W hW)
        clear hfar hv e18 hS h4 e31
        obtain ⟨Ap, cp, Ab, cb⟩ := L
        go_enter Try.func5, Try.ntmps5
        go_upto_region 1 with (fail)
        have e := HW0.out
        rw [e]
        clear e
        go_upto_region 3 with (first
          | (go_at_call 17; refine (H17.out _).mono ?_; rintro e wn ⟨rfl, hb⟩; have BN := Lib.hid (hb0to B.out hb); have B := BN; clear BN; obtain ⟨s0, s1, s2, s3⟩ := (HX.out.of (B.out.block _ HX.out.lt)).cells; clear hb)
          | (go_at_call 18; refine (H18.out _ (HS.out.below B.out)).mono ?_; rintro e wn ⟨rfl, hb⟩; have BN := Lib.hid (hb0to B.out hb); have B := BN; clear BN; obtain ⟨s0, s1, s2, s3⟩ := (HX.out.of (B.out.block _ HX.out.lt)).cells; clear hb))
        go_upto_region 4 with (go_at_call 30; refine (H30.out _).mono ?_; rintro e w5 ⟨⟨⟨k1, k2, k3, k4, k5, k6⟩, A', c', rfl, hc⟩, hb⟩; have M := Lib.hid (HIn.new hc B.out.size (hb0to B.out hb)); clear hb hc)
        clear H17 H18 H30 s0 s1 s2 s3 B
        go_wp2
        go_loopw [4] (fun i wr => ∃ (k : Nat) (Aq : Option Addr) (cq : Nat), k ≤ s.ps.length ∧ i = .int .i64 k ∧ Hid (0 < k → ∀ j, j < s.bs.length → Li.penceN s j ≤ 24) ∧ Hid (HIn W0 w5.heap.size ⟨k1, k2, k3, k4, k5, k6⟩ A' c' s.ps.length (s.bs.length : Int) Aq cq (hireQ (okS s) (payS s) s.bs.length k) wr)) (fun i _ => s.ps.length - (intOf i).toNat)
        case atStart => exact ⟨0, none, 0, Nat.zero_le _, rfl, Lib.hid (fun h => absurd h (by omega)), M⟩
        case round =>
          obtain ⟨k, Aq, cq, hk, rfl, h24, M⟩ := hrel
          obtain ⟨s0, s1, s2, s3⟩ := (HX.out.of (M.out.B.block _ HX.out.lt)).cells
          by_cases hlt : k < s.ps.length
          · have X31 := Lib.hid (fun W hW => H31.out k W hW)
            rw [HE.out k hlt] at X31
            have hnb := HNB.out k hlt
            obtain ⟨n, hn⟩ : ∃ n, Li.needN s k = n := ⟨_, rfl⟩
            rw [hn] at X31 hnb
            have HN := Lib.hid hn
            have dn : decide (n < 0) = false := decide_eq_false (by omega)
            clear hn
            go_upto_region 10 with (go_at_call 31; refine (X31.out _ (HS.out.below M.out.B)).mono ?_; rintro e wn ⟨rfl, hb⟩; have MN := Lib.hid (M.out.next hb); have M := MN; clear MN; obtain ⟨s0, s1, s2, s3⟩ := (HX.out.of (M.out.B.block _ HX.out.lt)).cells; clear hb)
            go_wp2
            go_loopw [7] (fun i wr => ∃ (b : Nat) (Aq : Option Addr) (cq : Nat), b ≤ s.bs.length ∧ i = .int .i64 b ∧ Hid (∀ j, j < b → Li.penceN s j ≤ 24) ∧ Hid (HIn W0 w5.heap.size ⟨k1, k2, k3, k4, k5, k6⟩ A' c' s.ps.length (s.bs.length : Int) Aq cq (hireQ (okS s) (payS s) s.bs.length k ++ hireRow (okS s) (payS s) b k) wr)) (fun i _ => s.bs.length - (intOf i).toNat)
            case atStart => exact ⟨0, Aq, cq, Nat.zero_le _, rfl, Lib.hid (fun j h => absurd h (by omega)), Lib.hid (by rw [row_zero, List.append_nil]; exact M.out)⟩
            case round =>
              obtain ⟨b, Aq, cq, hb, rfl, h24, M⟩ := hrel
              obtain ⟨s0, s1, s2, s3⟩ := (HX.out.of (M.out.B.block _ HX.out.lt)).cells
              by_cases hbl : b < s.bs.length
              · obtain ⟨⟨x1, x2⟩, hx⟩ : ∃ x, s.bs[b]? = some x := ⟨_, List.getElem?_eq_getElem hbl⟩
                have hxb := HSB.out _ (List.mem_of_getElem? hx)
                obtain ⟨hca, hpe⟩ := Li.boat_eq hx
                obtain ⟨bb, off, eA, hbb, d1, d2⟩ := HS.out.b.at_ hx
                dsimp only at hxb hca hpe d1 d2 eA
                subst eA
                have e1 := below_cell M.out.B d1
                have e2 := below_cell M.out.B d2
                have HCA := Lib.hid hca
                have HPE := Lib.hid hpe
                have HD2 := Lib.hid d2
                have B := Lib.hid M.out.B
                clear hca hpe hx d1 d2
                by_cases h24b : 24 < x2
                · have g24 : decide (24 < x2) = true := decide_eq_true h24b
                  go_wp2_with (go_at_call 29; refine (hired_any _).mono ?_; rintro e wn ⟨rfl, hb⟩; have BN := Lib.hid (hb0to B.out hb); have B := BN; clear BN; obtain ⟨s0, s1, s2, s3⟩ := (HX.out.of (B.out.block _ HX.out.lt)).cells; clear hb)
                  go_ret
                  exact ⟨rfl, hb0to HBW.out B.out⟩
                · have g24 : decide (24 < x2) = false := decide_eq_false h24b
                  by_cases hcn : n ≤ x1
                  · have gc : decide (n ≤ x1) = true := decide_eq_true hcn
                    go_upto_region 16 with (fail)
                    obtain ⟨q, hqe⟩ : ∃ q, hireQ (okS s) (payS s) s.bs.length k ++ hireRow (okS s) (payS s) b k = q := ⟨_, rfl⟩
                    rw [hqe] at M
                    have HQE := Lib.hid hqe
                    have hql : q.length ≤ 1000 := by
                      rw [← hqe, List.length_append]
                      have h1 := hire_len (okS s) (payS s) s.bs.length k
                      have h2 := row_len (okS s) (payS s) b k
                      have h3 : k * s.bs.length ≤ 4 * 4 := Nat.mul_le_mul (by omega) hb4
                      omega
                    have hzl := M.out.x.lt
                    have hz0 := M.out.hz
                    have z1 : ¬ w5.heap.size = w.heap.size := by omega
                    have z2 : ¬ w.heap.size = w5.heap.size := by omega
                    have z3 : ¬ w5.heap.size = bb := by omega
                    have z4 : ¬ bb = w5.heap.size := by omega
                    have r7 : wr.cell? ⟨w5.heap.size, 7, none⟩ = some (.slice Aq q.length cq) := M.out.x.cells.2.2.2.2.2.2.2
                    have hbX : Below wr.heap.size wr ((wr.alloc (.cells #[.int .i64 (k : Int)] 3)).alloc (.cells #[.int .i64 (b : Int), .slice (some ⟨wr.heap.size, 0, none⟩) 1 1, .int .i64 (99 - x2)] 68)).drew := hb0to (hb0to (al_below wr _) (al_below _ _)) (drew_below _)
                    have HMX := Lib.hid (M.out.next hbX)
                    have HQX := Lib.hid (M.out.q.belowO hbX)
                    have HFR := Lib.hid (show Ints ((wr.alloc (.cells #[.int .i64 (k : Int)] 3)).alloc (.cells #[.int .i64 (b : Int), .slice (some ⟨wr.heap.size, 0, none⟩) 1 1, .int .i64 (99 - x2)] 68)).drew 0 (.slice (some ⟨wr.heap.size, 0, none⟩) 1 1) [(k : Int)] from ints_fresh (heap_keep (heap_new1 wr (.cells #[.int .i64 (k : Int)] 3))))
                    clear hqe hbX
                    have BD := Lib.hid (show Below W0.heap.size W0 wr.drew from hb0to B.out (drew_below wr))
                    have BA := Lib.hid (show Below W0.heap.size W0 (wr.alloc (.cells #[.int .i64 (k : Int)] 3)).drew from hb0to (hb0to B.out (al_below wr (.cells #[.int .i64 (k : Int)] 3))) (drew_below _))
                    have BXX := Lib.hid HMX.out.B
                    have HS2 := heap_new1 (wr.alloc (.cells #[.int .i64 (k : Int)] 3)) (.cells #[.int .i64 (b : Int), .slice (some ⟨wr.heap.size, 0, none⟩) 1 1, .int .i64 (99 - x2)] 68)
                    have hsz : (wr.alloc (.cells #[.int .i64 (k : Int)] 3)).heap.size = wr.heap.size + 1 := by simp
                    rw [hsz] at HS2
                    have HS2' : ((wr.alloc (.cells #[.int .i64 (k : Int)] 3)).alloc (.cells #[.int .i64 (b : Int), .slice (some ⟨wr.heap.size, 0, none⟩) 1 1, .int .i64 (99 - x2)] 68)).drew.heap[wr.heap.size + 1]? = some (.cells #[.int .i64 (b : Int), .slice (some ⟨wr.heap.size, 0, none⟩) 1 1, .int .i64 (99 - x2)] 68) := HS2
                    have HC0 := Lib.hid (cell_of_heap (o := 0) HS2' rfl)
                    have HC1 := Lib.hid (cell_of_heap (o := 1) HS2' rfl)
                    have HC2 := Lib.hid (cell_of_heap (o := 2) HS2' rfl)
                    have hwr : IntKind.i64.wrap (99 - x2) = 99 - x2 := IntWalk.i64_in _ (by omega)
                    clear HS2 HS2' hsz
                    have HSO := Lib.hid (fun (w' : World) (hb : Below W0.heap.size W0 w') => show (fun w' : World => w'.cell? ⟨w.heap.size, 3, none⟩ = some (.slice (some ⟨bb, off, none⟩) s.bs.length cb) ∧ w'.cell? ⟨bb, off + b * 2 + 1, none⟩ = some (.int .i64 x2)) w' from ⟨(HX.out.of (hb.block _ HX.out.lt)).cells.2.2.2, below_cell hb HD2.out⟩)
                    refine wp_region_held_drew (S := (fun w' : World => w'.cell? ⟨w.heap.size, 3, none⟩ = some (.slice (some ⟨bb, off, none⟩) s.bs.length cb) ∧ w'.cell? ⟨bb, off + b * 2 + 1, none⟩ = some (.int .i64 x2))) (by kernel_rfl) (HSO.out _ BD.out) (fun hHeld => ?_)
                    change wpAnyH _ _ _ _ _ 17 #[false, false, false, false, false, false, false, false, false, false, false, false, false, false, false, false, false] _ _
                    refine wpAnyH_take (i := 0) (oi := ⟨some 77, _, _, _, _, _⟩) (v := ?_) rfl (by kernel_rfl) (by kernel_rfl) (by kernel_rfl) (fun _ _ _ h => h) (Or.inl ⟨by rfl, ?_⟩) hHeld ?_
                    rotate_left
                    · intro w1 hSw; (try dsimp only at hSw); go_simp; (try with_reducible rfl)
                    simp only [Act.put, List.setIfInBounds_toArray, List.set_cons_zero, List.set_cons_succ]
                    change wpAnyH _ _ _ _ _ 16 #[true, false, false, false, false, false, false, false, false, false, false, false, false, false, false, false, false] _ _
                    refine wpAnyH_take (i := 2) (oi := ⟨some 79, _, _, _, _, _⟩) (v := ?_) rfl (by kernel_rfl) (by kernel_rfl) (by kernel_rfl) (fun _ _ _ h => h) (Or.inl ⟨by rfl, ?_⟩) hHeld ?_
                    rotate_left
                    · intro w1 hSw; (try dsimp only at hSw); go_simp; (try with_reducible rfl)
                    simp only [Act.put, List.setIfInBounds_toArray, List.set_cons_zero, List.set_cons_succ]
                    change wpAnyH _ _ _ _ _ 15 #[true, false, true, false, false, false, false, false, false, false, false, false, false, false, false, false, false] _ _
                    refine wpAnyH_take (i := 3) (oi := ⟨some 80, _, _, _, _, _⟩) (v := ?_) rfl (by kernel_rfl) (by kernel_rfl) (by kernel_rfl) (fun _ _ _ h => h) (Or.inl ⟨by rfl, ?_⟩) hHeld ?_
                    rotate_left
                    · intro w1 hSw; (try dsimp only at hSw); go_simp; (try with_reducible rfl)
                    simp only [Act.put, List.setIfInBounds_toArray, List.set_cons_zero, List.set_cons_succ]
                    change wpAnyH _ _ _ _ _ 14 #[true, false, true, true, false, false, false, false, false, false, false, false, false, false, false, false, false] _ _
                    refine wpAnyH_take (i := 5) (oi := ⟨some 82, _, _, _, _, _⟩) (v := ?_) rfl (by kernel_rfl) (by kernel_rfl) (by kernel_rfl) (fun _ _ _ h => h) (Or.inl ⟨by rfl, ?_⟩) hHeld ?_
                    rotate_left
                    · intro w1 hSw; (try dsimp only at hSw); go_simp; (try with_reducible rfl)
                    simp only [Act.put, List.setIfInBounds_toArray, List.set_cons_zero, List.set_cons_succ]
                    change wpAnyH _ _ _ _ _ 13 #[true, false, true, true, false, true, false, false, false, false, false, false, false, false, false, false, false] _ _
                    refine wpAnyH_take (i := 6) (oi := ⟨some 83, _, _, _, _, _⟩) (v := ?_) rfl (by kernel_rfl) (by kernel_rfl) (by kernel_rfl) (fun _ _ _ h => h) (Or.inl ⟨by rfl, ?_⟩) hHeld ?_
                    rotate_left
                    · intro w1 hSw; (try dsimp only at hSw); go_simp; (try with_reducible rfl)
                    simp only [Act.put, List.setIfInBounds_toArray, List.set_cons_zero, List.set_cons_succ]
                    change wpAnyH _ _ _ _ _ 12 #[true, false, true, true, false, true, true, false, false, false, false, false, false, false, false, false, false] _ _
                    refine wpAnyH_take (i := 7) (oi := ⟨some 84, _, _, _, _, _⟩) (v := ?_) rfl (by kernel_rfl) (by kernel_rfl) (by kernel_rfl) (fun _ _ _ h => h) (Or.inl ⟨by rfl, ?_⟩) hHeld ?_
                    rotate_left
                    · intro w1 hSw; (try dsimp only at hSw); go_simp; (try with_reducible rfl)
                    simp only [Act.put, List.setIfInBounds_toArray, List.set_cons_zero, List.set_cons_succ]
                    change wpAnyH _ _ _ _ _ 11 #[true, false, true, true, false, true, true, true, false, false, false, false, false, false, false, false, false] _ _
                    refine wpAnyH_take (i := 8) (oi := ⟨some 85, _, _, _, _, _⟩) (v := ?_) rfl (by kernel_rfl) (by kernel_rfl) (by kernel_rfl) (fun _ _ _ h => h) (Or.inl ⟨by rfl, ?_⟩) hHeld ?_
                    rotate_left
                    · intro w1 hSw; (try dsimp only at hSw); go_simp; (try with_reducible rfl)
                    simp only [Act.put, List.setIfInBounds_toArray, List.set_cons_zero, List.set_cons_succ]
                    change wpAnyH _ _ _ _ _ 10 #[true, false, true, true, false, true, true, true, true, false, false, false, false, false, false, false, false] _ _
                    refine wpAnyH_take (i := 9) (oi := ⟨some 86, _, _, _, _, _⟩) (v := ?_) rfl (by kernel_rfl) (by kernel_rfl) (by kernel_rfl) (fun _ _ _ h => h) (Or.inl ⟨by rfl, ?_⟩) hHeld ?_
                    rotate_left
                    · intro w1 hSw; (try dsimp only at hSw); go_simp; (try with_reducible rfl)
                    simp only [Act.put, List.setIfInBounds_toArray, List.set_cons_zero, List.set_cons_succ]
                    change wpAnyH _ _ _ _ _ 9 #[true, false, true, true, false, true, true, true, true, true, false, false, false, false, false, false, false] _ _
                    refine wpAnyH_take (i := 10) (oi := ⟨some 87, _, _, _, _, _⟩) (v := ?_) rfl (by kernel_rfl) (by kernel_rfl) (by kernel_rfl) (fun _ _ _ h => h) (Or.inl ⟨by rfl, ?_⟩) hHeld ?_
                    rotate_left
                    · intro w1 hSw; (try dsimp only at hSw); go_simp; (try with_reducible rfl)
                    simp only [Act.put, List.setIfInBounds_toArray, List.set_cons_zero, List.set_cons_succ]
                    change wpAnyH _ _ _ _ _ 8 #[true, false, true, true, false, true, true, true, true, true, true, false, false, false, false, false, false] _ _
                    refine wpAnyH_take (i := 11) (oi := ⟨some 88, _, _, _, _, _⟩) (v := ?_) rfl (by kernel_rfl) (by kernel_rfl) (by kernel_rfl) (fun _ _ _ h => h) (Or.inl ⟨by rfl, ?_⟩) hHeld ?_
                    rotate_left
                    · intro w1 hSw; (try dsimp only at hSw); go_simp; (try with_reducible rfl)
                    simp only [Act.put, List.setIfInBounds_toArray, List.set_cons_zero, List.set_cons_succ]
                    change wpAnyH _ _ _ _ _ 7 #[true, false, true, true, false, true, true, true, true, true, true, true, false, false, false, false, false] _ _
                    refine wpAnyH_ready (rs := [1, 4]) (by kernel_rfl) (by simp) (AllReadyH.cons (o := ⟨some 78, _, _, _, _, _⟩) rfl (fun K hK => ?_) (AllReadyH.cons (o := ⟨some 81, _, _, _, _, _⟩) rfl (fun K hK => ?_) AllReadyH.nil))
                    · have HK := Lib.hid hK
                      clear hK
                      go_simp
                      refine HK.out.out _ _ (HSO.out _ BD.out) (fun hHeld => ?_)
                      clear HK
                      change wpAnyH _ _ _ _ _ 6 #[true, true, true, true, false, true, true, true, true, true, true, true, false, false, false, false, false] _ _
                      refine wpAnyH_ready (rs := [4]) (by kernel_rfl) (by simp) (AllReadyH.cons (o := ⟨some 81, _, _, _, _, _⟩) rfl (fun K hK => ?_) AllReadyH.nil)
                      have HK := Lib.hid hK
                      clear hK
                      go_simp
                      refine HK.out.out _ _ (HSO.out _ BA.out) (fun hHeld => ?_)
                      clear HK
                      change wpAnyH _ _ _ _ _ 5 #[true, true, true, true, true, true, true, true, true, true, true, true, false, false, false, false, false] _ _
                      refine wpAnyH_take (i := 12) (oi := ⟨some 89, _, _, _, _, _⟩) (v := ?_) rfl (by kernel_rfl) (by kernel_rfl) (by kernel_rfl) (fun _ _ _ h => h) (Or.inl ⟨by rfl, ?_⟩) hHeld ?_
                      rotate_left
                      · intro w1 hSw; (try dsimp only at hSw); go_simp; (try with_reducible rfl)
                      simp only [Act.put, List.setIfInBounds_toArray, List.set_cons_zero, List.set_cons_succ]
                      change wpAnyH _ _ _ _ _ 4 #[true, true, true, true, true, true, true, true, true, true, true, true, true, false, false, false, false] _ _
                      refine wpAnyH_ready (rs := [13]) (by kernel_rfl) (by simp) (AllReadyH.cons (o := ⟨some 90, _, _, _, _, _⟩) rfl (fun K hK => ?_) AllReadyH.nil)
                      have HK := Lib.hid hK
                      clear hK
                      go_simp
                      refine HK.out.out _ _ (HSO.out _ BXX.out) (fun hHeld => ?_)
                      clear HK
                      change wpAnyH _ _ _ _ _ 3 #[true, true, true, true, true, true, true, true, true, true, true, true, true, true, false, false, false] _ _
                      refine wpAnyH_ready (rs := [14]) (by kernel_rfl) (by simp) (AllReadyH.cons (o := ⟨some 91, _, _, _, _, _⟩) rfl (fun K hK => ?_) AllReadyH.nil)
                      have HK := Lib.hid hK
                      clear hK
                      refine step_appQ (by rfl) (.tmp 78) (.tmp 90) (by rfl) InnOwn W0.heap.size (.slice Aq q.length cq) q (by rfl) HQX.out (wr.heap.size + 1) 1 ⟨(b : Int), [(k : Int)], 99 - x2⟩ (some ⟨wr.heap.size, 0, none⟩) 1 (by rfl) HC0.out HC1.out HC2.out hql (by have := B.out.size; simp; omega) (fun w' _ hk' => ⟨Ints.keepT HFR.out hk', fun u l hu => Ints.keepT hu hk'⟩) ?_
                      intro v6 w6 ho6 hb6 hk6
                      obtain ⟨A6, c6, e6, -, -, -⟩ := ho6.layO
                      rw [List.length_append, List.length_singleton] at e6
                      subst e6
                      obtain ⟨hx6, M6⟩ := HMX.out.app ho6 hb6 hk6
                      have HM6 := Lib.hid M6
                      have B6 := Lib.hid (HMX.out.B.trans hb6)
                      have r7 : w6.cell? ⟨w5.heap.size, 7, none⟩ = some (.slice Aq q.length cq) := hx6.cells.2.2.2.2.2.2.2
                      have zf := frozen_of_heap hx6
                      clear ho6 hb6 hk6 hx6 M6
                      refine HK.out.out _ _ (HSO.out _ B6.out) (fun hHeld => ?_)
                      clear HK
                      simp only [Act.put, List.setIfInBounds_toArray, List.set_cons_zero, List.set_cons_succ]
                      change wpAnyH _ _ _ _ _ 2 #[true, true, true, true, true, true, true, true, true, true, true, true, true, true, true, false, false] _ _
                      refine wpAnyH_take (i := 15) (oi := ⟨some 92, _, _, _, _, _⟩) (v := ?_) rfl (by kernel_rfl) (by kernel_rfl) (by kernel_rfl) (fun _ _ _ h => h) (Or.inl ⟨by rfl, ?_⟩) hHeld ?_
                      rotate_left
                      · intro w1 hSw; (try dsimp only at hSw); go_simp; (try with_reducible rfl)
                      simp only [Act.put, List.setIfInBounds_toArray, List.set_cons_zero, List.set_cons_succ]
                      change wpAnyH _ _ _ _ _ 1 #[true, true, true, true, true, true, true, true, true, true, true, true, true, true, true, true, false] _ _
                      refine wpAnyH_ready (rs := [16]) (by kernel_rfl) (by simp) (AllReadyH.cons (o := ⟨none, _, _, _, _, _⟩) rfl (fun K hK => ?_) AllReadyH.nil)
                      have HK := Lib.hid hK
                      clear hK
                      go_simp
                      refine HK.out.out _ _ (HSO.out _ HM6.out.B) (fun _ => wpAnyH_done (by kernel_rfl) ?_ _)
                      clear HK
                      go_wp2_with (fail)
                      go_roundw
                      case rel => exact ⟨b + 1, A6, c6, by omega, by go_num, Lib.hid (fun j hj => by
                        by_cases e : j = b
                        · rw [e, HPE.out]; omega
                        · exact h24.out j (by omega)), Lib.hid (by
                        rw [row_yes (decide_eq_true (by rw [HN.out, HCA.out]; exact hcn)), ← List.append_assoc, HQE.out, show payS s b = 99 - x2 by unfold payS; rw [HPE.out]]
                        exact HM6.out)⟩
                      case measure => simp [intOf]; omega
                    · have HK := Lib.hid hK
                      clear hK
                      go_simp
                      refine HK.out.out _ _ (HSO.out _ BA.out) (fun hHeld => ?_)
                      clear HK
                      change wpAnyH _ _ _ _ _ 6 #[true, false, true, true, true, true, true, true, true, true, true, true, false, false, false, false, false] _ _
                      refine wpAnyH_take (i := 12) (oi := ⟨some 89, _, _, _, _, _⟩) (v := ?_) rfl (by kernel_rfl) (by kernel_rfl) (by kernel_rfl) (fun _ _ _ h => h) (Or.inl ⟨by rfl, ?_⟩) hHeld ?_
                      rotate_left
                      · intro w1 hSw; (try dsimp only at hSw); go_simp; (try with_reducible rfl)
                      simp only [Act.put, List.setIfInBounds_toArray, List.set_cons_zero, List.set_cons_succ]
                      change wpAnyH _ _ _ _ _ 5 #[true, false, true, true, true, true, true, true, true, true, true, true, true, false, false, false, false] _ _
                      refine wpAnyH_ready (rs := [1, 13]) (by kernel_rfl) (by simp) (AllReadyH.cons (o := ⟨some 78, _, _, _, _, _⟩) rfl (fun K hK => ?_) (AllReadyH.cons (o := ⟨some 90, _, _, _, _, _⟩) rfl (fun K hK => ?_) AllReadyH.nil))
                      · have HK := Lib.hid hK
                        clear hK
                        go_simp
                        refine HK.out.out _ _ (HSO.out _ BA.out) (fun hHeld => ?_)
                        clear HK
                        change wpAnyH _ _ _ _ _ 4 #[true, true, true, true, true, true, true, true, true, true, true, true, true, false, false, false, false] _ _
                        refine wpAnyH_ready (rs := [13]) (by kernel_rfl) (by simp) (AllReadyH.cons (o := ⟨some 90, _, _, _, _, _⟩) rfl (fun K hK => ?_) AllReadyH.nil)
                        have HK := Lib.hid hK
                        clear hK
                        go_simp
                        refine HK.out.out _ _ (HSO.out _ BXX.out) (fun hHeld => ?_)
                        clear HK
                        change wpAnyH _ _ _ _ _ 3 #[true, true, true, true, true, true, true, true, true, true, true, true, true, true, false, false, false] _ _
                        refine wpAnyH_ready (rs := [14]) (by kernel_rfl) (by simp) (AllReadyH.cons (o := ⟨some 91, _, _, _, _, _⟩) rfl (fun K hK => ?_) AllReadyH.nil)
                        have HK := Lib.hid hK
                        clear hK
                        refine step_appQ (by rfl) (.tmp 78) (.tmp 90) (by rfl) InnOwn W0.heap.size (.slice Aq q.length cq) q (by rfl) HQX.out (wr.heap.size + 1) 1 ⟨(b : Int), [(k : Int)], 99 - x2⟩ (some ⟨wr.heap.size, 0, none⟩) 1 (by rfl) HC0.out HC1.out HC2.out hql (by have := B.out.size; simp; omega) (fun w' _ hk' => ⟨Ints.keepT HFR.out hk', fun u l hu => Ints.keepT hu hk'⟩) ?_
                        intro v6 w6 ho6 hb6 hk6
                        obtain ⟨A6, c6, e6, -, -, -⟩ := ho6.layO
                        rw [List.length_append, List.length_singleton] at e6
                        subst e6
                        obtain ⟨hx6, M6⟩ := HMX.out.app ho6 hb6 hk6
                        have HM6 := Lib.hid M6
                        have B6 := Lib.hid (HMX.out.B.trans hb6)
                        have r7 : w6.cell? ⟨w5.heap.size, 7, none⟩ = some (.slice Aq q.length cq) := hx6.cells.2.2.2.2.2.2.2
                        have zf := frozen_of_heap hx6
                        clear ho6 hb6 hk6 hx6 M6
                        refine HK.out.out _ _ (HSO.out _ B6.out) (fun hHeld => ?_)
                        clear HK
                        simp only [Act.put, List.setIfInBounds_toArray, List.set_cons_zero, List.set_cons_succ]
                        change wpAnyH _ _ _ _ _ 2 #[true, true, true, true, true, true, true, true, true, true, true, true, true, true, true, false, false] _ _
                        refine wpAnyH_take (i := 15) (oi := ⟨some 92, _, _, _, _, _⟩) (v := ?_) rfl (by kernel_rfl) (by kernel_rfl) (by kernel_rfl) (fun _ _ _ h => h) (Or.inl ⟨by rfl, ?_⟩) hHeld ?_
                        rotate_left
                        · intro w1 hSw; (try dsimp only at hSw); go_simp; (try with_reducible rfl)
                        simp only [Act.put, List.setIfInBounds_toArray, List.set_cons_zero, List.set_cons_succ]
                        change wpAnyH _ _ _ _ _ 1 #[true, true, true, true, true, true, true, true, true, true, true, true, true, true, true, true, false] _ _
                        refine wpAnyH_ready (rs := [16]) (by kernel_rfl) (by simp) (AllReadyH.cons (o := ⟨none, _, _, _, _, _⟩) rfl (fun K hK => ?_) AllReadyH.nil)
                        have HK := Lib.hid hK
                        clear hK
                        go_simp
                        refine HK.out.out _ _ (HSO.out _ HM6.out.B) (fun _ => wpAnyH_done (by kernel_rfl) ?_ _)
                        clear HK
                        go_wp2_with (fail)
                        go_roundw
                        case rel => exact ⟨b + 1, A6, c6, by omega, by go_num, Lib.hid (fun j hj => by
                          by_cases e : j = b
                          · rw [e, HPE.out]; omega
                          · exact h24.out j (by omega)), Lib.hid (by
                          rw [row_yes (decide_eq_true (by rw [HN.out, HCA.out]; exact hcn)), ← List.append_assoc, HQE.out, show payS s b = 99 - x2 by unfold payS; rw [HPE.out]]
                          exact HM6.out)⟩
                        case measure => simp [intOf]; omega
                      · have HK := Lib.hid hK
                        clear hK
                        go_simp
                        refine HK.out.out _ _ (HSO.out _ BXX.out) (fun hHeld => ?_)
                        clear HK
                        change wpAnyH _ _ _ _ _ 4 #[true, false, true, true, true, true, true, true, true, true, true, true, true, true, false, false, false] _ _
                        refine wpAnyH_ready (rs := [1]) (by kernel_rfl) (by simp) (AllReadyH.cons (o := ⟨some 78, _, _, _, _, _⟩) rfl (fun K hK => ?_) AllReadyH.nil)
                        have HK := Lib.hid hK
                        clear hK
                        go_simp
                        refine HK.out.out _ _ (HSO.out _ BXX.out) (fun hHeld => ?_)
                        clear HK
                        change wpAnyH _ _ _ _ _ 3 #[true, true, true, true, true, true, true, true, true, true, true, true, true, true, false, false, false] _ _
                        refine wpAnyH_ready (rs := [14]) (by kernel_rfl) (by simp) (AllReadyH.cons (o := ⟨some 91, _, _, _, _, _⟩) rfl (fun K hK => ?_) AllReadyH.nil)
                        have HK := Lib.hid hK
                        clear hK
                        refine step_appQ (by rfl) (.tmp 78) (.tmp 90) (by rfl) InnOwn W0.heap.size (.slice Aq q.length cq) q (by rfl) HQX.out (wr.heap.size + 1) 1 ⟨(b : Int), [(k : Int)], 99 - x2⟩ (some ⟨wr.heap.size, 0, none⟩) 1 (by rfl) HC0.out HC1.out HC2.out hql (by have := B.out.size; simp; omega) (fun w' _ hk' => ⟨Ints.keepT HFR.out hk', fun u l hu => Ints.keepT hu hk'⟩) ?_
                        intro v6 w6 ho6 hb6 hk6
                        obtain ⟨A6, c6, e6, -, -, -⟩ := ho6.layO
                        rw [List.length_append, List.length_singleton] at e6
                        subst e6
                        obtain ⟨hx6, M6⟩ := HMX.out.app ho6 hb6 hk6
                        have HM6 := Lib.hid M6
                        have B6 := Lib.hid (HMX.out.B.trans hb6)
                        have r7 : w6.cell? ⟨w5.heap.size, 7, none⟩ = some (.slice Aq q.length cq) := hx6.cells.2.2.2.2.2.2.2
                        have zf := frozen_of_heap hx6
                        clear ho6 hb6 hk6 hx6 M6
                        refine HK.out.out _ _ (HSO.out _ B6.out) (fun hHeld => ?_)
                        clear HK
                        simp only [Act.put, List.setIfInBounds_toArray, List.set_cons_zero, List.set_cons_succ]
                        change wpAnyH _ _ _ _ _ 2 #[true, true, true, true, true, true, true, true, true, true, true, true, true, true, true, false, false] _ _
                        refine wpAnyH_take (i := 15) (oi := ⟨some 92, _, _, _, _, _⟩) (v := ?_) rfl (by kernel_rfl) (by kernel_rfl) (by kernel_rfl) (fun _ _ _ h => h) (Or.inl ⟨by rfl, ?_⟩) hHeld ?_
                        rotate_left
                        · intro w1 hSw; (try dsimp only at hSw); go_simp; (try with_reducible rfl)
                        simp only [Act.put, List.setIfInBounds_toArray, List.set_cons_zero, List.set_cons_succ]
                        change wpAnyH _ _ _ _ _ 1 #[true, true, true, true, true, true, true, true, true, true, true, true, true, true, true, true, false] _ _
                        refine wpAnyH_ready (rs := [16]) (by kernel_rfl) (by simp) (AllReadyH.cons (o := ⟨none, _, _, _, _, _⟩) rfl (fun K hK => ?_) AllReadyH.nil)
                        have HK := Lib.hid hK
                        clear hK
                        go_simp
                        refine HK.out.out _ _ (HSO.out _ HM6.out.B) (fun _ => wpAnyH_done (by kernel_rfl) ?_ _)
                        clear HK
                        go_wp2_with (fail)
                        go_roundw
                        case rel => exact ⟨b + 1, A6, c6, by omega, by go_num, Lib.hid (fun j hj => by
                          by_cases e : j = b
                          · rw [e, HPE.out]; omega
                          · exact h24.out j (by omega)), Lib.hid (by
                          rw [row_yes (decide_eq_true (by rw [HN.out, HCA.out]; exact hcn)), ← List.append_assoc, HQE.out, show payS s b = 99 - x2 by unfold payS; rw [HPE.out]]
                          exact HM6.out)⟩
                        case measure => simp [intOf]; omega
                  · have gc : decide (n ≤ x1) = false := decide_eq_false hcn
                    go_wp2
                    go_roundw
                    case rel => exact ⟨b + 1, Aq, cq, by omega, by go_num, Lib.hid (fun j hj => by
                      by_cases e : j = b
                      · rw [e, HPE.out]; omega
                      · exact h24.out j (by omega)), Lib.hid (by
                      rw [row_no (decide_eq_false (by rw [HN.out, HCA.out]; exact hcn))]
                      exact M.out)⟩
                    case measure => simp [intOf]; omega
              · obtain rfl : b = s.bs.length := by omega
                go_wp2
                go_roundw
                case rel => exact ⟨k + 1, Aq, cq, by omega, by go_num, Lib.hid (fun _ => h24.out), M⟩
                case measure => simp [intOf]; omega
          · obtain rfl : k = s.ps.length := by omega
            have h24' := h24.out (by
              have h := HPL.out
              rcases Nat.eq_zero_or_pos s.ps.length with e | e
              · rw [List.length_eq_zero_iff] at e
                rw [e] at h
                exact absurd h (by decide)
              · exact e)
            obtain ⟨q, hqe⟩ : ∃ q, hireQ (okS s) (payS s) s.bs.length s.ps.length = q := ⟨_, rfl⟩
            rw [hqe] at M
            have hql : q.length ≤ 1000 := by
              rw [← hqe]
              have h1 := hire_len (okS s) (payS s) s.bs.length s.ps.length
              have h3 : s.ps.length * s.bs.length ≤ 4 * 4 := Nat.mul_le_mul hp4 hb4
              omega
            have hfn : FN (hF s.ps.length (s.bs.length : Int) q) := hF_fn hp4 hql (by rw [← hqe]; exact hire_bars)
            have hend := fun hvf => hire_end s HV.out h24' (s.bs.length : Int) q hqe.symm hvf
            have E := Lib.hid (FE.mk M.out.fair M.out.x M.out.B)
            obtain ⟨f, hf⟩ : ∃ f, hF s.ps.length (s.bs.length : Int) q = f := ⟨_, rfl⟩
            rw [hf] at hfn hend E
            clear hf hqe hql h24' M h24
            have H32 := Lib.hid (fun F W hW => rcheckF_any F f hfn W hW)
            obtain ⟨r0, r1, r2, r3, r4, r5, r6, r7⟩ := E.out.x.cells
            obtain ⟨s0, s1, s2, s3⟩ := (HX.out.of (E.out.B.block _ HX.out.lt)).cells
            cases hvf : validF f
            · rw [ckF_no hvf] at H32
              clear hend hvf hfn
              go_wp2_with (first
                | (go_at_call 32; refine (H32.out _ _ E.out.H).mono ?_; rintro e wn ⟨rfl, hb⟩; have EN := Lib.hid (E.out.next hb); have E := EN; clear EN; skip; obtain ⟨r0, r1, r2, r3, r4, r5, r6, r7⟩ := E.out.x.cells; obtain ⟨s0, s1, s2, s3⟩ := (HX.out.of (E.out.B.block _ HX.out.lt)).cells; clear hb)
                | (go_at_call 29; refine (hired_any _).mono ?_; rintro e wn ⟨rfl, hb⟩; have EN := Lib.hid (E.out.next hb); have E := EN; clear EN; skip; obtain ⟨r0, r1, r2, r3, r4, r5, r6, r7⟩ := E.out.x.cells; obtain ⟨s0, s1, s2, s3⟩ := (HX.out.of (E.out.B.block _ HX.out.lt)).cells; clear hb))
              go_ret
              exact ⟨rfl, hb0to HBW.out E.out.B⟩
            · rw [ckF_yes hvf] at H32
              obtain ⟨hle, hm0, hm1, hor⟩ := hend hvf
              have hfo := FOK.of hvf
              have hlq := wL_len hfo
              have H33 := Lib.hid (fun F W hW => Most_any F f hfn W hW)
              have H34 := Lib.hid (fun F W hW => Winners_any F f hfn W hW)
              have H35 := Lib.hid (fun F A c W hF hI => IsSaleN F f hfn hfo (wL f) (by omega) A c W hF hI)
              rw [show mostRet f = (mW f, 0) from numRF_ok (ask_valid hvf)] at H33
              rw [show winRet f = (intsN (wL f), 0) from listRF_ok (ask_valid hvf)] at H34
              rw [wL_sale hfo] at H35
              generalize mW f = m at H33 hm0 hm1 hor
              generalize wL f = l at H34 H35 hle hlq hor
              have hql8 := hfo.ql
              have g1 : decide ((f.q.length : Int) < (l.length : Int)) = false := decide_eq_false (by omega)
              have g2 : decide (m < 0) = false := decide_eq_false (by omega)
              have g3 : decide (99 * (s.ps.length : Int) < m) = false := decide_eq_false (by omega)
              have hw9 : IntKind.i64.wrap (99 * (s.ps.length : Int)) = 99 * (s.ps.length : Int) := IntWalk.i64_in _ (by omega)
              have hw8 : IntKind.i64.wrap (99 * (s.ps.length : Int) - m) = 99 * (s.ps.length : Int) - m := IntWalk.i64_in _ (by omega)
              have HLI := Lib.hid (intsN_len l)
              rcases hor with ⟨hc, hne⟩ | ⟨c, n, hc, hlP, hn⟩
              · have e24 : Li.cheapRet s = (0, 3) := by
                  unfold Li.cheapRet
                  rw [Li.askS_true HV.out, hc]
                  rfl
                rw [e24] at H24
                have g4 : ¬ ((l.length : Int) = (s.ps.length : Int)) := by omega
                have g5 : ((l.length : Int) == (s.ps.length : Int)) = false := by simpa using g4
                clear hc e24 hfn hfo hvf hend
                go_wp2_with (first
                  | (go_at_call 32; refine (H32.out _ _ E.out.H).mono ?_; rintro e wn ⟨rfl, hb⟩; have EN := Lib.hid (E.out.next hb); have E := EN; clear EN; skip; obtain ⟨r0, r1, r2, r3, r4, r5, r6, r7⟩ := E.out.x.cells; obtain ⟨s0, s1, s2, s3⟩ := (HX.out.of (E.out.B.block _ HX.out.lt)).cells; clear hb)
                  | (go_at_call 24; refine (H24.out _ (HS.out.below E.out.B)).mono ?_; rintro e wn ⟨rfl, hb⟩; have EN := Lib.hid (E.out.next hb); have E := EN; clear EN; skip; obtain ⟨r0, r1, r2, r3, r4, r5, r6, r7⟩ := E.out.x.cells; obtain ⟨s0, s1, s2, s3⟩ := (HX.out.of (E.out.B.block _ HX.out.lt)).cells; clear hb)
                  | (go_at_call 33; refine (H33.out _ _ E.out.H).mono ?_; rintro e wn ⟨rfl, hb⟩; have EN := Lib.hid (E.out.next hb); have E := EN; clear EN; skip; obtain ⟨r0, r1, r2, r3, r4, r5, r6, r7⟩ := E.out.x.cells; obtain ⟨s0, s1, s2, s3⟩ := (HX.out.of (E.out.B.block _ HX.out.lt)).cells; clear hb)
                  | (go_at_call 34; refine (H34.out _ _ E.out.H).mono ?_; rintro e wn ⟨⟨v, rfl, hv⟩, hb⟩; have EN := Lib.hid (E.out.next hb); have E := EN; clear EN; obtain ⟨A7, c7, rfl, -, -, hI⟩ := ints_slice hv; rw [HLI.out]; have V := Lib.hid hI; clear hv hI; obtain ⟨r0, r1, r2, r3, r4, r5, r6, r7⟩ := E.out.x.cells; obtain ⟨s0, s1, s2, s3⟩ := (HX.out.of (E.out.B.block _ HX.out.lt)).cells; clear hb)
                  | (go_at_call 35; refine (H35.out _ A7 c7 _ E.out.H V.out).mono ?_; rintro e wn ⟨rfl, hb⟩; have EN := Lib.hid (E.out.next hb); have E := EN; clear EN; skip; obtain ⟨r0, r1, r2, r3, r4, r5, r6, r7⟩ := E.out.x.cells; obtain ⟨s0, s1, s2, s3⟩ := (HX.out.of (E.out.B.block _ HX.out.lt)).cells; clear hb)
                  | (go_at_call 29; refine (hired_any _).mono ?_; rintro e wn ⟨rfl, hb⟩; have EN := Lib.hid (E.out.next hb); have E := EN; clear EN; skip; obtain ⟨r0, r1, r2, r3, r4, r5, r6, r7⟩ := E.out.x.cells; obtain ⟨s0, s1, s2, s3⟩ := (HX.out.of (E.out.B.block _ HX.out.lt)).cells; clear hb))
                go_ret
                exact ⟨rfl, hb0to HBW.out E.out.B⟩
              · have e24 : Li.cheapRet s = (n, 0) := by
                  unfold Li.cheapRet
                  rw [Li.askS_true HV.out, hc]
                  rfl
                rw [e24] at H24
                have hlP' : ((l.length : Int) == (s.ps.length : Int)) = true := by rw [hlP]; simp
                have hlP2 : decide ((l.length : Int) = (s.ps.length : Int)) = true := decide_eq_true (by omega)
                subst hn
                clear hlP hle hc e24 hfn hfo hvf hend
                go_wp2_with (first
                  | (go_at_call 32; refine (H32.out _ _ E.out.H).mono ?_; rintro e wn ⟨rfl, hb⟩; have EN := Lib.hid (E.out.next hb); have E := EN; clear EN; skip; obtain ⟨r0, r1, r2, r3, r4, r5, r6, r7⟩ := E.out.x.cells; obtain ⟨s0, s1, s2, s3⟩ := (HX.out.of (E.out.B.block _ HX.out.lt)).cells; clear hb)
                  | (go_at_call 24; refine (H24.out _ (HS.out.below E.out.B)).mono ?_; rintro e wn ⟨rfl, hb⟩; have EN := Lib.hid (E.out.next hb); have E := EN; clear EN; skip; obtain ⟨r0, r1, r2, r3, r4, r5, r6, r7⟩ := E.out.x.cells; obtain ⟨s0, s1, s2, s3⟩ := (HX.out.of (E.out.B.block _ HX.out.lt)).cells; clear hb)
                  | (go_at_call 33; refine (H33.out _ _ E.out.H).mono ?_; rintro e wn ⟨rfl, hb⟩; have EN := Lib.hid (E.out.next hb); have E := EN; clear EN; skip; obtain ⟨r0, r1, r2, r3, r4, r5, r6, r7⟩ := E.out.x.cells; obtain ⟨s0, s1, s2, s3⟩ := (HX.out.of (E.out.B.block _ HX.out.lt)).cells; clear hb)
                  | (go_at_call 34; refine (H34.out _ _ E.out.H).mono ?_; rintro e wn ⟨⟨v, rfl, hv⟩, hb⟩; have EN := Lib.hid (E.out.next hb); have E := EN; clear EN; obtain ⟨A7, c7, rfl, -, -, hI⟩ := ints_slice hv; rw [HLI.out]; have V := Lib.hid hI; clear hv hI; obtain ⟨r0, r1, r2, r3, r4, r5, r6, r7⟩ := E.out.x.cells; obtain ⟨s0, s1, s2, s3⟩ := (HX.out.of (E.out.B.block _ HX.out.lt)).cells; clear hb)
                  | (go_at_call 35; refine (H35.out _ A7 c7 _ E.out.H V.out).mono ?_; rintro e wn ⟨rfl, hb⟩; have EN := Lib.hid (E.out.next hb); have E := EN; clear EN; skip; obtain ⟨r0, r1, r2, r3, r4, r5, r6, r7⟩ := E.out.x.cells; obtain ⟨s0, s1, s2, s3⟩ := (HX.out.of (E.out.B.block _ HX.out.lt)).cells; clear hb)
                  | (go_at_call 29; refine (hired_any _).mono ?_; rintro e wn ⟨rfl, hb⟩; have EN := Lib.hid (E.out.next hb); have E := EN; clear EN; skip; obtain ⟨r0, r1, r2, r3, r4, r5, r6, r7⟩ := E.out.x.cells; obtain ⟨s0, s1, s2, s3⟩ := (HX.out.of (E.out.B.block _ HX.out.lt)).cells; clear hb))
                go_ret
                exact ⟨rfl, hb0to HBW.out E.out.B⟩
  · rw [hfar] at H17
    clear hfar hnl
    obtain ⟨Ap, cp, Ab, cb⟩ := L
    go_enter Try.func5, Try.ntmps5
    go_upto_region 1 with (fail)
    have e := HW0.out
    rw [e]
    clear e
    go_wp2_with (first
      | (go_at_call 17; refine (H17.out _).mono ?_; rintro e wn ⟨rfl, hb⟩; have BN := Lib.hid (hb0to B.out hb); have B := BN; clear BN; obtain ⟨s0, s1, s2, s3⟩ := (HX.out.of (B.out.block _ HX.out.lt)).cells; clear hb)
      | (go_at_call 29; refine (hired_any _).mono ?_; rintro e wn ⟨rfl, hb⟩; have BN := Lib.hid (hb0to B.out hb); have B := BN; clear BN; obtain ⟨s0, s1, s2, s3⟩ := (HX.out.of (B.out.block _ HX.out.lt)).cells; clear hb))
    go_ret
    exact ⟨rfl, hb0to HBW.out B.out⟩

end Go.Proofs.Ytmbcpmnigggbaaa
