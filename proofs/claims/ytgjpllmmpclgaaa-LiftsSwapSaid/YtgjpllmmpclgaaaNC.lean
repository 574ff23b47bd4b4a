import Derived.Test.YtgjpllmmpclgaaaNB
namespace Go.Proofs.Ytgjpllmmpclgaaa
open Go.RowKit

/-! The specification's open 96, Swap 70. -/
def betterP (s : Sea) (c : List Int) (a b : Nat) : Prop := liftS s c < liftS s (exchL c a b)
/-- No exchange ahead of (a, b) betters Lifts. -/
def noPair (s : Sea) (c : List Int) (a b : Nat) : Prop := ∀ i j : Nat, i < j → j < c.length → (i < a ∨ (i = a ∧ j < b)) → ¬ betterP s c i j
theorem noPair_zero (s : Sea) (c : List Int) : noPair s c 0 1 := fun i j h1 _ h3 => absurd h3 (by omega)
theorem noPair_next {s : Sea} {c : List Int} {a b : Nat} (h : noPair s c a b) (hn : ¬ betterP s c a b) : noPair s c a (b + 1) := fun i j h1 h2 h3 => by
  by_cases e : i = a ∧ j = b
  · obtain ⟨rfl, rfl⟩ := e; exact hn
  · exact h i j h1 h2 (by omega)
theorem noPair_row {s : Sea} {c : List Int} {a : Nat} (h : noPair s c a c.length) : noPair s c (a + 1) (a + 1 + 1) := fun i j h1 h2 h3 => h i j h1 h2 (by omega)
/-- What Swap returns. -/
def SwapIs (s : Sea) (c : List Int) (r : (Int × Int) × Int) : Prop := (askS s (crewB s c) ≠ 0 ∧ r = ((0, 0), askS s (crewB s c))) ∨ (askS s (crewB s c) = 0 ∧ ((∃ a b : Nat, a < b ∧ b < c.length ∧ betterP s c a b ∧ noPair s c a b ∧ r = (((a : Int), (b : Int)), 0)) ∨ ((∀ a b : Nat, a < b → b < c.length → ¬ betterP s c a b) ∧ r = ((0, 0), 3))))
theorem SwapIs.unique {s : Sea} {c : List Int} {r r' : (Int × Int) × Int} (h : SwapIs s c r) (h' : SwapIs s c r') : r = r' := by
  rcases h with ⟨h0, rfl⟩ | ⟨h0, ⟨a, b, h1, h2, h3, h4, rfl⟩ | ⟨h1, rfl⟩⟩ <;> rcases h' with ⟨k0, rfl⟩ | ⟨k0, ⟨a', b', k1, k2, k3, k4, rfl⟩ | ⟨k1, rfl⟩⟩
  · rfl
  · exact absurd k0 h0
  · exact absurd k0 h0
  · exact absurd h0 k0
  · by_cases e : a = a' ∧ b = b'
    · obtain ⟨rfl, rfl⟩ := e; rfl
    · by_cases hl : a < a' ∨ (a = a' ∧ b < b')
      · exact absurd h3 (k4 a b h1 h2 hl)
      · exact absurd k3 (h4 a' b' k1 k2 (by omega))
  · exact absurd h3 (k1 a b h1 h2)
  · exact absurd h0 k0
  · exact absurd k3 (h1 a' b' k1 k2)
  · rfl
theorem swap_end {s : Sea} {c : List Int} {k : Nat} (hk : c.length ≤ k) (h : noPair s c k (k + 1)) : ∀ a b : Nat, a < b → b < c.length → ¬ betterP s c a b := fun a b h1 h2 => h a b h1 h2 (by omega)
/-- The pair, and the error, as values. -/
def SwapRet (s : Sea) (c : List Int) (e : Ending) : Prop := ∃ r, e = .returned (.tuple #[.agg #[.int .i64 r.1.1, .int .i64 r.1.2], .int .i64 r.2]) ∧ SwapIs s c r
theorem ints_lays {W : World} {base : Nat} {v : Value} {l : List Int} (h : Ints W base v l) : ∃ A k, v = .slice A l.length k ∧ IntsAt W W.heap.size A l := by
  obtain ⟨A, k, e, _, _, h2⟩ := h.lay
  exact ⟨A, k, e, h2.at_⟩
set_option maxRecDepth 100000 in
set_option maxHeartbeats 4000000 in
theorem ropen_any (L : SL) (s : Sea) (c : List Int) (A : Option Addr) (cv : Nat) (hcl : c.length ≤ 1000) (hcv : c.length ≤ cv) (w : World) (hH : SeaAt w w.heap.size L s) (hI : IntsAt w w.heap.size A c) : Calls Try.prog 96 #[L.enc s, .slice A c.length cv] w fun e w' => e = .returned (.int .i64 (askS s (crewB s c))) ∧ Below w.heap.size w w' := by
  have hbw := al_below w (.cells #[.int .i64 s.wl, .int .i64 s.wh, .slice L.Ap s.ps.length L.cp, .slice L.Ab s.bs.length L.cb] 27)
  have HB := Lib.hid (SBox.new w L s)
  obtain ⟨c0, c1, c2, c3⟩ := (SBox.new w L s).cells
  obtain ⟨W0, hW0⟩ : ∃ W0, w.alloc (.cells #[.int .i64 s.wl, .int .i64 s.wh, .slice L.Ap s.ps.length L.cp, .slice L.Ab s.bs.length L.cb] 27) = W0 := ⟨_, rfl⟩
  rw [hW0] at hbw HB c0 c1 c2 c3
  have HBW := Lib.hid hbw
  have HW0 := Lib.hid hW0
  have HH := Lib.hid (hH.below hbw)
  have HI := Lib.hid (ints_later hI hbw)
  have HK := Lib.hid (rcheck_any L s W0 HH.out)
  rw [ckS_ask] at HK
  by_cases h0 : askS s true = 0
  · rw [h0] at HK
    have hS := SOK.ofValid (askS_ok h0).1
    have H25 := Lib.hid (fun W hW hI => rIsCrew_any L s hS c A cv hcl hcv W hW hI)
    have H87 := Lib.hid (fun W hW => ask_any L s (crewB s c) W hW)
    generalize crewB s c = cb0 at H25 H87 ⊢
    clear hbw hW0 hH hS h0 hI hcl hcv
    obtain ⟨Ap, cp, Ab, cb⟩ := L
    go_enter Try.func96, Try.ntmps96
    go_upto_region 1 with (fail)
    have e := HW0.out
    rw [e]
    clear e
    go_upto_region 4 with (go_at_call 52; refine HK.out.mono ?_; rintro e w1 ⟨rfl, hb1⟩; have B1 := Lib.hid hb1; obtain ⟨r0, r1, r2, r3⟩ := (HB.out.of (hb1.block _ HB.out.lt)).cells; clear hb1)
    clear c0 c1 c2 c3
    go_region_held3 (fun w' => w'.cell? ⟨w.heap.size, 0, none⟩ = some (.int .i64 s.wl) ∧ w'.cell? ⟨w.heap.size, 1, none⟩ = some (.int .i64 s.wh) ∧ w'.cell? ⟨w.heap.size, 2, none⟩ = some (.slice Ap s.ps.length cp) ∧ w'.cell? ⟨w.heap.size, 3, none⟩ = some (.slice Ab s.bs.length cb)) (first | go_keep)
      (first
        | (go_at_call 25; refine (H25.out w1.drew (HH.out.below (hb0to B1.out (drew_below _))) (ints_later HI.out (hb0to B1.out (drew_below _)))).mono ?_; rintro e w2 ⟨rfl, hb2⟩; have B2 := Lib.hid (hb0to (hb0to B1.out (drew_below _)) hb2); obtain ⟨t0, t1, t2, t3⟩ := (HB.out.of (B2.out.block _ HB.out.lt)).cells; clear hb2)
        | (go_at_call 87; refine (H87.out w2 (HH.out.below B2.out)).mono ?_; rintro e w3 ⟨rfl, hb3⟩; have B3 := Lib.hid (hb0to B2.out hb3); obtain ⟨u0, u1, u2, u3⟩ := (HB.out.of (B3.out.block _ HB.out.lt)).cells; clear hb3))
    all_goals
      go_wp2_with (fail)
      go_ret
      exact ⟨rfl, hb0to HBW.out B3.out⟩
  · have hd : (askS s true != 0) = true := by simp [h0]
    have HR := Lib.hid (askS_bad_same (crewB s c) h0)
    rw [HR.out]
    generalize askS s true = er at HK hd
    clear hbw hW0 hH h0 hI hcl hcv
    obtain ⟨Ap, cp, Ab, cb⟩ := L
    go_enter Try.func96, Try.ntmps96
    go_upto_region 1 with (fail)
    have e := HW0.out
    rw [e]
    clear e
    go_wp2_with (go_at_call 52; refine HK.out.mono ?_; rintro e w1 ⟨rfl, hb1⟩; have B1 := Lib.hid hb1; clear hb1)
    go_ret
    exact ⟨rfl, hb0to HBW.out B1.out⟩
set_option maxRecDepth 100000 in
set_option maxHeartbeats 4000000 in
theorem rswap_any (L : SL) (s : Sea) (c : List Int) (A : Option Addr) (cv : Nat) (hcl : c.length ≤ 1000) (hcv : c.length ≤ cv) (w : World) (hH : SeaAt w w.heap.size L s) (hI : IntsAt w w.heap.size A c) : Calls Try.prog 70 #[L.enc s, .slice A c.length cv] w fun e w' => SwapRet s c e ∧ Below w.heap.size w w' := by
  have hbw := hb0to (al_below w (.cells #[.int .i64 s.wl, .int .i64 s.wh, .slice L.Ap s.ps.length L.cp, .slice L.Ab s.bs.length L.cb] 27)) (al_below _ (.cells #[.int .i64 0, .int .i64 0] 75))
  have hx0 := (SBox.new w L s).of (Below.heap_alloc _ (.cells #[.int .i64 0, .int .i64 0] 75) _ (by simp))
  have hz0 := heap_new2 w (.cells #[.int .i64 s.wl, .int .i64 s.wh, .slice L.Ap s.ps.length L.cp, .slice L.Ab s.bs.length L.cb] 27) (.cells #[.int .i64 0, .int .i64 0] 75)
  obtain ⟨W0, hW0⟩ : ∃ W0, (w.alloc (.cells #[.int .i64 s.wl, .int .i64 s.wh, .slice L.Ap s.ps.length L.cp, .slice L.Ab s.bs.length L.cb] 27)).alloc (.cells #[.int .i64 0, .int .i64 0] 75) = W0 := ⟨_, rfl⟩
  rw [hW0] at hbw hx0 hz0
  have HBW := Lib.hid hbw
  have HW0 := Lib.hid hW0
  have HB := Lib.hid hx0
  have HZ := Lib.hid hz0
  have HH := Lib.hid (hH.below hbw)
  have HI := Lib.hid (ints_later hI hbw)
  obtain ⟨c0, c1, c2, c3⟩ := hx0.cells
  have HO := Lib.hid (ropen_any L s c A cv hcl hcv W0 HH.out HI.out)
  by_cases h0 : askS s (crewB s c) = 0
  · rw [h0] at HO
    obtain ⟨hv, hcr0⟩ := askS_ok h0
    have hS := SOK.ofValid hv
    have hcr := crewB_iff.1 hcr0
    have hpl := hS.pl
    have hcn : c.length ≤ 4 := by have := hcr.1; omega
    have HN := Lib.hid (fun W hW => rhighs_any L s hS W hW)
    have H63 := Lib.hid (fun (a b : Nat) (ha : a < c.length) (hb : b < c.length) W hI => exchanged_any c hcl a b ha hb A cv W hI)
    have H99c := Lib.hid (fun B cw W hW hI hJ => rlifts_any L s hS c hcr.2.1 (by have := hcr.1; omega) A B cv cw W hW hI hJ)
    have H99 := Lib.hid (fun (a b : Nat) (ha : a < c.length) (hb : b < c.length) Ax cx B cw W hW hI hJ => rlifts_any L s hS (exchL c a b) (exch_in ha hb hcr.2.1) (by rw [exchL_len]; have := hcr.1; omega) Ax B cx cw W hW hI hJ)
    have HR := Lib.hid (fun (r : (Int × Int) × Int) (h : (∃ a b : Nat, a < b ∧ b < c.length ∧ betterP s c a b ∧ noPair s c a b ∧ r = (((a : Int), (b : Int)), 0)) ∨ ((∀ a b : Nat, a < b → b < c.length → ¬ betterP s c a b) ∧ r = ((0, 0), 3))) => show SwapIs s c r from .inr ⟨h0, h⟩)
    have hn0 := noPair_zero s c
    clear hbw hW0 hH hI hx0 hz0 hv hcr0 hS hcr h0 hcl hcv
    obtain ⟨Ap, cp, Ab, cb⟩ := L
    go_enter Try.func70, Try.ntmps70
    go_upto_region 1 with (fail)
    have e := HW0.out
    rw [e]
    clear e
    go_upto_region 5 with (first
      | (go_at_call 96; refine HO.out.mono ?_; rintro e w1 ⟨rfl, hb1⟩; have B1 := Lib.hid hb1; obtain ⟨r0, r1, r2, r3⟩ := (HB.out.of (hb1.block _ HB.out.lt)).cells; clear hb1)
      | (go_at_call 100; refine (HN.out w1 (HH.out.below B1.out)).mono ?_; rintro e w3 ⟨⟨An, cn, rfl, hIn⟩, hb3⟩; have B3 := Lib.hid (hb0to B1.out hb3); have HI3 := Lib.hid hIn; clear hb3 hIn))
    clear c0 c1 c2 c3 r0 r1 r2 r3
    go_wp2_with (fail)
    go_loopw [8] (fun v wr => ∃ k : Nat, k ≤ c.length ∧ v = .int .i64 k ∧ Hid (noPair s c k (k + 1)) ∧ Hid (Below w3.heap.size w3 wr)) (fun v _ => c.length - (intOf v).toNat)
    case atStart => exact ⟨0, Nat.zero_le _, rfl, Lib.hid hn0, Lib.hid (Below.refl _ _)⟩
    case round =>
      obtain ⟨wo, rfl⟩ : ∃ x : World, x = wr := ⟨_, rfl⟩
      obtain ⟨k, hk, rfl, hno, hb⟩ := hrel
      have HBo := Lib.hid (hb0to B3.out hb.out)
      by_cases hlt : k < c.length
      · go_wp2_with (fail)
        go_loopw [9] (fun v wi => ∃ j : Nat, (k < j ∧ j ≤ c.length) ∧ v = .int .i64 j ∧ Hid (noPair s c k j) ∧ Hid (Below wo.heap.size wo wi)) (fun v _ => c.length - (intOf v).toNat)
        case atStart => exact ⟨k + 1, ⟨by omega, by omega⟩, by go_num, hno, Lib.hid (Below.refl _ _)⟩
        case round =>
          obtain ⟨j, ⟨hkj, hj⟩, rfl, hrow, hbi⟩ := hrel
          have HBi := Lib.hid (hb0to HBo.out hbi.out)
          have HB3 := Lib.hid (hb0to hb.out hbi.out)
          obtain ⟨r0, r1, r2, r3⟩ := (HB.out.of (HBi.out.block _ HB.out.lt)).cells
          by_cases hlj : j < c.length
          · go_upto_region 12 with (fail)
            have hbp := al_below wr (.cells #[.int .i64 k, .int .i64 j] 75)
            have g0 := below_cell hbp r0
            have g1 := below_cell hbp r1
            have g2 := below_cell hbp r2
            have g3 := below_cell hbp r3
            have g4 : (wr.alloc (.cells #[.int .i64 k, .int .i64 j] 75)).cell? ⟨wr.heap.size, 0, none⟩ = some (.int .i64 k) := by simp [go_sem]
            have g5 : (wr.alloc (.cells #[.int .i64 k, .int .i64 j] 75)).cell? ⟨wr.heap.size, 1, none⟩ = some (.int .i64 j) := by simp [go_sem]
            obtain ⟨wp, hp⟩ : ∃ W, wr.alloc (.cells #[.int .i64 k, .int .i64 j] 75) = W := ⟨_, rfl⟩
            rw [hp] at hbp g0 g1 g2 g3 g4 g5 ⊢
            have HBp := Lib.hid hbp
            clear hp hbp r0 r1 r2 r3
            have X63 := Lib.hid (H63.out k j hlt hlj)
            have X99 := Lib.hid (H99.out k j hlt hlj)
            have HBt : Hid (betterP s c k j ↔ liftS s c < liftS s (exchL c k j)) := Lib.hid Iff.rfl
            have HNx := Lib.hid (fun h => noPair_next (s := s) (c := c) (a := k) (b := j) hrow.out h)
            have HEL := Lib.hid (exchL_len c k j)
            generalize exchL c k j = cx at X63 X99 HBt HEL
            generalize liftS s cx = m2 at X99 HBt
            have H99c' := Lib.hid H99c.out
            by_cases hm : liftS s c < m2
            · have hbt := HBt.out.2 hm
              have HSW := Lib.hid (HR.out (((k : Int), (j : Int)), 0) (.inl ⟨k, j, hkj, hlj, hbt, hrow.out, rfl⟩))
              have hdl : decide (liftS s c < m2) = true := decide_eq_true hm
              clear H99c
              generalize liftS s c = m1 at H99c' hdl
              clear hm HBt hbt
              as_aux_lemma =>
              go_region_held3 (fun w' => w'.cell? ⟨w.heap.size, 0, none⟩ = some (.int .i64 s.wl) ∧ w'.cell? ⟨w.heap.size, 1, none⟩ = some (.int .i64 s.wh) ∧ w'.cell? ⟨w.heap.size, 2, none⟩ = some (.slice Ap s.ps.length cp) ∧ w'.cell? ⟨w.heap.size, 3, none⟩ = some (.slice Ab s.bs.length cb) ∧ w'.cell? ⟨wr.heap.size, 0, none⟩ = some (.int .i64 k) ∧ w'.cell? ⟨wr.heap.size, 1, none⟩ = some (.int .i64 j)) (first | go_keep)
                (first
                  | (go_at_call 63; refine (X63.out wp.drew (ints_later HI.out (hb0to HBi.out (hb0to HBp.out (drew_below _))))).mono ?_; rintro e w6 ⟨⟨v6, rfl, hv6⟩, hb6⟩; have hk6 := hb0to (drew_below wp) hb6; obtain ⟨A6, k6, rfl, hi6⟩ := ints_lays hv6; have I6 := Lib.hid hi6; have B6 := Lib.hid hk6; have s0 := below_cell hk6 g0; have s1 := below_cell hk6 g1; have s2 := below_cell hk6 g2; have s3 := below_cell hk6 g3; have s4 := below_cell hk6 g4; have s5 := below_cell hk6 g5; clear hb6 hk6 hv6 hi6)
                  | (go_at_call 99; refine (H99c'.out An cn w7 (HH.out.below (hb0to HBi.out (hb0to HBp.out B7.out))) (ints_later HI.out (hb0to HBi.out (hb0to HBp.out B7.out))) (HI3.out.below (hb0to HB3.out (hb0to HBp.out B7.out))).ints).mono ?_; rintro e w8 ⟨rfl, hb8⟩; have hk8 := hb0to B7.out hb8; have B8 := Lib.hid hk8; have u0 := below_cell hk8 g0; have u1 := below_cell hk8 g1; have u2 := below_cell hk8 g2; have u3 := below_cell hk8 g3; have u4 := below_cell hk8 g4; have u5 := below_cell hk8 g5; clear hb8 hk8)
                  | (go_at_call 99; refine (X99.out A6 k6 An cn w6 (HH.out.below (hb0to HBi.out (hb0to HBp.out B6.out))) I6.out (HI3.out.below (hb0to HB3.out (hb0to HBp.out B6.out))).ints).mono ?_; rintro e w7 ⟨rfl, hb7⟩; have hk7 := hb0to B6.out hb7; have B7 := Lib.hid hk7; have t0 := below_cell hk7 g0; have t1 := below_cell hk7 g1; have t2 := below_cell hk7 g2; have t3 := below_cell hk7 g3; have t4 := below_cell hk7 g4; have t5 := below_cell hk7 g5; clear hb7 hk7))
              all_goals
                have B9 := Lib.hid (hb0to HBi.out (hb0to HBp.out B8.out))
                have HZ_w8 := Lib.hid ((B9.out.block _ (heap_lt HZ.out)).trans HZ.out); have qr0 : w8.cell? ⟨w.heap.size + 1, 0, none⟩ = some (.int .i64 0) := cell_of_heap HZ_w8.out rfl; have qr1 : w8.cell? ⟨w.heap.size + 1, 1, none⟩ = some (.int .i64 0) := cell_of_heap HZ_w8.out rfl; have qf : ∀ o, w8.frozen? ⟨w.heap.size + 1, o, none⟩ = false := frozen_of_heap HZ_w8.out
                go_wp2_with (fail)
                have hw3 : ((w8.setCell ⟨w.heap.size + 1, 0, none⟩ (.int .i64 (k : Int))).setCell ⟨w.heap.size + 1, 1, none⟩ (.int .i64 (j : Int))).heap[w.heap.size + 1]? = some (.cells #[.int .i64 (k : Int), .int .i64 (j : Int)] 75) := heap_set (.int .i64 (j : Int)) (heap_set (.int .i64 (k : Int)) HZ_w8.out)
                have BF := Lib.hid ((((HBW.out.trans (B9.out.mono HBW.out.size)).setCell (p := ⟨w.heap.size + 1, 0, none⟩) (Nat.le_succ _) (.int .i64 (k : Int)))).setCell (p := ⟨w.heap.size + 1, 1, none⟩) (Nat.le_succ _) (.int .i64 (j : Int)))
                generalize (w8.setCell ⟨w.heap.size + 1, 0, none⟩ (.int .i64 (k : Int))).setCell ⟨w.heap.size + 1, 1, none⟩ (.int .i64 (j : Int)) = wF at hw3 BF ⊢
                have rr0 : wF.cell? ⟨w.heap.size + 1, 0, none⟩ = some (.int .i64 (k : Int)) := cell_of_heap hw3 rfl
                have rr1 : wF.cell? ⟨w.heap.size + 1, 1, none⟩ = some (.int .i64 (j : Int)) := cell_of_heap hw3 rfl
                refine bodyPost_ret (by simp [results, Try.results70, go_sem, rr0, rr1]; try rfl) rfl ?_
                exact ⟨⟨_, rfl, HSW.out⟩, BF.out⟩
            · have hbt : ¬ betterP s c k j := fun h => hm (HBt.out.1 h)
              have HN2 := Lib.hid (HNx.out hbt)
              have hdl : decide (liftS s c < m2) = false := decide_eq_false hm
              clear H99c
              generalize liftS s c = m1 at H99c' hdl
              clear hm HBt hbt HNx
              as_aux_lemma =>
              go_region_held3 (fun w' => w'.cell? ⟨w.heap.size, 0, none⟩ = some (.int .i64 s.wl) ∧ w'.cell? ⟨w.heap.size, 1, none⟩ = some (.int .i64 s.wh) ∧ w'.cell? ⟨w.heap.size, 2, none⟩ = some (.slice Ap s.ps.length cp) ∧ w'.cell? ⟨w.heap.size, 3, none⟩ = some (.slice Ab s.bs.length cb) ∧ w'.cell? ⟨wr.heap.size, 0, none⟩ = some (.int .i64 k) ∧ w'.cell? ⟨wr.heap.size, 1, none⟩ = some (.int .i64 j)) (first | go_keep)
                (first
                  | (go_at_call 63; refine (X63.out wp.drew (ints_later HI.out (hb0to HBi.out (hb0to HBp.out (drew_below _))))).mono ?_; rintro e w6 ⟨⟨v6, rfl, hv6⟩, hb6⟩; have hk6 := hb0to (drew_below wp) hb6; obtain ⟨A6, k6, rfl, hi6⟩ := ints_lays hv6; have I6 := Lib.hid hi6; have B6 := Lib.hid hk6; have s0 := below_cell hk6 g0; have s1 := below_cell hk6 g1; have s2 := below_cell hk6 g2; have s3 := below_cell hk6 g3; have s4 := below_cell hk6 g4; have s5 := below_cell hk6 g5; clear hb6 hk6 hv6 hi6)
                  | (go_at_call 99; refine (H99c'.out An cn w7 (HH.out.below (hb0to HBi.out (hb0to HBp.out B7.out))) (ints_later HI.out (hb0to HBi.out (hb0to HBp.out B7.out))) (HI3.out.below (hb0to HB3.out (hb0to HBp.out B7.out))).ints).mono ?_; rintro e w8 ⟨rfl, hb8⟩; have hk8 := hb0to B7.out hb8; have B8 := Lib.hid hk8; have u0 := below_cell hk8 g0; have u1 := below_cell hk8 g1; have u2 := below_cell hk8 g2; have u3 := below_cell hk8 g3; have u4 := below_cell hk8 g4; have u5 := below_cell hk8 g5; clear hb8 hk8)
                  | (go_at_call 99; refine (X99.out A6 k6 An cn w6 (HH.out.below (hb0to HBi.out (hb0to HBp.out B6.out))) I6.out (HI3.out.below (hb0to HB3.out (hb0to HBp.out B6.out))).ints).mono ?_; rintro e w7 ⟨rfl, hb7⟩; have hk7 := hb0to B6.out hb7; have B7 := Lib.hid hk7; have t0 := below_cell hk7 g0; have t1 := below_cell hk7 g1; have t2 := below_cell hk7 g2; have t3 := below_cell hk7 g3; have t4 := below_cell hk7 g4; have t5 := below_cell hk7 g5; clear hb7 hk7))
              all_goals
                clear g0 g1 g2 g3 g4 g5 s0 s1 s2 s3 s4 s5 t0 t1 t2 t3 t4 t5 u0 u1 u2 u3 u4 u5
                go_wp2_with (fail)
                go_roundw
                case rel => exact ⟨j + 1, ⟨by omega, by omega⟩, by go_num, HN2, Lib.hid (hb0to hbi.out (hb0to HBp.out B8.out))⟩
                case measure => simp [intOf]; omega
          · obtain rfl : j = c.length := by omega
            have HN2 := Lib.hid (noPair_row hrow.out)
            go_wp2_with (fail)
            go_roundw
            case rel => exact ⟨k + 1, by omega, by go_num, HN2, Lib.hid (hb0to hb.out hbi.out)⟩
            case measure => simp [intOf]; omega
      · obtain rfl : k = c.length := by omega
        have HSW := Lib.hid (HR.out ((0, 0), 3) (.inr ⟨swap_end (Nat.le_refl _) hno.out, rfl⟩))
        have HZ_wo := Lib.hid ((HBo.out.block _ (heap_lt HZ.out)).trans HZ.out); have qr0 : wo.cell? ⟨w.heap.size + 1, 0, none⟩ = some (.int .i64 0) := cell_of_heap HZ_wo.out rfl; have qr1 : wo.cell? ⟨w.heap.size + 1, 1, none⟩ = some (.int .i64 0) := cell_of_heap HZ_wo.out rfl; have qf : ∀ o, wo.frozen? ⟨w.heap.size + 1, o, none⟩ = false := frozen_of_heap HZ_wo.out
        go_wp2_with (fail)
        have hw3 : ((wo.setCell ⟨w.heap.size + 1, 0, none⟩ (.int .i64 0)).setCell ⟨w.heap.size + 1, 1, none⟩ (.int .i64 0)).heap[w.heap.size + 1]? = some (.cells #[.int .i64 0, .int .i64 0] 75) := heap_set (.int .i64 0) (heap_set (.int .i64 0) HZ_wo.out)
        have BF := Lib.hid ((((HBW.out.trans (HBo.out.mono HBW.out.size)).setCell (p := ⟨w.heap.size + 1, 0, none⟩) (Nat.le_succ _) (.int .i64 0))).setCell (p := ⟨w.heap.size + 1, 1, none⟩) (Nat.le_succ _) (.int .i64 0))
        generalize (wo.setCell ⟨w.heap.size + 1, 0, none⟩ (.int .i64 0)).setCell ⟨w.heap.size + 1, 1, none⟩ (.int .i64 0) = wF at hw3 BF ⊢
        have rr0 : wF.cell? ⟨w.heap.size + 1, 0, none⟩ = some (.int .i64 0) := cell_of_heap hw3 rfl
        have rr1 : wF.cell? ⟨w.heap.size + 1, 1, none⟩ = some (.int .i64 0) := cell_of_heap hw3 rfl
        refine bodyPost_ret (by simp [results, Try.results70, go_sem, rr0, rr1]; try rfl) rfl ?_
        exact ⟨⟨_, rfl, HSW.out⟩, BF.out⟩
  · have HSW := Lib.hid (show SwapIs s c ((0, 0), askS s (crewB s c)) from .inl ⟨h0, rfl⟩)
    have hd : (askS s (crewB s c) != 0) = true := by simp [h0]
    generalize askS s (crewB s c) = er at HO hd HSW
    clear hbw hW0 hH h0 hI hcl hcv hx0 hz0
    obtain ⟨Ap, cp, Ab, cb⟩ := L
    go_enter Try.func70, Try.ntmps70
    go_upto_region 1 with (fail)
    have e := HW0.out
    rw [e]
    clear e
    go_wp2_with (go_at_call 96; refine HO.out.mono ?_; rintro e w1 ⟨rfl, hb1⟩; have B1 := Lib.hid hb1; have HZ_w1 := Lib.hid ((B1.out.block _ (heap_lt HZ.out)).trans HZ.out); have qr0 : w1.cell? ⟨w.heap.size + 1, 0, none⟩ = some (.int .i64 0) := cell_of_heap HZ_w1.out rfl; have qr1 : w1.cell? ⟨w.heap.size + 1, 1, none⟩ = some (.int .i64 0) := cell_of_heap HZ_w1.out rfl; have qf : ∀ o, w1.frozen? ⟨w.heap.size + 1, o, none⟩ = false := frozen_of_heap HZ_w1.out; clear hb1)
    have hw3 : ((w1.setCell ⟨w.heap.size + 1, 0, none⟩ (.int .i64 0)).setCell ⟨w.heap.size + 1, 1, none⟩ (.int .i64 0)).heap[w.heap.size + 1]? = some (.cells #[.int .i64 0, .int .i64 0] 75) := heap_set (.int .i64 0) (heap_set (.int .i64 0) HZ_w1.out)
    have BF := Lib.hid ((((HBW.out.trans (B1.out.mono HBW.out.size)).setCell (p := ⟨w.heap.size + 1, 0, none⟩) (Nat.le_succ _) (.int .i64 0))).setCell (p := ⟨w.heap.size + 1, 1, none⟩) (Nat.le_succ _) (.int .i64 0))
    generalize (w1.setCell ⟨w.heap.size + 1, 0, none⟩ (.int .i64 0)).setCell ⟨w.heap.size + 1, 1, none⟩ (.int .i64 0) = wF at hw3 BF ⊢
    have rr0 : wF.cell? ⟨w.heap.size + 1, 0, none⟩ = some (.int .i64 0) := cell_of_heap hw3 rfl
    have rr1 : wF.cell? ⟨w.heap.size + 1, 1, none⟩ = some (.int .i64 0) := cell_of_heap hw3 rfl
    refine bodyPost_ret (by simp [results, Try.results70, go_sem, rr0, rr1]; try rfl) rfl ?_
    exact ⟨⟨_, rfl, HSW.out⟩, BF.out⟩
end Go.Proofs.Ytgjpllmmpclgaaa
