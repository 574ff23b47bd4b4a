import Derived.Test.YtgjpllmmpclgaaaG14
namespace Go.Proofs.Ytgjpllmmpclgaaa
open Go.RowKit

/-! LiftsSwap 13. -/
/-- What LiftsSwap keeps. -/
structure WMem (w W : World) (L : SL) (s : Sea) (z zp : Nat) (pa pb : Int) (A : Option Addr) (c : List Int) : Prop where
  B : Below w.heap.size w W
  H : SeaAt W W.heap.size L s
  x : SBox W z L s
  k : PairAt W zp pa pb
  i : IntsAt W W.heap.size A c
theorem WMem.next {w W W' : World} {L : SL} {s : Sea} {z zp : Nat} {pa pb : Int} {A : Option Addr} {c : List Int} (h : WMem w W L s z zp pa pb A c) (hb : Below W.heap.size W W') : WMem w W' L s z zp pa pb A c :=
  ⟨hb0to h.B hb, h.H.below hb, h.x.of (hb.block _ h.x.lt), h.k.next hb, ints_later h.i hb⟩
theorem WMem.cells {w W : World} {L : SL} {s : Sea} {z zp : Nat} {pa pb : Int} {A : Option Addr} {c : List Int} (h : WMem w W L s z zp pa pb A c) : (W.cell? ⟨z, 0, none⟩ = some (.int .i64 s.wl) ∧ W.cell? ⟨z, 1, none⟩ = some (.int .i64 s.wh) ∧ W.cell? ⟨z, 2, none⟩ = some (.slice L.Ap s.ps.length L.cp) ∧ W.cell? ⟨z, 3, none⟩ = some (.slice L.Ab s.bs.length L.cb)) ∧ W.cell? ⟨zp, 0, none⟩ = some (.int .i64 pa) ∧ W.cell? ⟨zp, 1, none⟩ = some (.int .i64 pb) :=
  ⟨h.x.cells, h.k.cells.1, h.k.cells.2⟩
theorem PairAt.put {W : World} {k : Nat} {x y : Int} (h : PairAt W k x y) (u v : Int) : PairAt ((W.setCell ⟨k, 0, none⟩ (.int .i64 u)).setCell ⟨k, 1, none⟩ (.int .i64 v)) k u v := heap_set (.int .i64 v) (heap_set (.int .i64 u) h)
theorem PairAt.kept {X W : World} {k : Nat} {x y : Int} {ob : Option Nat} (h : PairAt X k x y) (hg : X.grownBy W ob) (hne : some k ≠ ob) : PairAt W k x y := (hg.block k (heap_lt h) hne).trans h
theorem z5_a {w4 w5 : World} (h3 : ((w4.alloc (.cells #[] 3)).alloc (.cells #[.int .i64 0, .int .i64 0] 75)).drew.grownBy w5 (Value.slice (some ⟨w4.heap.size, 0, none⟩) 0 0).ownBlock) : PairAt w5 (w4.heap.size + 1) 0 0 := by
  have h : ((w4.alloc (.cells #[] 3)).alloc (.cells #[.int .i64 0, .int .i64 0] 75)).drew.heap[w4.heap.size + 1]? = some (.cells #[.int .i64 0, .int .i64 0] 75 (0, 0)) := heap_new2 w4 _ _
  refine PairAt.kept (X := ((w4.alloc (.cells #[] 3)).alloc (.cells #[.int .i64 0, .int .i64 0] 75)).drew) h h3 ?_
  intro hh
  have hh' : w4.heap.size + 1 = w4.heap.size := Option.some.inj hh
  omega
theorem z5_b {w4 w5 : World} (h3 : ((w4.alloc (.cells #[.int .i64 0, .int .i64 0] 75)).alloc (.cells #[] 3)).drew.grownBy w5 (Value.slice (some ⟨w4.heap.size + 1, 0, none⟩) 0 0).ownBlock) : PairAt w5 w4.heap.size 0 0 := by
  have h : ((w4.alloc (.cells #[.int .i64 0, .int .i64 0] 75)).alloc (.cells #[] 3)).drew.heap[w4.heap.size]? = some (.cells #[.int .i64 0, .int .i64 0] 75 (0, 0)) := heap_keep (heap_new1 w4 _)
  refine PairAt.kept (X := ((w4.alloc (.cells #[.int .i64 0, .int .i64 0] 75)).alloc (.cells #[] 3)).drew) h h3 ?_
  intro hh
  have hh' : w4.heap.size = w4.heap.size + 1 := Option.some.inj hh
  omega
/-- What the call of Swap leaves. -/
def SwCut (s : Sea) (c : List Int) (w4 : World) (s10 s11 : Value) (wx : World) : Prop := ∃ (pz : Nat) (x1 x2 xe : Int), s10 = .pointer (some ⟨pz, 0, none⟩) ∧ s11 = .int .i64 xe ∧ PairAt wx pz x1 x2 ∧ SwapIs s c ((x1, x2), xe) ∧ Below w4.heap.size w4 wx
theorem exch_len_ne {c : List Int} {a : Nat} (h : a < c.length) : c ≠ [] := by rintro rfl; simp at h
theorem inR_place {k : Nat} {n : Nat} (h : k < n) : inR (k : Int) 0 ((n : Int) - 1) = true := inR_true.2 (by omega)
theorem exch_lift_le {s : Sea} {c : List Int} {a b : Nat} (h : ¬ betterP s c a b) : liftS s (exchL c a b) ≤ liftS s c := Int.not_lt.1 h
set_option maxRecDepth 100000 in
set_option maxHeartbeats 4000000 in
theorem swap_law (L : SL) (s : Sea) (A : Option Addr) (cv : Nat) (c : List Int) (hA : A = none → cv = 0 ∧ c = []) (hcv : c.length ≤ cv) (pa pb : Int) (w : World) (hH : SeaAt w w.heap.size L s) (hI : IntsAt w w.heap.size A c) :
    Calls Try.prog 13 #[L.enc s, .slice A c.length cv, .agg #[.int .i64 pa, .int .i64 pb]] w fun e w' => e = .returned (.bool true) ∧ Below w.heap.size w w' := by
  have hM : WMem w ((w.alloc (.cells #[.int .i64 s.wl, .int .i64 s.wh, .slice L.Ap s.ps.length L.cp, .slice L.Ab s.bs.length L.cb] 27)).alloc (.cells #[.int .i64 pa, .int .i64 pb] 75)) L s w.heap.size (w.heap.size + 1) pa pb A c := by
    have hb := hb0to (al_below w (.cells #[.int .i64 s.wl, .int .i64 s.wh, .slice L.Ap s.ps.length L.cp, .slice L.Ab s.bs.length L.cb] 27)) (al_below _ (.cells #[.int .i64 pa, .int .i64 pb] 75))
    exact ⟨hb, hH.below hb, (SBox.new w L s).of (Below.heap_alloc _ (.cells #[.int .i64 pa, .int .i64 pb] 75) _ (by simp)), heap_new2 w (.cells #[.int .i64 s.wl, .int .i64 s.wh, .slice L.Ap s.ps.length L.cp, .slice L.Ab s.bs.length L.cb] 27) (.cells #[.int .i64 pa, .int .i64 pb] 75), ints_later hI hb⟩
  obtain ⟨W0, hW0⟩ : ∃ W0, (w.alloc (.cells #[.int .i64 s.wl, .int .i64 s.wh, .slice L.Ap s.ps.length L.cp, .slice L.Ab s.bs.length L.cb] 27)).alloc (.cells #[.int .i64 pa, .int .i64 pb] 75) = W0 := ⟨_, rfl⟩
  rw [hW0] at hM
  have HW0 := Lib.hid hW0
  have M0 := Lib.hid hM
  obtain ⟨⟨c0, c1, c2, c3⟩, c4, c5⟩ := M0.out.cells
  have HR := Lib.hid (fun W hW => ready_any L s W hW)
  have HA := Lib.hid hA
  clear hW0 hM hH hI hA
  cases hv : validS s
  · rw [hv] at HR
    clear hv
    as_aux_lemma =>
    obtain ⟨Ap, cp, Ab, cb⟩ := L
    go_enter Try.func13, Try.ntmps13
    go_upto_region 1 with (fail)
    have e := HW0.out
    rw [e]
    clear e
    go_wp2_with (first
      | (go_at_call 16; refine (HR.out W0 M0.out.H).mono ?_; rintro e w1 ⟨rfl, hb⟩; have M1 := Lib.hid (M0.out.next hb); obtain ⟨⟨r0, r1, r2, r3⟩, r4, r5⟩ := M1.out.cells; clear hb)
      | (go_at_call 17; refine (works_any _).mono ?_; rintro e wz ⟨rfl, hb⟩; have MZ := Lib.hid (M1.out.next hb); clear hb))
    go_ret
    exact ⟨rfl, MZ.out.B⟩
  · rw [hv] at HR
    by_cases h40 : 40 < c.length
    · have hd : decide ((40 : Int) < (c.length : Int)) = true := decide_eq_true (by omega)
      clear h40 hv
      as_aux_lemma =>
      obtain ⟨Ap, cp, Ab, cb⟩ := L
      go_enter Try.func13, Try.ntmps13
      go_upto_region 1 with (fail)
      have e := HW0.out
      rw [e]
      clear e
      go_wp2_with (first
        | (go_at_call 16; refine (HR.out W0 M0.out.H).mono ?_; rintro e w1 ⟨rfl, hb⟩; have M1 := Lib.hid (M0.out.next hb); obtain ⟨⟨r0, r1, r2, r3⟩, r4, r5⟩ := M1.out.cells; clear hb)
        | (go_at_call 17; refine (works_any _).mono ?_; rintro e wz ⟨rfl, hb⟩; have MZ := Lib.hid (M1.out.next hb); clear hb))
      go_ret
      exact ⟨rfl, MZ.out.B⟩
    · have hd : decide ((40 : Int) < (c.length : Int)) = false := decide_eq_false (by omega)
      have hS := SOK.ofValid hv
      have H25 := Lib.hid (fun W hW hI => rIsCrew_any L s hS c A cv (by omega) hcv W hW hI)
      cases hcb : crewB s c
      · rw [hcb] at H25
        clear h40 hv hcb hS
        as_aux_lemma =>
        obtain ⟨Ap, cp, Ab, cb⟩ := L
        go_enter Try.func13, Try.ntmps13
        go_upto_region 1 with (fail)
        have e := HW0.out
        rw [e]
        clear e
        go_wp2_with (first
          | (go_at_call 16; refine (HR.out W0 M0.out.H).mono ?_; rintro e w1 ⟨rfl, hb⟩; have M1 := Lib.hid (M0.out.next hb); obtain ⟨⟨r0, r1, r2, r3⟩, r4, r5⟩ := M1.out.cells; clear hb)
          | (go_at_call 25; refine (H25.out w1 M1.out.H M1.out.i).mono ?_; rintro e w2 ⟨rfl, hb⟩; have M2 := Lib.hid (M1.out.next hb); obtain ⟨⟨t0, t1, t2, t3⟩, t4, t5⟩ := M2.out.cells; clear hb)
          | (go_at_call 17; refine (works_any _).mono ?_; rintro e wz ⟨rfl, hb⟩; have MZ := Lib.hid (M2.out.next hb); clear hb))
        go_ret
        exact ⟨rfl, MZ.out.B⟩
      · rw [hcb] at H25
        have hcr := crewB_iff.1 hcb
        have hpl := hS.pl
        have hcn : c.length ≤ 4 := by have := hcr.1; omega
        have hll : c.length ≤ 1000 := by omega
        have HLL := Lib.hid hll
        have HCE := Lib.hid hcr.1
        have H27 := Lib.hid (fun (q : List Int) (hq : CrewOf s.bs.length s.ps.length q) Ax cx (hx : Ax = none → cx = 0 ∧ q = []) W hW hI => show Calls Try.prog 27 #[L.enc s, .slice Ax q.length cx] W fun e w' => e = .returned (.int .i64 (liftS s q)) ∧ Below W.heap.size W w' by
          rw [← canW_crew (crewB_iff.2 hq)]
          exact canW_any L s hv q Ax cx hx (by have := hq.1; omega) W hW hI)
        have H27c := Lib.hid (H27.out c hcr A cv HA.out)
        have H27e := Lib.hid (fun (i j : Nat) (hi : i < c.length) (hj : j < c.length) => H27.out (exchL c i j) (exch_crew hi hj hcr))
        have H34 := Lib.hid (fun W hW => mostW_any L s hv W hW)
        have H62 := Lib.hid (fun Ax cx W hW hI => Swap_any L s c Ax cx hll W hW hI)
        have H63 := Lib.hid (fun (a b : Nat) (ha : a < c.length) (hb : b < c.length) W hI => exchanged_any c hll a b ha hb A cv W hI)
        have H39 := Lib.hid (fun (k : Int) (v : Bool) (h : inR k 0 ((s.ps.length : Int) - 1) = v) W => show Calls Try.prog 39 #[L.enc s, .int .i64 k] W fun e w' => e = .returned (.bool v) ∧ Below W.heap.size W w' by
          rw [← h]; exact rIsPlace_any L s k W (by omega))
        have hlb := lift_bd hS hcr
        have hge := most_ge hcr
        have HAsk := Lib.hid (show askS s (crewB s c) = 0 by rw [hcb]; exact askS_true hv)
        have hdn : decide (liftS s c < 0) = false := decide_eq_false (by omega)
        have hdm : decide (mostS s < liftS s c) = false := decide_eq_false (by omega)
        have HB := Lib.hid (fun (a b : Nat) => show betterP s c a b ↔ liftS s c < liftS s (exchL c a b) from Iff.rfl)
        obtain ⟨n, hn⟩ : ∃ n, n = liftS s c := ⟨_, rfl⟩
        rw [← hn] at H27c hlb hdn hdm HB
        generalize mostS s = m at H34 hdm
        have hb0 : ∀ q : List Int, CrewOf s.bs.length s.ps.length q → 0 ≤ liftS s q := fun q hq => (lift_bd hS hq).1
        have HB0 := Lib.hid (fun (i j : Nat) (hi : i < c.length) (hj : j < c.length) => hb0 _ (exch_crew hi hj hcr))
        have HI0 := Lib.hid (rows_made1)
        clear h40 hv hcb hS hcr hge hb0 hn H27
        as_aux_lemma =>
        obtain ⟨Ap, cp, Ab, cb⟩ := L
        go_enter Try.func13, Try.ntmps13
        go_upto_region 1 with (fail)
        have e := HW0.out
        rw [e]
        clear e
        go_upto_region 5 with (first
          | (go_at_call 16; refine (HR.out W0 M0.out.H).mono ?_; rintro e w1 ⟨rfl, hb⟩; have M1 := Lib.hid (M0.out.next hb); obtain ⟨⟨r0, r1, r2, r3⟩, r4, r5⟩ := M1.out.cells; clear hb)
          | (go_at_call 25; refine (H25.out w1 M1.out.H M1.out.i).mono ?_; rintro e w2 ⟨rfl, hb⟩; have M2 := Lib.hid (M1.out.next hb); obtain ⟨⟨t0, t1, t2, t3⟩, t4, t5⟩ := M2.out.cells; clear hb)
          | (go_at_call 27; refine (H27c.out w2 M2.out.H M2.out.i).mono ?_; rintro e w3 ⟨rfl, hb⟩; have M3 := Lib.hid (M2.out.next hb); obtain ⟨⟨u0, u1, u2, u3⟩, u4, u5⟩ := M3.out.cells; clear hb)
          | (go_at_call 34; clear r0 r1 r2 r3 r4 r5; refine (H34.out w3 M3.out.H).mono ?_; rintro e w4 ⟨rfl, hb⟩; have M4 := Lib.hid (M3.out.next hb); obtain ⟨⟨r0, r1, r2, r3⟩, r4, r5⟩ := M4.out.cells; clear hb))
        clear c0 c1 c2 c3 c4 c5 t0 t1 t2 t3 t4 t5 u0 u1 u2 u3 u4 u5
        go_cut [10, 11] (fun s10 s11 wx => SwCut s c w4 s10 s11 wx)
        case first =>
          go_region_held3 (fun w' => w'.cell? ⟨w.heap.size, 0, none⟩ = some (.int .i64 s.wl) ∧ w'.cell? ⟨w.heap.size, 1, none⟩ = some (.int .i64 s.wh) ∧ w'.cell? ⟨w.heap.size, 2, none⟩ = some (.slice Ap s.ps.length cp) ∧ w'.cell? ⟨w.heap.size, 3, none⟩ = some (.slice Ab s.bs.length cb)) (first | go_keep)
            (first
              | (refine step_copyG (by rfl) _ _ (by rfl) w4.heap.size _ [] (by rfl) (by first | exact rows_made1 _ | exact rows_made2 _ _ | exact rows_made3 _ _) A cv c c.length rfl HA.out (by rfl) (M4.out.next (by first | exact rows_below1 _ _ | exact rows_below2 _ _ _)).i (by simp) HLL.out (by first | (simp; done) | (simp; omega)) ?_; intro v3 w5 h1 h2 h3; have hb5 : Below w4.heap.size w4 w5 := (by first | exact (rows_below1 _ _).trans h2 | exact (rows_below2 _ _ _).trans h2); have M5 := Lib.hid (M4.out.next hb5); obtain ⟨A5, k5, rfl, -, -, hA5⟩ := (show Ints w5 w4.heap.size v3 c from h1).lay; have I5 := Lib.hid hA5.at_; obtain ⟨⟨t0, t1, t2, t3⟩, t4, t5⟩ := M5.out.cells; (first | (have Z5 := Lib.hid (z5_a h3)) | (have Z5 := Lib.hid (z5_b h3)) | skip); have B5 := Lib.hid hb5; clear h1 h2 h3 hb5 hA5)
              | (go_at_call 62; refine (H62.out A5 k5 _ (M5.out.next (by first | exact Below.refl _ _ | exact al_below _ _)).H (ints_later I5.out (by first | exact Below.refl _ _ | exact al_below _ _))).mono ?_; rintro e w6 ⟨⟨⟨⟨x1, x2⟩, xe⟩, rfl, hr⟩, hb⟩; have hb6 : Below w5.heap.size w5 w6 := (by first | exact hb | exact hb0to (al_below _ _) hb); have M6 := Lib.hid (M5.out.next hb6); have B6 := Lib.hid (hb0to B5.out hb6); have HSW := Lib.hid hr; obtain ⟨⟨u0, u1, u2, u3⟩, u4, u5⟩ := M6.out.cells; (first | (have hz6 : PairAt w6 w5.heap.size 0 0 := (PairAt.new w5 0 0).next hb; obtain ⟨z0, z1⟩ := hz6.cells; have zf := frozen_of_heap hz6; have Z6 := Lib.hid hz6; have zl := M5.out.x.lt; have zn1 : ¬ w5.heap.size = w.heap.size := (by omega); have zn2 : ¬ w.heap.size = w5.heap.size := (by omega); clear hz6 zl) | (have hz6 := Z5.out.next hb6; obtain ⟨z0, z1⟩ := hz6.cells; have zf := frozen_of_heap hz6; have Z6 := Lib.hid hz6; have zl := M4.out.x.lt; have zn1 : ¬ w4.heap.size = w.heap.size := (by omega); have zn2 : ¬ w.heap.size = w4.heap.size := (by omega); have zn3 : ¬ w4.heap.size + 1 = w.heap.size := (by omega); have zn4 : ¬ w.heap.size = w4.heap.size + 1 := (by omega); clear hz6 zl) | skip); have hB5s := B5.out.size; clear hb hr hb6))
          all_goals
            go_wp2_with (fail)
            go_meet
            first
              | exact ⟨_, x1, x2, xe, rfl, rfl, PairAt.new _ _ _, HSW.out, hb0to B6.out (al_below _ _)⟩
              | exact ⟨_, x1, x2, xe, rfl, rfl, Z6.out.put _ _, HSW.out, (B6.out.setCell (p := ⟨_, 0, none⟩) (by first | exact hB5s | exact Nat.le_refl _ | exact Nat.le_succ _) _).setCell (p := ⟨_, 1, none⟩) (by first | exact hB5s | exact Nat.le_refl _ | exact Nat.le_succ _) _⟩
        case rest =>
          obtain ⟨pz, x1, x2, xe, rfl, rfl, hx7, hsw, hb7⟩ := hcut
          obtain ⟨w7, rfl⟩ : ∃ x : World, x = wc := ⟨_, rfl⟩
          have M7 := Lib.hid (M4.out.next hb7)
          have X7 := Lib.hid hx7
          have HSW := Lib.hid hsw
          clear hx7 hsw hb7 r0 r1 r2 r3 r4 r5
          rcases HSW.out with ⟨hbad, _⟩ | ⟨_, ⟨a, b, hab, hbl, hbt, hno, hxx⟩ | ⟨hno, hxx⟩⟩
          · exact absurd HAsk.out hbad
          · cases hxx
            have hal : a < c.length := by omega
            have QA := Lib.hid (show inR (a : Int) 0 ((s.ps.length : Int) - 1) = true from inR_place (by rw [← HCE.out]; exact hal))
            have QB := Lib.hid (show inR (b : Int) 0 ((s.ps.length : Int) - 1) = true from inR_place (by rw [← HCE.out]; exact hbl))
            have hdab : decide ((b : Int) ≤ (a : Int)) = false := decide_eq_false (by omega)
            have hdab' : decide (b ≤ a) = false := decide_eq_false (by omega)
            have X63 := Lib.hid (H63.out a b hal hbl)
            have X27 := Lib.hid (H27e.out a b hal hbl)
            have hm2 : n < liftS s (exchL c a b) := (HB.out a b).1 hbt
            generalize liftS s (exchL c a b) = m2 at X27 hm2
            have hdm2 : decide (m2 ≤ n) = false := decide_eq_false (by omega)
            have MN := M7
            have XN := X7
            obtain ⟨⟨r0, r1, r2, r3⟩, r4, r5⟩ := MN.out.cells; obtain ⟨p0, p1⟩ := XN.out.cells
            have HNO := Lib.hid hno
            have HXC := Lib.hid (exch_len_ne hal)
            clear hbt hno hm2 HSW
            go_upto_region 8 with (go_at_call 20; refine (known_any _ _).mono ?_; rintro e w' ⟨rfl, rfl⟩)
            go_cut [91] (fun s91 wx => s91 = .bool false ∧ Hid (WMem w wx ⟨Ap, cp, Ab, cb⟩ s w.heap.size (w.heap.size + 1) pa pb A c) ∧ Hid (PairAt wx pz a b))
            case first =>
              go_region_held3 (fun w' => w'.cell? ⟨w.heap.size, 0, none⟩ = some (.int .i64 s.wl) ∧ w'.cell? ⟨w.heap.size, 1, none⟩ = some (.int .i64 s.wh) ∧ w'.cell? ⟨w.heap.size, 2, none⟩ = some (.slice Ap s.ps.length cp) ∧ w'.cell? ⟨w.heap.size, 3, none⟩ = some (.slice Ab s.bs.length cb) ∧ w'.cell? ⟨pz, 0, none⟩ = some (.int .i64 a) ∧ w'.cell? ⟨pz, 1, none⟩ = some (.int .i64 b)) (first | go_keep)
                (first
                  | (go_at_call 39; refine (H39.out _ _ (by first | exact QA.out | exact QB.out) _).mono ?_; rintro e wx ⟨rfl, hb⟩; have MK : Hid (WMem w wx ⟨Ap, cp, Ab, cb⟩ s w.heap.size (w.heap.size + 1) pa pb A c) := Lib.hid (by first | exact MN.out.next hb | exact MN.out.next (hb0to (drew_below _) hb)); have XK : Hid (PairAt wx pz a b) := Lib.hid (by first | exact XN.out.next hb | exact XN.out.next (hb0to (drew_below _) hb)); have MN := Lib.hid MK.out; have XN := Lib.hid XK.out; obtain ⟨⟨r0, r1, r2, r3⟩, r4, r5⟩ := MN.out.cells; obtain ⟨p0, p1⟩ := XN.out.cells; clear hb MK XK)
                  | (go_at_call 63; refine (X63.out _ MN.out.i).mono ?_; rintro e wx ⟨⟨v6, rfl, hv6⟩, hb⟩; have MN := Lib.hid (MN.out.next hb); have XN := Lib.hid (XN.out.next hb); obtain ⟨A6, k6, rfl, hA6, -, hI6⟩ := hv6.lay; have HA6 := Lib.hid hA6; have I6 := Lib.hid hI6.at_; obtain ⟨⟨r0, r1, r2, r3⟩, r4, r5⟩ := MN.out.cells; obtain ⟨p0, p1⟩ := XN.out.cells; clear hb hv6 hA6 hI6)
                  | (go_at_call 27; refine (X27.out A6 k6 HA6.out _ MN.out.H I6.out).mono ?_; rintro e wx ⟨rfl, hb⟩; have MN := Lib.hid (MN.out.next hb); have XN := Lib.hid (XN.out.next hb); obtain ⟨⟨r0, r1, r2, r3⟩, r4, r5⟩ := MN.out.cells; obtain ⟨p0, p1⟩ := XN.out.cells; clear hb))
              all_goals
                go_wp2_with (fail)
                go_meet
                exact ⟨rfl, MN, XN⟩
            case rest =>
              obtain ⟨rfl, M8, X8⟩ := hcut
              obtain ⟨w8, rfl⟩ : ∃ x : World, x = wc := ⟨_, rfl⟩
              clear MN XN r0 r1 r2 r3 r4 r5 p0 p1 QA QB X63 X27 hdab hdab' hdm2
              have MN := M8
              have XN := X8
              obtain ⟨⟨r0, r1, r2, r3⟩, r4, r5⟩ := MN.out.cells; obtain ⟨p0, p1⟩ := XN.out.cells
              cases hA1 : inR pa 0 ((s.ps.length : Int) - 1)
              · have QA := Lib.hid hA1
                have QB := Lib.hid hA1
                clear hA1
                as_aux_lemma =>
                go_wp2_with (first
                  | (go_at_call 39; refine (H39.out _ _ (by first | exact QA.out | exact QB.out) _).mono ?_; rintro e wx ⟨rfl, hb⟩; have MK : Hid (WMem w wx ⟨Ap, cp, Ab, cb⟩ s w.heap.size (w.heap.size + 1) pa pb A c) := Lib.hid (by first | exact MN.out.next hb | exact MN.out.next (hb0to (drew_below _) hb)); have XK : Hid (PairAt wx pz a b) := Lib.hid (by first | exact XN.out.next hb | exact XN.out.next (hb0to (drew_below _) hb)); have MN := Lib.hid MK.out; have XN := Lib.hid XK.out; obtain ⟨⟨r0, r1, r2, r3⟩, r4, r5⟩ := MN.out.cells; obtain ⟨p0, p1⟩ := XN.out.cells; clear hb MK XK)
                  | (go_at_call 17; refine (works_any _).mono ?_; rintro e wz ⟨rfl, hb⟩; have MZ := Lib.hid (MN.out.next hb); clear hb))
                go_ret
                exact ⟨rfl, MZ.out.B⟩
              · cases hB1 : inR pb 0 ((s.ps.length : Int) - 1)
                · have QA := Lib.hid hA1
                  have QB := Lib.hid hB1
                  clear hA1 hB1
                  as_aux_lemma =>
                  go_wp2_with (first
                    | (go_at_call 39; refine (H39.out _ _ (by first | exact QA.out | exact QB.out) _).mono ?_; rintro e wx ⟨rfl, hb⟩; have MK : Hid (WMem w wx ⟨Ap, cp, Ab, cb⟩ s w.heap.size (w.heap.size + 1) pa pb A c) := Lib.hid (by first | exact MN.out.next hb | exact MN.out.next (hb0to (drew_below _) hb)); have XK : Hid (PairAt wx pz a b) := Lib.hid (by first | exact XN.out.next hb | exact XN.out.next (hb0to (drew_below _) hb)); have MN := Lib.hid MK.out; have XN := Lib.hid XK.out; obtain ⟨⟨r0, r1, r2, r3⟩, r4, r5⟩ := MN.out.cells; obtain ⟨p0, p1⟩ := XN.out.cells; clear hb MK XK)
                    | (go_at_call 17; refine (works_any _).mono ?_; rintro e wz ⟨rfl, hb⟩; have MZ := Lib.hid (MN.out.next hb); clear hb))
                  go_ret
                  exact ⟨rfl, MZ.out.B⟩
                · have QA := Lib.hid hA1
                  have QB := Lib.hid hB1
                  have ha2 := inR_true.1 hA1
                  have hb2 := inR_true.1 hB1
                  clear hA1 hB1
                  by_cases hij : pa < pb
                  · have hdp : decide (pb ≤ pa) = false := decide_eq_false (by omega)
                    obtain ⟨i, hpa⟩ : ∃ i : Nat, pa = i := ⟨pa.toNat, by omega⟩
                    obtain ⟨j, hpb⟩ : ∃ j : Nat, pb = j := ⟨pb.toNat, by omega⟩
                    by_cases h1 : (a : Int) < pa
                    · have hd1 : decide ((a : Int) < pa) = true := decide_eq_true h1
                      clear hpa hpb
                      as_aux_lemma =>
                      go_wp2_with (first
                        | (go_at_call 39; refine (H39.out _ _ (by first | exact QA.out | exact QB.out) _).mono ?_; rintro e wx ⟨rfl, hb⟩; have MK : Hid (WMem w wx ⟨Ap, cp, Ab, cb⟩ s w.heap.size (w.heap.size + 1) pa pb A c) := Lib.hid (by first | exact MN.out.next hb | exact MN.out.next (hb0to (drew_below _) hb)); have XK : Hid (PairAt wx pz a b) := Lib.hid (by first | exact XN.out.next hb | exact XN.out.next (hb0to (drew_below _) hb)); have MN := Lib.hid MK.out; have XN := Lib.hid XK.out; obtain ⟨⟨r0, r1, r2, r3⟩, r4, r5⟩ := MN.out.cells; obtain ⟨p0, p1⟩ := XN.out.cells; clear hb MK XK)
                        | (go_at_call 17; refine (works_any _).mono ?_; rintro e wz ⟨rfl, hb⟩; have MZ := Lib.hid (MN.out.next hb); clear hb))
                      go_ret
                      exact ⟨rfl, MZ.out.B⟩
                    · have hd1 : decide ((a : Int) < pa) = false := decide_eq_false h1
                      by_cases h2 : pa = (a : Int)
                      · have hd2 : (pa == (a : Int)) = true := by simpa using h2
                        have HH2 := Lib.hid h2
                        clear h2
                        by_cases h3 : (b : Int) ≤ pb
                        · have hd3 : decide ((b : Int) ≤ pb) = true := decide_eq_true h3
                          clear hpa hpb
                          as_aux_lemma =>
                          go_wp2_with (first
                            | (go_at_call 39; refine (H39.out _ _ (by first | exact QA.out | exact QB.out) _).mono ?_; rintro e wx ⟨rfl, hb⟩; have MK : Hid (WMem w wx ⟨Ap, cp, Ab, cb⟩ s w.heap.size (w.heap.size + 1) pa pb A c) := Lib.hid (by first | exact MN.out.next hb | exact MN.out.next (hb0to (drew_below _) hb)); have XK : Hid (PairAt wx pz a b) := Lib.hid (by first | exact XN.out.next hb | exact XN.out.next (hb0to (drew_below _) hb)); have MN := Lib.hid MK.out; have XN := Lib.hid XK.out; obtain ⟨⟨r0, r1, r2, r3⟩, r4, r5⟩ := MN.out.cells; obtain ⟨p0, p1⟩ := XN.out.cells; clear hb MK XK)
                            | (go_at_call 17; refine (works_any _).mono ?_; rintro e wz ⟨rfl, hb⟩; have MZ := Lib.hid (MN.out.next hb); clear hb))
                          go_ret
                          exact ⟨rfl, MZ.out.B⟩
                        · have hd3 : decide ((b : Int) ≤ pb) = false := decide_eq_false h3
                          have hil : i < c.length := by rw [HCE.out]; omega
                          have hjl : j < c.length := by rw [HCE.out]; omega
                          have hnb : ¬ betterP s c i j := HNO.out i j (by omega) hjl (.inr ⟨(by have := HH2.out; omega), (by omega)⟩)
                          have ho : liftS s (exchL c i j) ≤ n := Int.not_lt.1 fun h => hnb ((HB.out i j).2 h)
                          have ho0 := HB0.out i j hil hjl
                          have X63 := Lib.hid (show ∀ W, IntsAt W W.heap.size A c → Calls Try.prog 63 #[.slice A c.length cv, .agg #[.int .i64 pa, .int .i64 pb]] W fun e w' => (∃ v, e = .returned v ∧ Ints w' W.heap.size v (exchL c i j)) ∧ Below W.heap.size W w' by
                            rw [hpa, hpb]; exact fun W hI => H63.out i j hil hjl W hI)
                          have X27 := Lib.hid (H27e.out i j hil hjl)
                          generalize liftS s (exchL c i j) = o at X27 ho ho0
                          have hdo0 : decide (0 ≤ o) = true := decide_eq_true ho0
                          have hdo1 : decide (o ≤ n) = true := decide_eq_true ho
                          clear hnb ho ho0 hpa hpb
                          as_aux_lemma =>
                          go_upto_region 12 with (go_at_call 39; refine (H39.out _ _ (by first | exact QA.out | exact QB.out) _).mono ?_; rintro e wx ⟨rfl, hb⟩; have MK : Hid (WMem w wx ⟨Ap, cp, Ab, cb⟩ s w.heap.size (w.heap.size + 1) pa pb A c) := Lib.hid (by first | exact MN.out.next hb | exact MN.out.next (hb0to (drew_below _) hb)); have XK : Hid (PairAt wx pz a b) := Lib.hid (by first | exact XN.out.next hb | exact XN.out.next (hb0to (drew_below _) hb)); have MN := Lib.hid MK.out; have XN := Lib.hid XK.out; obtain ⟨⟨r0, r1, r2, r3⟩, r4, r5⟩ := MN.out.cells; obtain ⟨p0, p1⟩ := XN.out.cells; clear hb MK XK)
                          go_region_held3 (fun w' => w'.cell? ⟨w.heap.size, 0, none⟩ = some (.int .i64 s.wl) ∧ w'.cell? ⟨w.heap.size, 1, none⟩ = some (.int .i64 s.wh) ∧ w'.cell? ⟨w.heap.size, 2, none⟩ = some (.slice Ap s.ps.length cp) ∧ w'.cell? ⟨w.heap.size, 3, none⟩ = some (.slice Ab s.bs.length cb) ∧ w'.cell? ⟨w.heap.size + 1, 0, none⟩ = some (.int .i64 pa) ∧ w'.cell? ⟨w.heap.size + 1, 1, none⟩ = some (.int .i64 pb)) (first | go_keep)
                            (first
                              | (go_at_call 63; refine (X63.out _ (MN.out.next (drew_below _)).i).mono ?_; rintro e wy ⟨⟨v6, rfl, hv6⟩, hb⟩; have MN := Lib.hid (MN.out.next (hb0to (drew_below _) hb)); obtain ⟨A6, k6, rfl, hA6, -, hI6⟩ := hv6.lay; have HA6 := Lib.hid hA6; have I6 := Lib.hid hI6.at_; obtain ⟨⟨r0, r1, r2, r3⟩, r4, r5⟩ := MN.out.cells; clear hb hv6 hA6 hI6)
                              | (go_at_call 27; refine (X27.out A6 k6 HA6.out _ MN.out.H I6.out).mono ?_; rintro e wz ⟨rfl, hb⟩; have MN := Lib.hid (MN.out.next hb); obtain ⟨⟨r0, r1, r2, r3⟩, r4, r5⟩ := MN.out.cells; clear hb))
                          all_goals
                            go_wp2_with (go_at_call 17; refine (works_any _).mono ?_; rintro e wz ⟨rfl, hb⟩; have MZ := Lib.hid (MN.out.next hb); clear hb)
                            go_ret
                            exact ⟨rfl, MZ.out.B⟩
                      · have hd2 : (pa == (a : Int)) = false := by simpa using h2
                        have hil : i < c.length := by rw [HCE.out]; omega
                        have hjl : j < c.length := by rw [HCE.out]; omega
                        have hnb : ¬ betterP s c i j := HNO.out i j (by omega) hjl (.inl (by omega))
                        have ho : liftS s (exchL c i j) ≤ n := Int.not_lt.1 fun h => hnb ((HB.out i j).2 h)
                        have ho0 := HB0.out i j hil hjl
                        have X63 := Lib.hid (show ∀ W, IntsAt W W.heap.size A c → Calls Try.prog 63 #[.slice A c.length cv, .agg #[.int .i64 pa, .int .i64 pb]] W fun e w' => (∃ v, e = .returned v ∧ Ints w' W.heap.size v (exchL c i j)) ∧ Below W.heap.size W w' by
                          rw [hpa, hpb]; exact fun W hI => H63.out i j hil hjl W hI)
                        have X27 := Lib.hid (H27e.out i j hil hjl)
                        generalize liftS s (exchL c i j) = o at X27 ho ho0
                        have hdo0 : decide (0 ≤ o) = true := decide_eq_true ho0
                        have hdo1 : decide (o ≤ n) = true := decide_eq_true ho
                        clear hnb ho ho0 hpa hpb
                        as_aux_lemma =>
                        go_upto_region 12 with (go_at_call 39; refine (H39.out _ _ (by first | exact QA.out | exact QB.out) _).mono ?_; rintro e wx ⟨rfl, hb⟩; have MK : Hid (WMem w wx ⟨Ap, cp, Ab, cb⟩ s w.heap.size (w.heap.size + 1) pa pb A c) := Lib.hid (by first | exact MN.out.next hb | exact MN.out.next (hb0to (drew_below _) hb)); have XK : Hid (PairAt wx pz a b) := Lib.hid (by first | exact XN.out.next hb | exact XN.out.next (hb0to (drew_below _) hb)); have MN := Lib.hid MK.out; have XN := Lib.hid XK.out; obtain ⟨⟨r0, r1, r2, r3⟩, r4, r5⟩ := MN.out.cells; obtain ⟨p0, p1⟩ := XN.out.cells; clear hb MK XK)
                        go_region_held3 (fun w' => w'.cell? ⟨w.heap.size, 0, none⟩ = some (.int .i64 s.wl) ∧ w'.cell? ⟨w.heap.size, 1, none⟩ = some (.int .i64 s.wh) ∧ w'.cell? ⟨w.heap.size, 2, none⟩ = some (.slice Ap s.ps.length cp) ∧ w'.cell? ⟨w.heap.size, 3, none⟩ = some (.slice Ab s.bs.length cb) ∧ w'.cell? ⟨w.heap.size + 1, 0, none⟩ = some (.int .i64 pa) ∧ w'.cell? ⟨w.heap.size + 1, 1, none⟩ = some (.int .i64 pb)) (first | go_keep)
                          (first
                            | (go_at_call 63; refine (X63.out _ (MN.out.next (drew_below _)).i).mono ?_; rintro e wy ⟨⟨v6, rfl, hv6⟩, hb⟩; have MN := Lib.hid (MN.out.next (hb0to (drew_below _) hb)); obtain ⟨A6, k6, rfl, hA6, -, hI6⟩ := hv6.lay; have HA6 := Lib.hid hA6; have I6 := Lib.hid hI6.at_; obtain ⟨⟨r0, r1, r2, r3⟩, r4, r5⟩ := MN.out.cells; clear hb hv6 hA6 hI6)
                            | (go_at_call 27; refine (X27.out A6 k6 HA6.out _ MN.out.H I6.out).mono ?_; rintro e wz ⟨rfl, hb⟩; have MN := Lib.hid (MN.out.next hb); obtain ⟨⟨r0, r1, r2, r3⟩, r4, r5⟩ := MN.out.cells; clear hb))
                        all_goals
                          go_wp2_with (go_at_call 17; refine (works_any _).mono ?_; rintro e wz ⟨rfl, hb⟩; have MZ := Lib.hid (MN.out.next hb); clear hb)
                          go_ret
                          exact ⟨rfl, MZ.out.B⟩
                  · have hdp : decide (pb ≤ pa) = true := decide_eq_true (by omega)
                    as_aux_lemma =>
                    go_wp2_with (first
                      | (go_at_call 39; refine (H39.out _ _ (by first | exact QA.out | exact QB.out) _).mono ?_; rintro e wx ⟨rfl, hb⟩; have MK : Hid (WMem w wx ⟨Ap, cp, Ab, cb⟩ s w.heap.size (w.heap.size + 1) pa pb A c) := Lib.hid (by first | exact MN.out.next hb | exact MN.out.next (hb0to (drew_below _) hb)); have XK : Hid (PairAt wx pz a b) := Lib.hid (by first | exact XN.out.next hb | exact XN.out.next (hb0to (drew_below _) hb)); have MN := Lib.hid MK.out; have XN := Lib.hid XK.out; obtain ⟨⟨r0, r1, r2, r3⟩, r4, r5⟩ := MN.out.cells; obtain ⟨p0, p1⟩ := XN.out.cells; clear hb MK XK)
                      | (go_at_call 17; refine (works_any _).mono ?_; rintro e wz ⟨rfl, hb⟩; have MZ := Lib.hid (MN.out.next hb); clear hb))
                    go_ret
                    exact ⟨rfl, MZ.out.B⟩
          · cases hxx
            have HNO := Lib.hid hno
            clear hno HSW
            have MN := M7
            have XN := X7
            obtain ⟨⟨r0, r1, r2, r3⟩, r4, r5⟩ := MN.out.cells; obtain ⟨p0, p1⟩ := XN.out.cells
            go_upto_region 8 with (go_at_call 20; refine (known_any _ _).mono ?_; rintro e w' ⟨rfl, rfl⟩)
            refine wp_region_extW (by kernel_rfl) (by kernel_rfl) ?_
            repeat (go_big_quiet_step (fail))
            refine wpQuiet_nil ?_
            rintro _ ⟨y, rfl⟩
            have M8 := Lib.hid (M7.out.next (extB_below w7 y))
            have X8 := Lib.hid (X7.out.next (extB_below w7 y))
            generalize extB w7 y = w8 at M8 X8 ⊢
            clear MN XN r0 r1 r2 r3 r4 r5 p0 p1
            have MN := M8
            have XN := X8
            obtain ⟨⟨r0, r1, r2, r3⟩, r4, r5⟩ := MN.out.cells; obtain ⟨p0, p1⟩ := XN.out.cells
            cases hA1 : inR pa 0 ((s.ps.length : Int) - 1)
            · have QA := Lib.hid hA1
              have QB := Lib.hid hA1
              clear hA1
              as_aux_lemma =>
              go_wp2_with (first
                | (go_at_call 39; refine (H39.out _ _ (by first | exact QA.out | exact QB.out) _).mono ?_; rintro e wx ⟨rfl, hb⟩; have MK : Hid (WMem w wx ⟨Ap, cp, Ab, cb⟩ s w.heap.size (w.heap.size + 1) pa pb A c) := Lib.hid (by first | exact MN.out.next hb | exact MN.out.next (hb0to (drew_below _) hb)); have XK : Hid (PairAt wx pz 0 0) := Lib.hid (by first | exact XN.out.next hb | exact XN.out.next (hb0to (drew_below _) hb)); have MN := Lib.hid MK.out; have XN := Lib.hid XK.out; obtain ⟨⟨r0, r1, r2, r3⟩, r4, r5⟩ := MN.out.cells; obtain ⟨p0, p1⟩ := XN.out.cells; clear hb MK XK)
                | (go_at_call 17; refine (works_any _).mono ?_; rintro e wz ⟨rfl, hb⟩; have MZ := Lib.hid (MN.out.next hb); clear hb))
              go_ret
              exact ⟨rfl, MZ.out.B⟩
            · cases hB1 : inR pb 0 ((s.ps.length : Int) - 1)
              · have QA := Lib.hid hA1
                have QB := Lib.hid hB1
                clear hA1 hB1
                as_aux_lemma =>
                go_wp2_with (first
                  | (go_at_call 39; refine (H39.out _ _ (by first | exact QA.out | exact QB.out) _).mono ?_; rintro e wx ⟨rfl, hb⟩; have MK : Hid (WMem w wx ⟨Ap, cp, Ab, cb⟩ s w.heap.size (w.heap.size + 1) pa pb A c) := Lib.hid (by first | exact MN.out.next hb | exact MN.out.next (hb0to (drew_below _) hb)); have XK : Hid (PairAt wx pz 0 0) := Lib.hid (by first | exact XN.out.next hb | exact XN.out.next (hb0to (drew_below _) hb)); have MN := Lib.hid MK.out; have XN := Lib.hid XK.out; obtain ⟨⟨r0, r1, r2, r3⟩, r4, r5⟩ := MN.out.cells; obtain ⟨p0, p1⟩ := XN.out.cells; clear hb MK XK)
                  | (go_at_call 17; refine (works_any _).mono ?_; rintro e wz ⟨rfl, hb⟩; have MZ := Lib.hid (MN.out.next hb); clear hb))
                go_ret
                exact ⟨rfl, MZ.out.B⟩
              · have QA := Lib.hid hA1
                have QB := Lib.hid hB1
                have ha2 := inR_true.1 hA1
                have hb2 := inR_true.1 hB1
                clear hA1 hB1
                by_cases hij : pa < pb
                · have hdp : decide (pb ≤ pa) = false := decide_eq_false (by omega)
                  obtain ⟨i, hpa⟩ : ∃ i : Nat, pa = i := ⟨pa.toNat, by omega⟩
                  obtain ⟨j, hpb⟩ : ∃ j : Nat, pb = j := ⟨pb.toNat, by omega⟩
                  have hil : i < c.length := by rw [HCE.out]; omega
                  have hjl : j < c.length := by rw [HCE.out]; omega
                  have hnb : ¬ betterP s c i j := HNO.out i j (by omega) hjl
                  have ho : liftS s (exchL c i j) ≤ n := Int.not_lt.1 fun h => hnb ((HB.out i j).2 h)
                  have ho0 := HB0.out i j hil hjl
                  have X63 := Lib.hid (show ∀ W, IntsAt W W.heap.size A c → Calls Try.prog 63 #[.slice A c.length cv, .agg #[.int .i64 pa, .int .i64 pb]] W fun e w' => (∃ v, e = .returned v ∧ Ints w' W.heap.size v (exchL c i j)) ∧ Below W.heap.size W w' by
                    rw [hpa, hpb]; exact fun W hI => H63.out i j hil hjl W hI)
                  have X27 := Lib.hid (H27e.out i j hil hjl)
                  generalize liftS s (exchL c i j) = o at X27 ho ho0
                  have hdo0 : decide (0 ≤ o) = true := decide_eq_true ho0
                  have hdo1 : decide (o ≤ n) = true := decide_eq_true ho
                  clear hnb ho ho0 hpa hpb
                  as_aux_lemma =>
                  go_upto_region 12 with (go_at_call 39; refine (H39.out _ _ (by first | exact QA.out | exact QB.out) _).mono ?_; rintro e wx ⟨rfl, hb⟩; have MK : Hid (WMem w wx ⟨Ap, cp, Ab, cb⟩ s w.heap.size (w.heap.size + 1) pa pb A c) := Lib.hid (by first | exact MN.out.next hb | exact MN.out.next (hb0to (drew_below _) hb)); have XK : Hid (PairAt wx pz 0 0) := Lib.hid (by first | exact XN.out.next hb | exact XN.out.next (hb0to (drew_below _) hb)); have MN := Lib.hid MK.out; have XN := Lib.hid XK.out; obtain ⟨⟨r0, r1, r2, r3⟩, r4, r5⟩ := MN.out.cells; obtain ⟨p0, p1⟩ := XN.out.cells; clear hb MK XK)
                  go_region_held3 (fun w' => w'.cell? ⟨w.heap.size, 0, none⟩ = some (.int .i64 s.wl) ∧ w'.cell? ⟨w.heap.size, 1, none⟩ = some (.int .i64 s.wh) ∧ w'.cell? ⟨w.heap.size, 2, none⟩ = some (.slice Ap s.ps.length cp) ∧ w'.cell? ⟨w.heap.size, 3, none⟩ = some (.slice Ab s.bs.length cb) ∧ w'.cell? ⟨w.heap.size + 1, 0, none⟩ = some (.int .i64 pa) ∧ w'.cell? ⟨w.heap.size + 1, 1, none⟩ = some (.int .i64 pb)) (first | go_keep)
                    (first
                      | (go_at_call 63; refine (X63.out _ (MN.out.next (drew_below _)).i).mono ?_; rintro e wy ⟨⟨v6, rfl, hv6⟩, hb⟩; have MN := Lib.hid (MN.out.next (hb0to (drew_below _) hb)); obtain ⟨A6, k6, rfl, hA6, -, hI6⟩ := hv6.lay; have HA6 := Lib.hid hA6; have I6 := Lib.hid hI6.at_; obtain ⟨⟨r0, r1, r2, r3⟩, r4, r5⟩ := MN.out.cells; clear hb hv6 hA6 hI6)
                      | (go_at_call 27; refine (X27.out A6 k6 HA6.out _ MN.out.H I6.out).mono ?_; rintro e wz ⟨rfl, hb⟩; have MN := Lib.hid (MN.out.next hb); obtain ⟨⟨r0, r1, r2, r3⟩, r4, r5⟩ := MN.out.cells; clear hb))
                  all_goals
                    go_wp2_with (go_at_call 17; refine (works_any _).mono ?_; rintro e wz ⟨rfl, hb⟩; have MZ := Lib.hid (MN.out.next hb); clear hb)
                    go_ret
                    exact ⟨rfl, MZ.out.B⟩
                · have hdp : decide (pb ≤ pa) = true := decide_eq_true (by omega)
                  as_aux_lemma =>
                  go_wp2_with (first
                    | (go_at_call 39; refine (H39.out _ _ (by first | exact QA.out | exact QB.out) _).mono ?_; rintro e wx ⟨rfl, hb⟩; have MK : Hid (WMem w wx ⟨Ap, cp, Ab, cb⟩ s w.heap.size (w.heap.size + 1) pa pb A c) := Lib.hid (by first | exact MN.out.next hb | exact MN.out.next (hb0to (drew_below _) hb)); have XK : Hid (PairAt wx pz 0 0) := Lib.hid (by first | exact XN.out.next hb | exact XN.out.next (hb0to (drew_below _) hb)); have MN := Lib.hid MK.out; have XN := Lib.hid XK.out; obtain ⟨⟨r0, r1, r2, r3⟩, r4, r5⟩ := MN.out.cells; obtain ⟨p0, p1⟩ := XN.out.cells; clear hb MK XK)
                    | (go_at_call 17; refine (works_any _).mono ?_; rintro e wz ⟨rfl, hb⟩; have MZ := Lib.hid (MN.out.next hb); clear hb))
                  go_ret
                  exact ⟨rfl, MZ.out.B⟩
end Go.Proofs.Ytgjpllmmpclgaaa
