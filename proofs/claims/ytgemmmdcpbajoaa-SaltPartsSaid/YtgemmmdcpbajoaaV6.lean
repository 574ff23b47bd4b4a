import Derived.Test.YtgemmmdcpbajoaaV5
import Derived.Deep.RegionHeld3
namespace Go.Proofs.Ytgemmmdcpbajoaa
open Go.RowKit

/-- Zeros for a house. -/
abbrev zeroH : Obj := .cells #[.slice none 0 0, .int .i64 0, .slice none 0 0, .slice none 0 0] 26
theorem al_below (W : World) (o : Obj) : Below W.heap.size W (W.alloc o) := (Below.refl _ W).alloc (Nat.le_refl _) o
theorem zero_new {W W' : World} (hb : Below (W.alloc zeroH).heap.size (W.alloc zeroH) W') : W'.heap[W.heap.size]? = some zeroH := (hb.block _ (by simp)).trans (World.alloc_heap_new W _)
theorem zero_newd {W W' : World} (hb : Below (W.alloc zeroH).drew.heap.size (W.alloc zeroH).drew W') : W'.heap[W.heap.size]? = some zeroH := (hb.block _ (show W.heap.size < (W.alloc zeroH).heap.size by simp)).trans (World.alloc_heap_new W _)
theorem zcells {W : World} {b : Nat} (h : W.heap[b]? = some zeroH) : (W.cell? ⟨b, 0, none⟩ = some (.slice none 0 0) ∧ W.cell? ⟨b, 1, none⟩ = some (.int .i64 0) ∧ W.cell? ⟨b, 2, none⟩ = some (.slice none 0 0) ∧ W.cell? ⟨b, 3, none⟩ = some (.slice none 0 0)) ∧ ∀ o, W.frozen? ⟨b, o, none⟩ = false := by
  simp [World.cell?, World.frozen?, h]
/-- A house is written over zeros. -/
abbrev put4 (W : World) (b : Nat) (x y z u : Value) : World := (((W.setCell ⟨b, 0, none⟩ x).setCell ⟨b, 1, none⟩ y).setCell ⟨b, 2, none⟩ z).setCell ⟨b, 3, none⟩ u
theorem put4_box {W : World} {b : Nat} (h : W.heap[b]? = some zeroH) (x y z u : Value) : (put4 W b x y z u).heap[b]? = some (.cells #[x, y, z, u] 26 (0, 0)) :=
  heap_set u (o := 3) (heap_set z (o := 2) (heap_set y (o := 1) (heap_set x (o := 0) h)))
theorem put4_below {w W : World} {b : Nat} (h : Below w.heap.size w W) (hb : w.heap.size ≤ b) (x y z u : Value) : Below w.heap.size w (put4 W b x y z u) :=
  set_any (s := b) (Q := fun W => Below w.heap.size w W) (fun _W o u hh => hh.setCell (p := ⟨b, o, none⟩) hb u) h _ _ _ _
theorem put4_ints {W : World} {b base : Nat} {v : Value} {l : List Int} (h : Ints W base v l) (hb : b < base) (x y z u : Value) : Ints (put4 W b x y z u) base v l :=
  set_any (s := b) (Q := fun W => Ints W base v l) (fun _W _o _u hh => hh.set_other hb) h _ _ _ _
theorem put4_pairs {W : World} {b base : Nat} {t : TypeId} {v : Value} {l : List (Int × Int)} (h : OwnsP W t base v l) (hb : b < base) (x y z u : Value) : OwnsP (put4 W b x y z u) t base v l :=
  set_any (s := b) (Q := fun W => OwnsP W t base v l) (fun _W _o _u hh => hh.set_other hb) h _ _ _ _
theorem put4_copied {W : World} {b n0 n1 n2 : Nat} {L : HL} {h : House} (H : Copied W n0 n1 n2 L h) (hb : b < n0) (x y z u : Value) : Copied (put4 W b x y z u) n0 n1 n2 L h :=
  ⟨put4_pairs H.k hb _ _ _ _, H.k1, put4_pairs H.p (by have := H.n01; omega) _ _ _ _, H.p1, put4_ints H.b (by have := H.n01; have := H.n12; omega) _ _ _ _, H.n01, H.n12⟩
/-- The box of some parts, a packing and a barrel. -/
def ABox (W : World) (b : Nat) (A1 : Option Addr) (c1 : Nat) (l1 : List Int) (A2 : Option Addr) (c2 : Nat) (l2 : List Int) (n : Int) : Prop := W.heap[b]? = some (.cells #[.slice A1 l1.length c1, .slice A2 l2.length c2, .int .i64 n] 43 (0, 0))
theorem ABox.cells {W : World} {b c1 c2 : Nat} {A1 A2 : Option Addr} {l1 l2 : List Int} {n : Int} (h : ABox W b A1 c1 l1 A2 c2 l2 n) : W.cell? ⟨b, 0, none⟩ = some (.slice A1 l1.length c1) ∧ W.cell? ⟨b, 1, none⟩ = some (.slice A2 l2.length c2) ∧ W.cell? ⟨b, 2, none⟩ = some (.int .i64 n) := by
  simp [World.cell?, show W.heap[b]? = _ from h]
theorem ABox.lt {W : World} {b c1 c2 : Nat} {A1 A2 : Option Addr} {l1 l2 : List Int} {n : Int} (h : ABox W b A1 c1 l1 A2 c2 l2 n) : b < W.heap.size := heap_lt h
/-- The memory of the law of parts ahead of the copies. -/
structure PIn (W : World) (s : Nat) (L : HL) (h : House) (A1 : Option Addr) (c1 : Nat) (l1 : List Int) (A2 : Option Addr) (c2 : Nat) (l2 : List Int) (n : Int) : Prop where
  H : HouseAt W W.heap.size L h
  x : HBox W s L h
  a : ABox W (s + 1) A1 c1 l1 A2 c2 l2 n
  i1 : IntsAt W W.heap.size A1 l1
  i2 : IntsAt W W.heap.size A2 l2
theorem PIn.next {W W' : World} {s c1 c2 : Nat} {L : HL} {h : House} {A1 A2 : Option Addr} {l1 l2 : List Int} {n : Int} (M : PIn W s L h A1 c1 l1 A2 c2 l2 n) (hb : Below W.heap.size W W') : PIn W' s L h A1 c1 l1 A2 c2 l2 n :=
  ⟨M.H.below hb, M.x.of (hb.block _ M.x.lt), (hb.block _ M.a.lt).trans M.a, ints_later M.i1 hb, ints_later M.i2 hb⟩
theorem PIn.c {W : World} {s c1 c2 : Nat} {L : HL} {h : House} {A1 A2 : Option Addr} {l1 l2 : List Int} {n : Int} (M : PIn W s L h A1 c1 l1 A2 c2 l2 n) : (W.cell? ⟨s, 0, none⟩ = some (.slice L.Ak h.ks.length L.ck) ∧ W.cell? ⟨s, 1, none⟩ = some (.int .i64 h.fl) ∧ W.cell? ⟨s, 2, none⟩ = some (.slice L.Ap h.ps.length L.cp) ∧ W.cell? ⟨s, 3, none⟩ = some (.slice L.Ab h.bs.length L.cb)) ∧
    (W.cell? ⟨s + 1, 0, none⟩ = some (.slice A1 l1.length c1) ∧ W.cell? ⟨s + 1, 1, none⟩ = some (.slice A2 l2.length c2) ∧ W.cell? ⟨s + 1, 2, none⟩ = some (.int .i64 n)) := ⟨M.x.cells, M.a.cells⟩
theorem PIn.new (w : World) (L : HL) (h : House) (A1 : Option Addr) (c1 : Nat) (l1 : List Int) (A2 : Option Addr) (c2 : Nat) (l2 : List Int) (n : Int) (hH : HouseAt w w.heap.size L h) (h1 : IntsAt w w.heap.size A1 l1) (h2 : IntsAt w w.heap.size A2 l2) :
    PIn ((w.alloc (.cells #[.slice L.Ak h.ks.length L.ck, .int .i64 h.fl, .slice L.Ap h.ps.length L.cp, .slice L.Ab h.bs.length L.cb] 26)).alloc (.cells #[.slice A1 l1.length c1, .slice A2 l2.length c2, .int .i64 n] 43)) w.heap.size L h A1 c1 l1 A2 c2 l2 n ∧
    Below w.heap.size w ((w.alloc (.cells #[.slice L.Ak h.ks.length L.ck, .int .i64 h.fl, .slice L.Ap h.ps.length L.cp, .slice L.Ab h.bs.length L.cb] 26)).alloc (.cells #[.slice A1 l1.length c1, .slice A2 l2.length c2, .int .i64 n] 43)) := by
  have hb := ((Below.refl _ w).alloc (Nat.le_refl _) (.cells #[.slice L.Ak h.ks.length L.ck, .int .i64 h.fl, .slice L.Ap h.ps.length L.cp, .slice L.Ab h.bs.length L.cb] 26)).alloc (by simp) (.cells #[.slice A1 l1.length c1, .slice A2 l2.length c2, .int .i64 n] 43)
  have ha := World.alloc_heap_new (w.alloc (.cells #[.slice L.Ak h.ks.length L.ck, .int .i64 h.fl, .slice L.Ap h.ps.length L.cp, .slice L.Ab h.bs.length L.cb] 26)) (.cells #[.slice A1 l1.length c1, .slice A2 l2.length c2, .int .i64 n] 43)
  rw [World.size_alloc] at ha
  exact ⟨⟨hH.below hb, (HBox.new w L h).of (Below.heap_alloc _ _ _ (by simp)), ha, ints_later h1 hb, ints_later h2 hb⟩, hb⟩
/-- The memory behind the copies. -/
structure PCut (W1 : World) (s : Nat) (L : HL) (h : House) (A1 : Option Addr) (c1 : Nat) (l1 : List Int) (A2 : Option Addr) (c2 : Nat) (l2 : List Int) (n : Int) (bo : Nat) (Lo : HL) (A6 : Option Addr) (A7 : Option Addr) (wx : World) : Prop where
  y : HBox wx bo Lo h
  O : HouseAt wx wx.heap.size Lo h
  i6 : IntsAt wx wx.heap.size A6 l1
  i7 : IntsAt wx wx.heap.size A7 l2
  hb : Below W1.heap.size W1 wx
theorem PCut.next {W1 W W' : World} {s c1 c2 bo : Nat} {L Lo : HL} {h : House} {A1 A2 A6 A7 : Option Addr} {l1 l2 : List Int} {n : Int} (M : PCut W1 s L h A1 c1 l1 A2 c2 l2 n bo Lo A6 A7 W) (hb : Below W.heap.size W W') : PCut W1 s L h A1 c1 l1 A2 c2 l2 n bo Lo A6 A7 W' :=
  ⟨M.y.of (hb.block _ M.y.lt), M.O.below hb, ints_later M.i6 hb, ints_later M.i7 hb, hb0to M.hb hb⟩
theorem ints_lay_at {W : World} {base : Nat} {A : Option Addr} {n c : Nat} {l : List Int} (h : Ints W base (.slice A n c) l) : IntsAt W W.heap.size A l := (ints_at h).1.at_
set_option maxRecDepth 100000 in
set_option maxHeartbeats 8000000 in
theorem parts_law (L : HL) (h : House) (hok : HLOK L h) (A1 : Option Addr) (c1 : Nat) (l1 : List Int) (hA1 : A1 = none → c1 = 0 ∧ l1 = []) (A2 : Option Addr) (c2 : Nat) (l2 : List Int) (hA2 : A2 = none → c2 = 0 ∧ l2 = []) (n : Int) (w : World) (hH : HouseAt w w.heap.size L h) (h1 : IntsAt w w.heap.size A1 l1) (h2 : IntsAt w w.heap.size A2 l2) :
    Calls Try.prog 5 #[L.enc h, .agg #[.slice A1 l1.length c1, .slice A2 l2.length c2, .int .i64 n]] w fun e w' => e = .returned (.bool true) ∧ Below w.heap.size w w' := by
  obtain ⟨hP, hbw⟩ := PIn.new w L h A1 c1 l1 A2 c2 l2 n hH h1 h2
  obtain ⟨W0, hW0⟩ : ∃ W0, (w.alloc (.cells #[.slice L.Ak h.ks.length L.ck, .int .i64 h.fl, .slice L.Ap h.ps.length L.cp, .slice L.Ab h.bs.length L.cb] 26)).alloc (.cells #[.slice A1 l1.length c1, .slice A2 l2.length c2, .int .i64 n] 43) = W0 := ⟨_, rfl⟩
  rw [hW0] at hP hbw
  have HU := Lib.hid (huge_any L h W0)
  have HBW := Lib.hid hbw
  have HW0 := Lib.hid hW0
  have HP := Lib.hid hP
  have p0 := hP.c
  have HO := Lib.hid hok
  have HA1 := Lib.hid hA1
  have HA2 := Lib.hid hA2
  clear hbw hW0 hH hok hA1 hA2 h1 h2 hP
  cases hh : hugeB h
  · have hn := huge_no hh
    have HN := Lib.hid (show h.ks.length ≤ 1000 ∧ h.ps.length ≤ 1000 ∧ h.bs.length ≤ 1000 by omega)
    have HH' := Lib.hid hh
    clear hh hn
    by_cases k1 : l1.length ≤ 40
    · by_cases k2 : l2.length ≤ 40
      · have k1' : l1.length ≤ 1000 := by omega
        have k2' : l2.length ≤ 1000 := by omega
        obtain ⟨Ak, ck, Ap, cp, Ab, cb⟩ := L
        go_enter Try.func5, Try.ntmps5
        go_upto_region 1 with (fail)
        have e := HW0.out
        rw [e]
        clear e
        go_upto_region 3 with (go_at_call 27; refine (HU.out).mono ?_; rintro e w1 ⟨rfl, hb1⟩; rw [HH'.out]; have HB1 := Lib.hid hb1; have P1 := Lib.hid (HP.out.next hb1); have p1 := P1.out.c; clear hb1)
        clear p0
        obtain ⟨⟨q0, q1, q2, q3⟩, q4, q5, q6⟩ := p1
        have sz1 : w.heap.size < w1.heap.size := P1.out.x.lt
        have sz2 : w.heap.size + 1 < w1.heap.size := P1.out.a.lt
        have n1a : ¬ w.heap.size = w1.heap.size := by omega
        have n1b : ¬ w.heap.size + 1 = w1.heap.size := by omega
        have n1c : w1.heap.size ≠ w.heap.size := by omega
        have n1d : w1.heap.size ≠ w.heap.size + 1 := by omega
        go_cut [5, 6, 7] (fun s5 s6 s7 wx => ∃ bo Bk dk Bp dp Bb db A6 c6 A7 c7, s5 = .pointer (some ⟨bo, 0, none⟩) ∧ s6 = .slice A6 l1.length c6 ∧ s7 = .slice A7 l2.length c7 ∧ PCut w1 w.heap.size ⟨Ak, ck, Ap, cp, Ab, cb⟩ h A1 c1 l1 A2 c2 l2 n bo ⟨Bk, dk, Bp, dp, Bb, db⟩ A6 A7 wx)
        case first =>
          go_region_held3 (fun w' => w'.cell? ⟨w.heap.size, 0, none⟩ = some (.slice Ak h.ks.length ck) ∧ w'.cell? ⟨w.heap.size, 1, none⟩ = some (.int .i64 h.fl) ∧ w'.cell? ⟨w.heap.size, 2, none⟩ = some (.slice Ap h.ps.length cp) ∧ w'.cell? ⟨w.heap.size, 3, none⟩ = some (.slice Ab h.bs.length cb) ∧ w'.cell? ⟨w.heap.size + 1, 0, none⟩ = some (.slice A1 l1.length c1) ∧ w'.cell? ⟨w.heap.size + 1, 1, none⟩ = some (.slice A2 l2.length c2)) (refine ⟨?_, ?_, ?_, ?_, ?_, ?_⟩ <;> (simp [*, World.cell?_alloc_some, World.cell?_setCell_far]; done))
            (first
              | (go_at_call 26; refine (copied_any l2 k2' A2 c2 HA2.out _ (ints_later P1.out.i2 (by first | exact B3.out | exact B3.out.drew | exact B3.out.alloc B3.out.size _ | exact (B3.out.alloc B3.out.size _).drew))).mono ?_; rintro e w4 ⟨⟨v7, rfl, hI⟩, hb4⟩; obtain ⟨A7, c7, rfl, -, -, -⟩ := hI.lay; have hk : Below w3.heap.size w3 w4 := (by first | exact hb4 | exact hb0to (drew_below w3) hb4 | exact hb0to (al_below w3 _) hb4 | exact hb0to (al_below w3 _).drew hb4); obtain ⟨⟨u0, u1, u2, u3⟩, u4, u5, u6⟩ := (P1.out.next (hb0to B3.out hk)).c; have B4 := Lib.hid (hb0to B3.out hk); have C4 := Lib.hid (C3.out.below hk); have O4 := Lib.hid (O3.out.below_ hk (Nat.le_refl _)); have P7 := Lib.hid hI; have HK4 := Lib.hid hk; (first | (have zA4 := (hk.block _ (heap_lt zA3)).trans zA3; obtain ⟨zA5, zA6⟩ := zcells zA4) | (have zB4 := (hk.block _ (heap_lt zB3)).trans zB3; obtain ⟨zB5, zB6⟩ := zcells zB4) | (have zC4 := zero_newd hb4; obtain ⟨zC5, zC6⟩ := zcells zC4) | (have zC4 := zero_new hb4; obtain ⟨zC5, zC6⟩ := zcells zC4) | skip); clear hb4 hI hk)
              | (go_at_call 26; refine (copied_any l1 k1' A1 c1 HA1.out _ (ints_later P1.out.i1 (by first | exact B2.out | exact B2.out.drew | exact B2.out.alloc B2.out.size _ | exact (B2.out.alloc B2.out.size _).drew))).mono ?_; rintro e w3 ⟨⟨v6, rfl, hI⟩, hb3⟩; obtain ⟨A6, c6, rfl, -, -, -⟩ := hI.lay; have hk : Below w2.heap.size w2 w3 := (by first | exact hb3 | exact hb0to (drew_below w2) hb3 | exact hb0to (al_below w2 _) hb3 | exact hb0to (al_below w2 _).drew hb3); obtain ⟨⟨t0, t1, t2, t3⟩, t4, t5, t6⟩ := (P1.out.next (hb0to B2.out hk)).c; have B3 := Lib.hid (hb0to B2.out hk); have C3 := Lib.hid (C2.out.below hk); have n3a : ¬ w.heap.size = w3.heap.size := (by have := B3.out.size; omega); have n3b : ¬ w.heap.size + 1 = w3.heap.size := (by have := B3.out.size; omega); have n3c : w3.heap.size ≠ w.heap.size := (by have := B3.out.size; omega); have n3d : w3.heap.size ≠ w.heap.size + 1 := (by have := B3.out.size; omega); have O3 := Lib.hid hI; have HK3 := Lib.hid hk; (first | (have zA3 := (hk.block _ (heap_lt zA2)).trans zA2) | (have zB3 := zero_newd hb3) | (have zB3 := zero_new hb3) | skip); clear hb3 hI hk)
              | (go_at_call 17; refine (copy_any ⟨Ak, ck, Ap, cp, Ab, cb⟩ h HN.out HO.out _ (P1.out.H.below (by first | exact drew_below w1 | exact Below.refl _ _ | exact al_below w1 _ | exact (al_below w1 _).drew))).mono ?_; rintro e w2 ⟨⟨⟨Bk, dk, Bp, dp, Bb, db⟩, n1, n2, rfl, hC⟩, hb2⟩; have hk : Below w1.heap.size w1 w2 := (by first | exact hb2 | exact hb0to (drew_below w1) hb2 | exact hb0to (al_below w1 _) hb2 | exact hb0to (al_below w1 _).drew hb2); obtain ⟨⟨r0, r1, r2, r3⟩, r4, r5, r6⟩ := (P1.out.next hk).c; have B2 := Lib.hid hk; have C2 := Lib.hid hC; have n2a : ¬ w.heap.size = w2.heap.size := (by have := hk.size; omega); have n2b : ¬ w.heap.size + 1 = w2.heap.size := (by have := hk.size; omega); have n2c : w2.heap.size ≠ w.heap.size := (by have := hk.size; omega); have n2d : w2.heap.size ≠ w.heap.size + 1 := (by have := hk.size; omega); (first | (have zA2 := zero_newd hb2) | (have zA2 := zero_new hb2) | skip); clear hb2 hC hk))
          all_goals
            go_wp2_with (fail)
            go_meet
            first
              | exact ⟨w3.heap.size, Bk, dk, Bp, dp, Bb, db, A6, c6, A7, c7, rfl, rfl, rfl, ⟨put4_box zC4 _ _ _ _, C3.out.house.below (put4_below HK4.out (Nat.le_refl _) _ _ _ _), ints_later (ints_lay_at O3.out) (put4_below HK4.out (Nat.le_refl _) _ _ _ _), ints_lay_at (put4_ints P7.out (show w3.heap.size < (w3.alloc zeroH).heap.size by simp) _ _ _ _), put4_below B4.out B3.out.size _ _ _ _⟩⟩
              | exact ⟨w2.heap.size, Bk, dk, Bp, dp, Bb, db, A6, c6, A7, c7, rfl, rfl, rfl, ⟨put4_box zB4 _ _ _ _, C2.out.house.below (put4_below (hb0to HK3.out HK4.out) (Nat.le_refl _) _ _ _ _), ints_lay_at (put4_ints O4.out (show w2.heap.size < (w2.alloc zeroH).heap.size by simp) _ _ _ _), ints_lay_at (put4_ints P7.out (heap_lt zB3) _ _ _ _), put4_below B4.out B2.out.size _ _ _ _⟩⟩
              | exact ⟨w1.heap.size, Bk, dk, Bp, dp, Bb, db, A6, c6, A7, c7, rfl, rfl, rfl, ⟨put4_box zA4 _ _ _ _, (put4_copied C4.out (show w1.heap.size < (w1.alloc zeroH).heap.size by simp) _ _ _ _).house, ints_lay_at (put4_ints O4.out (heap_lt zA2) _ _ _ _), ints_lay_at (put4_ints P7.out (heap_lt zA3) _ _ _ _), put4_below B4.out (Nat.le_refl _) _ _ _ _⟩⟩
              | exact ⟨w4.heap.size, Bk, dk, Bp, dp, Bb, db, A6, c6, A7, c7, rfl, rfl, rfl, ⟨HBox.new w4 ⟨Bk, dk, Bp, dp, Bb, db⟩ h, C4.out.house.below (al_below w4 _), ints_later (ints_lay_at O4.out) (al_below w4 _), ints_later (ints_lay_at P7.out) (al_below w4 _), hb0to B4.out (al_below w4 _)⟩⟩
        case rest =>
          obtain ⟨bo, Bk, dk, Bp, dp, Bb, db, A6, c6, A7, c7, rfl, rfl, rfl, hM3⟩ := hcut
          have P3 := Lib.hid (P1.out.next hM3.hb)
          have M3 := Lib.hid hM3
          clear hM3 q0 q1 q2 q3 q4 q5 q6
          obtain ⟨⟨q0, q1, q2, q3⟩, q4, q5, q6⟩ := P3.out.c
          obtain ⟨y0, y1, y2, y3⟩ := M3.out.y.cells
          have e0 := extB_cell q0
          have e1 := extB_cell q1
          have e2 := extB_cell q2
          have e3 := extB_cell q3
          have f0 := extB_cell y0
          have f1 := extB_cell y1
          have f2 := extB_cell y2
          have f3 := extB_cell y3
          go_wp2
          refine wp_region_extW (by kernel_rfl) (by kernel_rfl) ?_
          repeat (go_big_quiet_step (first
            | (go_at_call 28; exact ext_call (check_any ⟨Bk, dk, Bp, dp, Bb, db⟩ h HN.out _ (M3.out.O.below (extB_below _ _))))
            | (go_at_call 29; exact ext_call (rcheck_any ⟨Ak, ck, Ap, cp, Ab, cb⟩ h HN.out _ (P3.out.H.below (extB_below _ _))))))
          refine wpQuiet_nil ?_
          rintro _ ⟨x1, rfl⟩
          have hb5 := extB_below wc x1
          obtain ⟨W5, hW5⟩ : ∃ W5, extB wc x1 = W5 := ⟨_, rfl⟩
          rw [hW5] at hb5 ⊢
          have P5 := Lib.hid (P3.out.next hb5)
          have M5 := Lib.hid (M3.out.next hb5)
          clear e0 e1 e2 e3 f0 f1 f2 f3 q0 q1 q2 q3 q4 q5 q6 y0 y1 y2 y3 hb5 hW5
          have pc := P5.out.c
          have mc := M5.out.y.cells
          go_wp2_with (first
            | (go_at_call 25; refine (salt_any ⟨Bk, dk, Bp, dp, Bb, db⟩ h HN.out l1 k1' A6 c6 W5 M5.out.O M5.out.i6).mono ?_; rintro e w6 ⟨rfl, hb⟩; have P6 := Lib.hid (P5.out.next hb); have M6 := Lib.hid (M5.out.next hb); have pc6 := P6.out.c; have mc6 := M6.out.y.cells; clear hb)
            | (go_at_call 30; refine (rSalt_any ⟨Ak, ck, Ap, cp, Ab, cb⟩ h HN.out l1 k1' A1 c1 w6 P6.out.H P6.out.i1).mono ?_; rintro e w7 ⟨rfl, hb⟩; have P7 := Lib.hid (P6.out.next hb); have M7 := Lib.hid (M6.out.next hb); have pc7 := P7.out.c; have mc7 := M7.out.y.cells; clear hb)
            | (go_at_call 31; refine (Good_any ⟨Bk, dk, Bp, dp, Bb, db⟩ h HN.out l2 k2' A7 c7 w7 M7.out.O M7.out.i7).mono ?_; rintro e w8 ⟨rfl, hb⟩; have P8 := Lib.hid (P7.out.next hb); have M8 := Lib.hid (M7.out.next hb); have pc8 := P8.out.c; have mc8 := M8.out.y.cells; clear hb)
            | (go_at_call 32; refine (rGood_any ⟨Ak, ck, Ap, cp, Ab, cb⟩ h HN.out l2 k2' A2 c2 w8 P8.out.H P8.out.i2).mono ?_; rintro e w9 ⟨rfl, hb⟩; have P9 := Lib.hid (P8.out.next hb); have M9 := Lib.hid (M8.out.next hb); have pc9 := P9.out.c; have mc9 := M9.out.y.cells; clear hb)
            | (go_at_call 33; refine (barrel_any ⟨Bk, dk, Bp, dp, Bb, db⟩ h HN.out l2 k2' n A7 c7 w9 M9.out.O M9.out.i7).mono ?_; rintro e w10 ⟨rfl, hb⟩; have P10 := Lib.hid (P9.out.next hb); have M10 := Lib.hid (M9.out.next hb); have pc10 := P10.out.c; have mc10 := M10.out.y.cells; clear hb)
            | (go_at_call 34; refine (rBarrel_any ⟨Ak, ck, Ap, cp, Ab, cb⟩ h HN.out l2 k2' n A2 c2 w10 P10.out.H P10.out.i2).mono ?_; rintro e w11 ⟨rfl, hb⟩; have P11 := Lib.hid (P10.out.next hb); have M11 := Lib.hid (M10.out.next hb); have pc11 := P11.out.c; have mc11 := M11.out.y.cells; clear hb)
            | (go_at_call 22; refine (same_is ⟨Bk, dk, Bp, dp, Bb, db⟩ ⟨Ak, ck, Ap, cp, Ab, cb⟩ h HN.out w11 M11.out.O P11.out.H).mono ?_; rintro e w12 ⟨rfl, hb⟩; have P12 := Lib.hid (P11.out.next hb); have M12 := Lib.hid (M11.out.next hb); have pc12 := P12.out.c; have mc12 := M12.out.y.cells; clear hb)
            | (go_at_call 35; (with_reducible refine (sameInts_is A7 A2 c7 c2 l2 k2' w13 M13.out.i7 P13.out.i2).mono ?_); rintro e w14 ⟨rfl, hb⟩; have M14 := Lib.hid (M13.out.next hb); clear hb)
            | (go_at_call 35; (with_reducible refine (sameInts_is A6 A1 c6 c1 l1 k1' w12 M12.out.i6 P12.out.i1).mono ?_); rintro e w13 ⟨rfl, hb⟩; have P13 := Lib.hid (P12.out.next hb); have M13 := Lib.hid (M12.out.next hb); have pc13 := P13.out.c; clear hb)
            | (go_at_call 16; refine (works_any w14).mono ?_; rintro e w15 ⟨rfl, hb⟩; have M15 := Lib.hid (M14.out.next hb); clear hb))
          go_ret
          exact ⟨rfl, hb0to HBW.out (hb0to HB1.out M15.out.hb)⟩
      · have k2' : 40 < l2.length := by omega
        clear k2
        obtain ⟨Ak, ck, Ap, cp, Ab, cb⟩ := L
        go_enter Try.func5, Try.ntmps5
        go_upto_region 1 with (fail)
        have e := HW0.out
        rw [e]
        clear e
        go_wp2_with (first
          | (go_at_call 27; refine (HU.out).mono ?_; rintro e w1 ⟨rfl, hb1⟩; rw [HH'.out]; have HB1 := Lib.hid hb1; have p1 := (HP.out.next hb1).c; clear hb1)
          | (go_at_call 16; refine (works_any w1).mono ?_; rintro e w2 ⟨rfl, hb2⟩; have B2 := Lib.hid (hb0to HB1.out hb2); clear hb2))
        go_ret
        exact ⟨rfl, hb0to HBW.out B2.out⟩
    · have k1' : 40 < l1.length := by omega
      clear k1
      obtain ⟨Ak, ck, Ap, cp, Ab, cb⟩ := L
      go_enter Try.func5, Try.ntmps5
      go_upto_region 1 with (fail)
      have e := HW0.out
      rw [e]
      clear e
      go_wp2_with (first
        | (go_at_call 27; refine (HU.out).mono ?_; rintro e w1 ⟨rfl, hb1⟩; rw [HH'.out]; have HB1 := Lib.hid hb1; have p1 := (HP.out.next hb1).c; clear hb1)
        | (go_at_call 16; refine (works_any w1).mono ?_; rintro e w2 ⟨rfl, hb2⟩; have B2 := Lib.hid (hb0to HB1.out hb2); clear hb2))
      go_ret
      exact ⟨rfl, hb0to HBW.out B2.out⟩
  · have HH' := Lib.hid hh
    clear hh
    obtain ⟨Ak, ck, Ap, cp, Ab, cb⟩ := L
    go_enter Try.func5, Try.ntmps5
    go_upto_region 1 with (fail)
    have e := HW0.out
    rw [e]
    clear e
    go_wp2_with (first
      | (go_at_call 27; refine (HU.out).mono ?_; rintro e w1 ⟨rfl, hb1⟩; rw [HH'.out]; have HB1 := Lib.hid hb1; clear hb1)
      | (go_at_call 16; refine (works_any w1).mono ?_; rintro e w2 ⟨rfl, hb2⟩; have B2 := Lib.hid (hb0to HB1.out hb2); clear hb2))
    go_ret
    exact ⟨rfl, hb0to HBW.out B2.out⟩
end Go.Proofs.Ytgemmmdcpbajoaa
