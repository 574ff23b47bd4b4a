import Derived.Test.YtgjpllmmpclgaaaF4
import Derived.Test.YtgjpllmmpclgaaaG6
namespace Go.Proofs.Ytgjpllmmpclgaaa
open Go.RowKit

/-! LiftsMore. -/
/-- What LiftsMore keeps. -/
structure MIn (W : World) (b : Nat) (L : SL) (s : Sea) (b0 b1 k lo hi : Int) : Prop where
  H : SeaAt W W.heap.size L s
  x : SBox W b L s
  y : W.heap[b + 1]? = some (.cells #[.int .i64 b0, .int .i64 b1] 55 (0, 0))
  z : W.heap[b + 1 + 1]? = some (.cells #[.int .i64 k, .int .i64 lo, .int .i64 hi] 57 (0, 0))
theorem MIn.next {W W' : World} {b : Nat} {L : SL} {s : Sea} {b0 b1 k lo hi : Int} (h : MIn W b L s b0 b1 k lo hi) (hb : Below W.heap.size W W') : MIn W' b L s b0 b1 k lo hi :=
  ⟨h.H.below hb, h.x.of (hb.block _ h.x.lt), (hb.block _ (heap_lt h.y)).trans h.y, (hb.block _ (heap_lt h.z)).trans h.z⟩
theorem MIn.c {W : World} {b : Nat} {L : SL} {s : Sea} {b0 b1 k lo hi : Int} (h : MIn W b L s b0 b1 k lo hi) :
    W.cell? ⟨b, 0, none⟩ = some (.int .i64 s.wl) ∧ W.cell? ⟨b, 1, none⟩ = some (.int .i64 s.wh) ∧ W.cell? ⟨b, 2, none⟩ = some (.slice L.Ap s.ps.length L.cp) ∧ W.cell? ⟨b, 3, none⟩ = some (.slice L.Ab s.bs.length L.cb) ∧ W.cell? ⟨b + 1, 0, none⟩ = some (.int .i64 b0) ∧ W.cell? ⟨b + 1, 1, none⟩ = some (.int .i64 b1) ∧
    W.cell? ⟨b + 1 + 1, 0, none⟩ = some (.int .i64 k) ∧ W.cell? ⟨b + 1 + 1, 1, none⟩ = some (.int .i64 lo) ∧ W.cell? ⟨b + 1 + 1, 2, none⟩ = some (.int .i64 hi) := by
  obtain ⟨h0, h1, h2, h3⟩ := h.x.cells
  exact ⟨h0, h1, h2, h3, cell_of_heap (o := 0) h.y rfl, cell_of_heap (o := 1) h.y rfl, cell_of_heap (o := 0) h.z rfl, cell_of_heap (o := 1) h.z rfl, cell_of_heap (o := 2) h.z rfl⟩
/-- The boats of a boxed sea grow. -/
theorem OBox.grow {W W' : World} {n0 z : Nat} {L : SL} {s : Sea} (h : OBox W n0 z L s) {A : Option Addr} {c : Nat} {bs : List (Int × Int)} (hg : W.grownBy W' (Value.slice L.Ab s.bs.length L.cb).ownBlock) (ho : OwnsP W' 55 n0 (.slice A bs.length c) bs) :
    SBox W' z L s ∧ OBox (W'.setCell ⟨z, 3, none⟩ (.slice A bs.length c)) n0 z ⟨L.Ap, L.cp, A, c⟩ { s with bs := bs } := by
  have hx : SBox W' z L s := h.x.of (hg.block _ h.x.lt fun e => by
    rcases h.C.b.2 with ⟨e2, _⟩ | ⟨g, cap, cur, e2, _, hgg, _⟩
    · rw [e2] at e; simp [Value.ownBlock] at e
    · rw [e2] at e
      simp only [Value.ownBlock, Option.some.injEq] at e
      have hz := h.x
      unfold SBox at hz
      rw [e, hgg] at hz
      cases hz)
  have hp := owns_keepV h.C.p h.C.b hg (by decide)
  refine ⟨hx, ⟨owns_set hp (by decide) hx, owns_set ho (by decide) hx⟩, ?_⟩
  have := heap_set (.slice A bs.length c) (o := 3) hx
  exact this
theorem SBox.put {W : World} {b : Nat} {L L' : SL} {s s' : Sea} (h : SBox W b L s) : SBox ((((W.setCell ⟨b, 0, none⟩ (.int .i64 s'.wl)).setCell ⟨b, 1, none⟩ (.int .i64 s'.wh)).setCell ⟨b, 2, none⟩ (.slice L'.Ap s'.ps.length L'.cp)).setCell ⟨b, 3, none⟩ (.slice L'.Ab s'.bs.length L'.cb)) b L' s' :=
  heap_set _ (o := 3) (heap_set _ (o := 2) (heap_set _ (o := 1) (heap_set _ (o := 0) h)))
theorem SBox.owns4 {W : World} {base e size n b : Nat} {v : Value} {xs : List Value} {L : SL} {s : Sea} (hb : SBox W b L s) (h : W.ownsRow base e size v n xs) (he : e ≠ 27) (x y z u : Value) : ((((W.setCell ⟨b, 0, none⟩ x).setCell ⟨b, 1, none⟩ y).setCell ⟨b, 2, none⟩ z).setCell ⟨b, 3, none⟩ u).ownsRow base e size v n xs :=
  owns_set (owns_set (owns_set (owns_set h he hb) he (heap_set x (o := 0) hb)) he (heap_set y (o := 1) (heap_set x (o := 0) hb))) he (heap_set z (o := 2) (heap_set y (o := 1) (heap_set x (o := 0) hb)))
/-- The weight of a boxed sea is written anew. -/
theorem OBox.setW {W : World} {n0 z : Nat} {L : SL} {s : Sea} (h : OBox W n0 z L s) (a c : Int) : OBox ((W.setCell ⟨z, 0, none⟩ (.int .i64 a)).setCell ⟨z, 1, none⟩ (.int .i64 c)) n0 z L { s with wl := a, wh := c } :=
  ⟨⟨owns_set (owns_set h.C.p (by decide) h.x) (by decide) (heap_set (.int .i64 a) (o := 0) h.x), owns_set (owns_set h.C.b (by decide) h.x) (by decide) (heap_set (.int .i64 a) (o := 0) h.x)⟩, heap_set (.int .i64 c) (o := 1) (heap_set (.int .i64 a) (o := 0) h.x)⟩
/-- What LiftsMore knows behind the lesser span. -/
def MoreCut (w4 : World) (z zo n1 : Nat) (lo hi : Int) (s : Sea) (wx : World) : Prop := ∃ (so : Sea) (Lo : SL) (old : Int × Int), OBox wx n1 z Lo so ∧ PairBox wx zo old ∧ Below w4.heap.size w4 wx ∧ so.ps.length = s.ps.length ∧ (validS so = true → old.1 ≤ lo → hi ≤ old.2 → ∀ i, i < s.ps.length → needN so i ≤ needN s i)
theorem PairBox.set {W : World} {zo : Nat} {y : Int × Int} (h : PairBox W zo y) (x : Int × Int) : PairBox ((W.setCell ⟨zo, 0, none⟩ (.int .i64 x.1)).setCell ⟨zo, 1, none⟩ (.int .i64 x.2)) zo x :=
  heap_set (.int .i64 x.2) (o := 1) (heap_set (.int .i64 x.1) (o := 0) h)
theorem PairBox.other {W : World} {zo b o o' : Nat} {x : Int × Int} (h : PairBox W zo x) (hne : zo ≠ b) (u v : Value) : PairBox ((W.setCell ⟨b, o, none⟩ u).setCell ⟨b, o', none⟩ v) zo x := by
  have st : ∀ {W : World} {ob : Obj} {i : Nat} {v : Value}, W.heap[zo]? = some ob → (W.setCell ⟨b, i, none⟩ v).heap[zo]? = some ob := fun hh => (set_other_heap (heap_lt hh) hne).trans hh
  exact st (st h)
/-- A lesser weight, or a lesser span of a place. -/
theorem less_weight {s : Sea} (hS : SOK s) {lo hi : Int} (h : validS { s with wl := lo, wh := hi } = true) (h2 : hi ≤ s.wh) : ∀ i, i < s.ps.length → needN { s with wl := lo, wh := hi } i ≤ needN s i := fun i hi' =>
  needs_less hS (SOK.ofValid h) rfl h2 (fun j x y hx hy => by
    have hxy : x = y := by
      have e : s.ps[j]? = some y := hy
      rw [hx] at e
      exact Option.some.inj e
    subst hxy
    exact ⟨Int.le_refl _, Int.le_refl _⟩) hi'
theorem less_place {s : Sea} (hS : SOK s) {lo hi : Int} {k : Nat} {x : Int × Int} (hx : s.ps[k]? = some x) (h : validS { s with ps := s.ps.set k (lo, hi) } = true) (h1 : x.1 ≤ lo) (h2 : hi ≤ x.2) : ∀ i, i < s.ps.length → needN { s with ps := s.ps.set k (lo, hi) } i ≤ needN s i := fun i hi' =>
  needs_less hS (SOK.ofValid h) (by simp) (Int.le_refl _) (fun j u y hu hy => by
    have hk := (List.getElem?_eq_some_iff.1 hx).1
    have hy' : (s.ps.set k (lo, hi))[j]? = some y := hy
    by_cases e : k = j
    · subst e
      rw [List.getElem?_set_self hk] at hy'
      rw [hx] at hu
      cases hu
      cases hy'
      exact ⟨h1, h2⟩
    · rw [List.getElem?_set_ne e, hu] at hy'
      cases hy'
      exact ⟨Int.le_refl _, Int.le_refl _⟩) hi'
theorem SBox.frozen {W : World} {b : Nat} {L : SL} {s : Sea} (h : SBox W b L s) : ∀ o, W.frozen? ⟨b, o, none⟩ = false := frozen_of_heap h
set_option maxRecDepth 100000 in
set_option maxHeartbeats 8000000 in
theorem more_law (L : SL) (s : Sea) (hok : SLOK L s) (b0 b1 k lo hi : Int) (w : World) (hH : SeaAt w w.heap.size L s) : Calls Try.prog 6 #[L.enc s, .agg #[.int .i64 b0, .int .i64 b1], .agg #[.int .i64 k, .int .i64 lo, .int .i64 hi]] w fun e w' => e = .returned (.bool true) ∧ Below w.heap.size w w' := by
  have hbw := hb0to (hb0to (al_below w (.cells #[.int .i64 s.wl, .int .i64 s.wh, .slice L.Ap s.ps.length L.cp, .slice L.Ab s.bs.length L.cb] 27)) (al_below _ (.cells #[.int .i64 b0, .int .i64 b1] 55))) (al_below _ (.cells #[.int .i64 k, .int .i64 lo, .int .i64 hi] 57))
  have hx0 := ((SBox.new w L s).of (Below.heap_alloc _ (.cells #[.int .i64 b0, .int .i64 b1] 55) _ (by simp))).of (Below.heap_alloc _ (.cells #[.int .i64 k, .int .i64 lo, .int .i64 hi] 57) _ (by simp; omega))
  have hy0 := heap_keep (o' := (.cells #[.int .i64 k, .int .i64 lo, .int .i64 hi] 57)) (heap_new2 w (.cells #[.int .i64 s.wl, .int .i64 s.wh, .slice L.Ap s.ps.length L.cp, .slice L.Ab s.bs.length L.cb] 27) (.cells #[.int .i64 b0, .int .i64 b1] 55))
  have hz0 := heap_new3 w (.cells #[.int .i64 s.wl, .int .i64 s.wh, .slice L.Ap s.ps.length L.cp, .slice L.Ab s.bs.length L.cb] 27) (.cells #[.int .i64 b0, .int .i64 b1] 55) (.cells #[.int .i64 k, .int .i64 lo, .int .i64 hi] 57)
  obtain ⟨W0, hW0⟩ : ∃ W0, ((w.alloc (.cells #[.int .i64 s.wl, .int .i64 s.wh, .slice L.Ap s.ps.length L.cp, .slice L.Ab s.bs.length L.cb] 27)).alloc (.cells #[.int .i64 b0, .int .i64 b1] 55)).alloc (.cells #[.int .i64 k, .int .i64 lo, .int .i64 hi] 57) = W0 := ⟨_, rfl⟩
  rw [hW0] at hbw hx0 hy0 hz0
  have HM := Lib.hid (MIn.mk (hH.below hbw) hx0 hy0 hz0)
  have HBW := Lib.hid hbw
  have BX := Lib.hid (Below.refl W0.heap.size W0)
  have HW0 := Lib.hid hW0
  have HOK := Lib.hid hok
  obtain ⟨c0, c1, c2, c3, c4, c5, c6, c7', c8⟩ := HM.out.c
  have HR := Lib.hid (fun W hW => ready_any L s W hW)
  clear hbw hx0 hy0 hz0 hW0 hH hok
  cases hv : validS s
  · rw [hv] at HR
    clear hv
    as_aux_lemma =>
    obtain ⟨Ap, cp, Ab, cb⟩ := L
    go_enter Try.func6, Try.ntmps6
    go_upto_region 1 with (fail)
    have e := HW0.out
    rw [e]
    clear e
    go_wp2_with (first
      | (go_at_call 16; refine (HR.out W0 HM.out.H).mono ?_; rintro e w1 ⟨rfl, hb⟩; have M1 := Lib.hid (HM.out.next hb); obtain ⟨r0, r1, r2, r3, r4, r5, r6, r7, r8⟩ := M1.out.c; have B1 := Lib.hid (hb0to BX.out hb); clear hb)
      | (go_at_call 17; refine (works_any _).mono ?_; rintro e w9 ⟨rfl, hb9⟩; have B9 := Lib.hid (hb0to B1.out hb9); clear hb9))
    go_ret
    exact ⟨rfl, hb0to HBW.out B9.out⟩
  · rw [hv] at HR
    have hS := SOK.ofValid hv
    have HS := Lib.hid hS
    have hpl := hS.pl
    have hbl := hS.bl
    have H36 := Lib.hid (fun W hW => cheapW_any L s hv W hW)
    have H34 := Lib.hid (fun W hW => mostW_any L s hv W hW)
    have H19 := Lib.hid (fun W hW => needs_any L s hv W hW)
    have H37 := Lib.hid (fun W hW => copy_any L s ⟨by omega, by omega⟩ HOK.out W hW)
    have H38 := Lib.hid (fun (i : Nat) (hi : i < s.bs.length) L' (hok : SLOK L' s) W hW => stronger_any L' s hS hok i hi W hW)
    have HRO := Lib.hid (fun L' t W hW => ready_any L' t W hW)
    have H36O := Lib.hid (fun L' t ht W hW => cheapW_any L' t ht W hW)
    have H34O := Lib.hid (fun L' t ht W hW => mostW_any L' t ht W hW)
    have HBET := Lib.hid (fun t (h : Better s t) (ht : validS t = true) => And.intro (h.cheap hS (SOK.ofValid ht)) (h.most hS))
    obtain ⟨ib, hib, q0, q1, q2⟩ := info_parts info55
    have HJ := Lib.hid (And.intro hib (And.intro q0 (And.intro q1 q2)))
    clear hv hib q0 q1 q2 hS
    obtain ⟨ch, hch⟩ : ∃ n, cheapW s = n := ⟨_, rfl⟩
    obtain ⟨mo, hmo⟩ : ∃ n, mostS s = n := ⟨_, rfl⟩
    rw [hch] at H36
    rw [hmo] at H34
    rw [hch, hmo] at HBET
    clear hch hmo
    as_aux_lemma =>
    obtain ⟨Ap, cp, Ab, cb⟩ := L
    go_enter Try.func6, Try.ntmps6
    go_upto_region 1 with (fail)
    have e := HW0.out
    rw [e]
    clear e
    go_upto_region 9 with (first
      | (go_at_call 16; refine (HR.out W0 HM.out.H).mono ?_; rintro e w1 ⟨rfl, hb⟩; have M1 := Lib.hid (HM.out.next hb); obtain ⟨r0, r1, r2, r3, r4, r5, r6, r7, r8⟩ := M1.out.c; have B1 := Lib.hid (hb0to BX.out hb); clear hb)
      | (go_at_call 36; refine (H36.out w1 M1.out.H).mono ?_; rintro e w2 ⟨rfl, hb⟩; have M2 := Lib.hid (M1.out.next hb); obtain ⟨s0, s1, s2, s3, s4, s5, s6, s7, s8⟩ := M2.out.c; have B2 := Lib.hid (hb0to B1.out hb); clear hb)
      | (go_at_call 34; refine (H34.out w2 M2.out.H).mono ?_; rintro e w3 ⟨rfl, hb⟩; have M3 := Lib.hid (M2.out.next hb); obtain ⟨t0, t1, t2, t3, t4, t5, t6, t7, t8⟩ := M3.out.c; have B3 := Lib.hid (hb0to B2.out hb); clear hb)
      | (go_at_call 19; refine (H19.out w3 M3.out.H).mono ?_; rintro e w4 ⟨⟨A7, c7, rfl, hA7⟩, hb⟩; have M4 := Lib.hid (M3.out.next hb); obtain ⟨u0, u1, u2, u3, u4, u5, u6, u7, u8⟩ := M4.out.c; have B4 := Lib.hid (hb0to B3.out hb); have I7 := Lib.hid hA7.ints; clear hb hA7)
      | (go_at_call 37; refine (H37.out w4 M4.out.H).mono ?_; rintro e w5 ⟨⟨⟨Bp, dp, Bb, db⟩, rfl, hC⟩, hb⟩; have hk := hb0to hb (al_below w5 (.cells #[.int .i64 s.wl, .int .i64 s.wh, .slice Bp s.ps.length dp, .slice Bb s.bs.length db] 27)); have M5 := Lib.hid (M4.out.next hk); obtain ⟨v0, v1, v2, v3, v4, v5, v6, v7, v8⟩ := M5.out.c; have B5 := Lib.hid (hb0to B4.out hk); have BC5 := Lib.hid hk; have O5 := Lib.hid (OBox.new hC); have HSZ5 := Lib.hid hb.size; clear hb hC hk))
    clear r0 r1 r2 r3 r4 r5 r6 r7 r8 s0 s1 s2 s3 s4 s5 s6 s7 s8 t0 t1 t2 t3 t4 t5 t6 t7 t8 u0 u1 u2 u3 u4 u5 u6 u7 u8 c0 c1 c2 c3 c4 c5 c6 c7' c8
    have hbz := O5.out.x.lt
    have hz45 : w4.heap.size ≤ w5.heap.size := by have := BC5.out.size; have := O5.out.C.b; exact HSZ5.out
    obtain ⟨W5, hW5⟩ : ∃ W5, w5.alloc (.cells #[.int .i64 s.wl, .int .i64 s.wh, .slice Bp s.ps.length dp, .slice Bb s.bs.length db] 27) = W5 := ⟨_, rfl⟩
    rw [hW5] at M5 B5 BC5 O5 v0 v1 v2 v3 v4 v5 v6 v7 v8 hbz ⊢
    clear hW5
    obtain ⟨x0, x1, x2, x3⟩ := O5.out.x.cells
    have OA := Lib.hid (O5.out.below (al_below W5 (.cells #[.int .i64 b0, .int .i64 b1] 55)))
    have hn9 : w4.heap.size ≤ (W5.alloc (.cells #[.int .i64 b0, .int .i64 b1] 55)).heap.size := by have := BC5.out.size; simp; omega
    go_upto_region 10 with (refine wpl_copyP3 (by rfl) (.tmp 60) (.tmp 62) 25 55 Try.underlying25 HJ.out.1 HJ.out.2.1 HJ.out.2.2.1 HJ.out.2.2.2 (by rfl) w4.heap.size _ s.bs (by rfl) OA.out.C.b ⟨W5.heap.size, 0, none⟩ 1 1 [(b0, b1)] rfl (by rfl) (pairs_lay (ns := [(b0, b1)]) (heap_new1 W5 _)) (by omega) (by simp) hn9 ?_; intro v' w6 h1 h2 h3; obtain ⟨A6, c6, rfl, -, -⟩ := h1.lay; obtain ⟨hx6, ho6⟩ := OA.out.grow h3 h1; have B6 := Lib.hid (BC5.out.trans ((al_below W5 (.cells #[.int .i64 b0, .int .i64 b1] 55)).mono BC5.out.size |>.trans h2)); have O6 := Lib.hid ho6; have xf := hx6.frozen; obtain ⟨y0, y1, y2, y3⟩ := hx6.cells; clear h1 h2 h3 hx6 ho6)
    have hO6 := O6.out
    rw [show (s.bs ++ [(b0, b1)]).length = s.bs.length + 1 by simp] at hO6
    have hbc6 := B6.out.setCell (p := ⟨w5.heap.size, 3, none⟩) hz45 (.slice A6 (s.bs.length + 1) c6)
    obtain ⟨W6, hW6⟩ : ∃ W6, w6.setCell ⟨w5.heap.size, 3, none⟩ (.slice A6 (s.bs.length + 1) c6) = W6 := ⟨_, rfl⟩
    rw [hW6] at hO6 hbc6 ⊢
    have hbt := better_more s (b0, b1)
    obtain ⟨t, ht⟩ : ∃ t, t = { s with bs := s.bs ++ [(b0, b1)] } := ⟨_, rfl⟩
    obtain ⟨Lt, hLt⟩ : ∃ Lt : SL, Lt = ⟨Bp, dp, A6, c6⟩ := ⟨_, rfl⟩
    rw [← ht] at hO6 hbt
    simp only at hO6
    rw [← hLt] at hO6
    have HBT := Lib.hid hbt
    have O7 := Lib.hid hO6
    have BC6 := Lib.hid hbc6
    have M6 := Lib.hid (M4.out.next hbc6)
    clear hO6 hbc6 hbt hW6 xf y0 y1 y2 y3 v0 v1 v2 v3 v4 v5 v6 v7 v8 x0 x1 x2 x3 hbz hn9 O6 OA
    obtain ⟨z, hz⟩ : ∃ z, w5.heap.size = z := ⟨_, rfl⟩
    rw [hz] at O7 hz45 ⊢
    clear ht hLt hz
    obtain ⟨x0, x1, x2, x3⟩ := O7.out.x.cells
    go_upto_if 66 with (go_at_call 16; refine (HRO.out Lt t W6 O7.out.C.sea).mono ?_; rintro e w7 ⟨rfl, hb⟩; have B7 := Lib.hid hb; have O8 := Lib.hid (O7.out.below hb); obtain ⟨y0, y1, y2, y3⟩ := O8.out.x.cells; clear hb)
    go_cut [14] (fun s14 wx => Hid (Below W6.heap.size W6 wx))
    case first =>
      cases hv2 : validS t
      · go_wp2_with (fail)
        go_meet
        exact B7
      · obtain ⟨k1, k2⟩ := HBET.out t HBT.out hv2
        have H36t := Lib.hid (fun W hW => H36O.out Lt t hv2 W hW)
        have H34t := Lib.hid (fun W hW => H34O.out Lt t hv2 W hW)
        generalize cheapW t = cht at H36t k1
        generalize mostS t = mot at H34t k2
        have hd1 : decide (ch < cht) = false := decide_eq_false (by omega)
        have hd2 : decide (mot < mo) = false := decide_eq_false (by omega)
        clear hv2 k1 k2
        go_wp2_with (first
          | (go_at_call 36; refine (H36t.out w7 O8.out.C.sea).mono ?_; rintro e w8 ⟨rfl, hb⟩; have B8 := Lib.hid (hb0to B7.out hb); have O9 := Lib.hid (O8.out.below hb); obtain ⟨z0, z1, z2, z3⟩ := O9.out.x.cells; clear hb)
          | (go_at_call 34; refine (H34t.out w8 O9.out.C.sea).mono ?_; rintro e w9 ⟨rfl, hb⟩; have B9 := Lib.hid (hb0to B8.out hb); clear hb))
        go_meet
        exact B9
    case rest =>
      obtain ⟨W7, rfl⟩ : ∃ x : World, x = wc := ⟨_, rfl⟩
      have BC7 := Lib.hid (hb0to BC6.out hcut.out)
      have M7 := Lib.hid (M4.out.next BC7.out)
      have X7 := Lib.hid (O7.out.x.of (hcut.out.block _ O7.out.x.lt))
      clear hcut x0 x1 x2 x3 O7
      go_wp2_with (fail)
      go_loopw [18] (fun i wr => ∃ m : Nat, m ≤ s.bs.length ∧ i = .int .i64 m ∧ Hid (Below W7.heap.size W7 wr)) (fun i _ => s.bs.length - (intOf i).toNat)
      case atStart => exact ⟨0, Nat.zero_le _, rfl, Lib.hid (Below.refl _ _)⟩
      case round =>
        obtain ⟨m, hm, rfl, hb⟩ := hrel
        have M8 := Lib.hid (M7.out.next hb.out)
        obtain ⟨v0, v1, v2, v3, v4, v5, v6, v7, v8⟩ := M8.out.c
        by_cases hlt : m < s.bs.length
        · have hbq := better_strong s m
          have H38m := Lib.hid (fun L' hok W hW => H38.out m hlt L' hok W hW)
          obtain ⟨q, hq⟩ : ∃ q, q = strongS s m := ⟨_, rfl⟩
          rw [← hq] at hbq H38m
          have HBQ := Lib.hid hbq
          clear hq hbq
          cases hv2 : validS q
          · as_aux_lemma =>
            go_wp2_with (first
              | (go_at_call 38; refine (H38m.out _ HOK.out wr M8.out.H).mono ?_; rintro e w8 ⟨⟨Lq, rfl, hC⟩, hb8⟩; have OQ := Lib.hid (OBox.new hC); have B8 := Lib.hid (hb0to hb8 (al_below w8 (.cells #[.int .i64 q.wl, .int .i64 q.wh, .slice Lq.Ap q.ps.length Lq.cp, .slice Lq.Ab q.bs.length Lq.cb] 27))); obtain ⟨y0, y1, y2, y3⟩ := OQ.out.x.cells; clear hC hb8)
              | (go_at_call 16; refine (HRO.out Lq q _ OQ.out.C.sea).mono ?_; rintro e w9 ⟨rfl, hb9⟩; rw [hv2]; have B9 := Lib.hid (hb0to B8.out hb9); clear hb9))
            go_roundw
            case rel => exact ⟨m + 1, by omega, by go_num, Lib.hid (hb0to hb.out B9.out)⟩
            case measure => simp [intOf]; omega
          · obtain ⟨k1, k2⟩ := HBET.out q HBQ.out hv2
            have HV2 := Lib.hid hv2
            have H36t := Lib.hid (fun L' W hW => H36O.out L' q hv2 W hW)
            have H34t := Lib.hid (fun L' W hW => H34O.out L' q hv2 W hW)
            generalize cheapW q = cht at H36t k1
            generalize mostS q = mot at H34t k2
            have hd1 : decide (ch < cht) = false := decide_eq_false (by omega)
            have hd2 : decide (mot < mo) = false := decide_eq_false (by omega)
            clear hv2 k1 k2
            as_aux_lemma =>
            go_wp2_with (first
              | (go_at_call 38; refine (H38m.out _ HOK.out wr M8.out.H).mono ?_; rintro e w8 ⟨⟨Lq, rfl, hC⟩, hb8⟩; have OQ := Lib.hid (OBox.new hC); have B8 := Lib.hid (hb0to hb8 (al_below w8 (.cells #[.int .i64 q.wl, .int .i64 q.wh, .slice Lq.Ap q.ps.length Lq.cp, .slice Lq.Ab q.bs.length Lq.cb] 27))); obtain ⟨y0, y1, y2, y3⟩ := OQ.out.x.cells; clear hC hb8)
              | (go_at_call 16; refine (HRO.out Lq q _ OQ.out.C.sea).mono ?_; rintro e w9 ⟨rfl, hb9⟩; rw [HV2.out]; have B9 := Lib.hid (hb0to B8.out hb9); have O9 := Lib.hid (OQ.out.below hb9); obtain ⟨z0, z1, z2, z3⟩ := O9.out.x.cells; clear hb9)
              | (go_at_call 36; refine (H36t.out Lq w9 O9.out.C.sea).mono ?_; rintro e wa ⟨rfl, hba⟩; have Ba := Lib.hid (hb0to B9.out hba); have Oa := Lib.hid (O9.out.below hba); obtain ⟨a0, a1, a2, a3⟩ := Oa.out.x.cells; clear hba)
              | (go_at_call 34; refine (H34t.out Lq wa Oa.out.C.sea).mono ?_; rintro e wb ⟨rfl, hbb⟩; have Bb := Lib.hid (hb0to Ba.out hbb); clear hbb))
            go_roundw
            case rel => exact ⟨m + 1, by omega, by go_num, Lib.hid (hb0to hb.out Bb.out)⟩
            case measure => simp [intOf]; omega
        · obtain rfl : m = s.bs.length := by omega
          obtain ⟨W8, rfl⟩ : ∃ x : World, x = wr := ⟨_, rfl⟩
          have BC8 := Lib.hid (hb0to BC7.out hb.out)
          have HSZ8 := Lib.hid BC8.out.size
          have X8 := Lib.hid (X7.out.of (hb.out.block _ X7.out.lt))
          clear v0 v1 v2 v3 v4 v5 v6 v7 v8
          obtain ⟨v0, v1, v2, v3, v4, v5, v6, v7, v8⟩ := M8.out.c
          obtain ⟨x0, x1, x2, x3⟩ := X8.out.cells
          have xf := X8.out.frozen
          have H37b := Lib.hid (H37.out W8 M8.out.H)
          go_upto_region 25 with (go_at_call 37; refine H37b.out.mono ?_; rintro e w9 ⟨⟨Lo, rfl, hC⟩, hb9⟩; have B9 := Lib.hid hb9; have C9 := Lib.hid hC; have X9 := Lib.hid (X8.out.of (hb9.block _ X8.out.lt)); have zf := X9.out.frozen; obtain ⟨z0, z1, z2, z3⟩ := X9.out.cells; clear hb9 hC)
          have hO9 : OBox _ W8.heap.size z Lo s := ⟨⟨X9.out.owns4 C9.out.p (by decide) (.int .i64 s.wl) (.int .i64 s.wh) (.slice Lo.Ap s.ps.length Lo.cp) (.slice Lo.Ab s.bs.length Lo.cb), X9.out.owns4 C9.out.b (by decide) (.int .i64 s.wl) (.int .i64 s.wh) (.slice Lo.Ap s.ps.length Lo.cp) (.slice Lo.Ab s.bs.length Lo.cb)⟩, X9.out.put (L' := Lo) (s' := s)⟩
          have hb9 := below_set4 (BC8.out.trans (B9.out.mono BC8.out.size)) hz45 (.int .i64 s.wl) (.int .i64 s.wh) (.slice Lo.Ap s.ps.length Lo.cp) (.slice Lo.Ab s.bs.length Lo.cb)
          obtain ⟨Y, hY⟩ : ∃ Y, (((w9.setCell ⟨z, 0, none⟩ (.int .i64 s.wl)).setCell ⟨z, 1, none⟩ (.int .i64 s.wh)).setCell ⟨z, 2, none⟩ (.slice Lo.Ap s.ps.length Lo.cp)).setCell ⟨z, 3, none⟩ (.slice Lo.Ab s.bs.length Lo.cb) = Y := ⟨_, rfl⟩
          rw [hY] at hO9 hb9 ⊢
          have OY := Lib.hid hO9
          have BCY := Lib.hid hb9
          have MY := Lib.hid (M4.out.next hb9)
          have hWY : W8.heap.size ≤ Y.heap.size := by rw [← hY]; have := B9.out.size; simp [World.setCell]; exact this
          have hzlt := hO9.x.lt
          clear hO9 hb9 hY zf z0 z1 z2 z3 xf x0 x1 x2 x3 v0 v1 v2 v3 v4 v5 v6 v7 v8
          obtain ⟨y0, y1, y2, y3, y4, y5, y6, y7, y8⟩ := MY.out.c
          have H39 := Lib.hid (fun W => rIsPlace_any ⟨Ap, cp, Ab, cb⟩ s k W (by omega))
          have PY0 := Lib.hid (show PairBox (Y.alloc (.cells #[.int .i64 s.wl, .int .i64 s.wh] 23)) Y.heap.size (s.wl, s.wh) from heap_new1 Y _)
          have BY1 := Lib.hid (al_below Y (.cells #[.int .i64 s.wl, .int .i64 s.wh] 23))
          have MY1 := Lib.hid (MY.out.next BY1.out)
          obtain ⟨t0, t1, t2, t3, t4, t5, t6, t7, t8⟩ := MY1.out.c
          go_upto_if 139 with (go_at_call 39; refine (H39.out _).mono ?_; rintro e u ⟨rfl, hb⟩; have BU := Lib.hid (hb0to BY1.out hb); have PU := Lib.hid (PY0.out.next hb); clear hb)
          have MU := Lib.hid (MY.out.next BU.out)
          have OU := Lib.hid (OY.out.below BU.out)
          clear t0 t1 t2 t3 t4 t5 t6 t7 t8 y0 y1 y2 y3 y4 y5 y6 y7 y8
          obtain ⟨u0, u1, u2, u3, u4, u5, u6, u7, u8⟩ := MU.out.c
          obtain ⟨o0, o1, o2, o3⟩ := OU.out.x.cells
          have pf := frozen_of_heap PU.out
          obtain ⟨p0, p1⟩ := PU.out.cells
          simp only at p0 p1
          have plt := heap_lt PU.out
          have ne1 : ¬ z = Y.heap.size := by omega
          have ne2 : ¬ Y.heap.size = z := by omega
          go_cut [140] (fun s140 wx => MoreCut w4 z Y.heap.size W8.heap.size lo hi s wx)
          case first =>
            cases hpk : inR k 0 ((s.ps.length : Int) - 1)
            · have ofz := OU.out.x.frozen
              have BCU := Lib.hid (BCY.out.trans (BU.out.mono BCY.out.size))
              clear hpk
              go_wp2_with (fail)
              go_meet
              exact ⟨{ s with wl := lo, wh := hi }, Lo, (s.wl, s.wh), OU.out.setW lo hi, PU.out.other ne2 _ _, (BCU.out.setCell (p := ⟨z, 0, none⟩) hz45 _).setCell (p := ⟨z, 1, none⟩) hz45 _, rfl, fun hv _ h2 => less_weight HS.out hv h2⟩
            · obtain ⟨k0, k1⟩ := inR_true.1 hpk
              obtain ⟨kn, rfl⟩ : ∃ kn : Nat, k = kn := ⟨k.toNat, by omega⟩
              have hkn : kn < s.ps.length := by omega
              obtain ⟨x, hx⟩ : ∃ x, s.ps[kn]? = some x := ⟨_, List.getElem?_eq_getElem hkn⟩
              obtain ⟨bp, op, eP, _, d1, d2⟩ := MU.out.H.p.at_ hx
              simp only at eP
              subst eP
              have HX := Lib.hid hx
              clear hpk hx
              go_upto_region 28 with (fail)
              have b12 := (BU.out.setCell (p := ⟨Y.heap.size, 0, none⟩) (Nat.le_refl _) (.int .i64 x.1)).setCell (p := ⟨Y.heap.size, 1, none⟩) (Nat.le_refl _) (.int .i64 x.2)
              have P12 := Lib.hid (PU.out.set x)
              obtain ⟨V, hV⟩ : ∃ V, (u.setCell ⟨Y.heap.size, 0, none⟩ (.int .i64 x.1)).setCell ⟨Y.heap.size, 1, none⟩ (.int .i64 x.2) = V := ⟨_, rfl⟩
              rw [hV] at b12 P12 ⊢
              have BV := Lib.hid b12
              have OV := Lib.hid (OY.out.below b12)
              have MV := Lib.hid (MY.out.next b12)
              clear hV b12 u0 u1 u2 u3 u4 u5 u6 u7 u8 o0 o1 o2 o3 p0 p1 pf d1 d2
              obtain ⟨g, hgA, hgb, arr0, harr0⟩ := OY.out.C.p.some_ (by omega)
              have hgY2 := heap_lt harr0
              obtain ⟨g', hgA', _, arr, harr⟩ := OV.out.C.p.some_ (by omega)
              rw [hgA] at hgA'
              cases hgA'
              clear harr0
              have gf := frozen_of_heap harr
              have glt := heap_lt harr
              obtain ⟨_, _, e1, _, d1, d2⟩ := OV.out.C.sea.p.at_ HX.out
              rw [hgA] at e1
              cases e1
              rw [Nat.zero_add] at d1 d2
              have hsp := OV.out.setP hgA hkn (lo, hi)
              have HSP := Lib.hid hsp
              have HGA := Lib.hid hgA
              obtain ⟨o0, o1, o2, o3⟩ := OV.out.x.cells
              rw [hgA] at o2
              obtain ⟨u0, u1, u2, u3, u4, u5, u6, u7, u8⟩ := MV.out.c
              have BCV := Lib.hid (BCY.out.trans (BV.out.mono BCY.out.size))
              have hg4 : w4.heap.size ≤ g := Nat.le_trans HSZ8.out hgb
              clear harr hsp hgA
              go_wp2_with (fail)
              go_meet
              exact ⟨{ s with ps := s.ps.set kn (lo, hi) }, Lo, x, HSP.out, P12.out.other (by omega) _ _, (BCV.out.setCell (p := ⟨g, kn * 2, none⟩) hg4 _).setCell (p := ⟨g, kn * 2 + 1, none⟩) hg4 _, by simp, fun hv h1 h2 => less_place HS.out HX.out hv h1 h2⟩
          case rest =>
            obtain ⟨so, Lq, old, hO, hP, hBC, hlen, hneed⟩ := hcut
            obtain ⟨V, rfl⟩ : ∃ x : World, x = wc := ⟨_, rfl⟩
            have OV := Lib.hid hO
            have PV := Lib.hid hP
            have BCV := Lib.hid hBC
            have HLEN := Lib.hid hlen
            have HNEED := Lib.hid hneed
            have MV := Lib.hid (M4.out.next hBC)
            have I7V := Lib.hid (ints_later I7.out hBC)
            have hls : so.ps.length ≤ s.ps.length ∧ s.ps.length ≤ so.ps.length := by omega
            clear hO hP hBC hlen hneed u0 u1 u2 u3 u4 u5 u6 u7 u8 o0 o1 o2 o3 p0 p1 pf
            obtain ⟨u0, u1, u2, u3, u4, u5, u6, u7, u8⟩ := MV.out.c
            obtain ⟨o0, o1, o2, o3⟩ := OV.out.x.cells
            obtain ⟨p0, p1⟩ := PV.out.cells
            have BV := Lib.hid (hb0to B4.out BCV.out)
            obtain ⟨ol, oh⟩ := old
            simp only at p0 p1 HNEED
            by_cases q1 : lo < ol
            · have hd1 : decide (lo < ol) = true := decide_eq_true q1
              clear q1
              as_aux_lemma =>
              go_wp2_with ((go_at_call 17; refine (works_any _).mono ?_; rintro e w9 ⟨rfl, hb9⟩; have B9 := Lib.hid (hb0to BV.out hb9); clear hb9))
              go_ret
              exact ⟨rfl, hb0to HBW.out B9.out⟩
            · have hd1 : decide (lo < ol) = false := decide_eq_false q1
              by_cases q2 : oh < hi
              · have hd2 : decide (oh < hi) = true := decide_eq_true q2
                clear q1 q2
                as_aux_lemma =>
                go_wp2_with ((go_at_call 17; refine (works_any _).mono ?_; rintro e w9 ⟨rfl, hb9⟩; have B9 := Lib.hid (hb0to BV.out hb9); clear hb9))
                go_ret
                exact ⟨rfl, hb0to HBW.out B9.out⟩
              · have hd2 : decide (oh < hi) = false := decide_eq_false q2
                by_cases q3 : hi < lo
                · have hd3 : decide (hi < lo) = true := decide_eq_true q3
                  clear q1 q2 q3
                  as_aux_lemma =>
                  go_wp2_with ((go_at_call 17; refine (works_any _).mono ?_; rintro e w9 ⟨rfl, hb9⟩; have B9 := Lib.hid (hb0to BV.out hb9); clear hb9))
                  go_ret
                  exact ⟨rfl, hb0to HBW.out B9.out⟩
                · have hd3 : decide (hi < lo) = false := decide_eq_false q3
                  have H16o := Lib.hid (HRO.out Lq so V OV.out.C.sea)
                  cases hv2 : validS so
                  · rw [hv2] at H16o
                    clear q1 q2 q3 hv2
                    as_aux_lemma =>
                    go_wp2_with (first
                      | (go_at_call 16; refine H16o.out.mono ?_; rintro e w8 ⟨rfl, hb8⟩; have B8 := Lib.hid (hb0to BV.out hb8); clear hb8)
                      | (go_at_call 17; refine (works_any _).mono ?_; rintro e w9 ⟨rfl, hb9⟩; have B9 := Lib.hid (hb0to B8.out hb9); clear hb9))
                    go_ret
                    exact ⟨rfl, hb0to HBW.out B9.out⟩
                  · rw [hv2] at H16o
                    have HN := Lib.hid (HNEED.out hv2 (by omega) (by omega))
                    have H19o := Lib.hid (fun W hW => needs_any Lq so hv2 W hW)
                    have HV2 := Lib.hid hv2
                    clear q1 q2 q3 hv2
                    as_aux_lemma =>
                    go_wp2_with (first
                      | (go_at_call 16; refine H16o.out.mono ?_; rintro e w8 ⟨rfl, hb8⟩; have B8 := Lib.hid hb8; have O8 := Lib.hid (OV.out.below hb8); obtain ⟨z0, z1, z2, z3⟩ := O8.out.x.cells; clear hb8)
                      | (go_at_call 19; refine (H19o.out w8 O8.out.C.sea).mono ?_; rintro e wa ⟨⟨Aa, ca, rfl, hAa⟩, hba⟩; have Ba := Lib.hid (hb0to B8.out hba); have Ia := Lib.hid hAa.ints; clear hba hAa))
                    go_loopw [27] (fun i wr => ∃ m : Nat, m ≤ so.ps.length ∧ i = .int .i64 m ∧ Hid (Below wa.heap.size wa wr)) (fun i _ => so.ps.length - (intOf i).toNat)
                    case atStart => exact ⟨0, Nat.zero_le _, rfl, Lib.hid (Below.refl _ _)⟩
                    case round =>
                      obtain ⟨m, hm, rfl, hb⟩ := hrel
                      by_cases hlt : m < so.ps.length
                      · have hms : m < s.ps.length := by omega
                        have hle := HN.out m hms
                        obtain ⟨b1', o1', e1, _, q1⟩ := (ints_later Ia.out hb.out).at_ (needsL_at (s := so) hlt)
                        obtain ⟨b2', o2', e2, _, q2⟩ := (ints_later (ints_later I7V.out Ba.out) hb.out).at_ (needsL_at (s := s) hms)
                        generalize needN so m = n1 at hle q1
                        generalize needN s m = n2 at hle q2
                        have hdl : decide (n2 < n1) = false := decide_eq_false (by omega)
                        have ex1 := extB_cell q1
                        have ex2 := extB_cell q2
                        clear q1 q2 hle
                        subst e1 e2
                        as_aux_lemma =>
                        go_upto_region 38 with (fail)
                        refine wp_region_extW (by kernel_rfl) (by kernel_rfl) ?_
                        repeat (go_big_quiet_step (fail))
                        refine wpQuiet_nil ?_
                        rintro _ ⟨y2, rfl⟩
                        have hb9 := hb0to hb.out (extB_below wr y2)
                        go_wp2_with (fail)
                        go_roundw
                        case rel => exact ⟨m + 1, by omega, by go_num, Lib.hid hb9⟩
                        case measure => simp [intOf]; omega
                      · obtain rfl : m = so.ps.length := by omega
                        have Bb := Lib.hid (hb0to (hb0to BV.out Ba.out) hb.out)
                        as_aux_lemma =>
                        go_wp2_with ((go_at_call 17; refine (works_any _).mono ?_; rintro e w9 ⟨rfl, hb9⟩; have B9 := Lib.hid (hb0to Bb.out hb9); clear hb9))
                        go_ret
                        exact ⟨rfl, hb0to HBW.out B9.out⟩
end Go.Proofs.Ytgjpllmmpclgaaa
