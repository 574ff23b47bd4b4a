import Derived.Test.YtgjpllmmpclgaaaN2
namespace Go.Proofs.Ytgjpllmmpclgaaa
open Go.RowKit

/-! The specification's ShareOf 88, NeedOf 89, NeedsOf 81. -/
theorem field23 (x y : Int) (W : World) : (Instr.field 23 (.agg #[.int .i64 x, .int .i64 y]) 1).run Try.prog W = .ok (.int .i64 y) W := by
  simp [Instr.field, asAgg, go_sem]
/-- The memory of ShareOf: the result's cell, the span so far, all partings. -/
structure ShSt (W : World) (lo zb pb : Nat) (p : Int × Int) (A : Option Addr) (rs : List (List Int)) : Prop where
  z : W.heap[zb]? = some (.cells #[.int .i64 0, .int .i64 0] 23 (0, 0))
  p : W.heap[pb]? = some (.cells #[.int .i64 p.1, .int .i64 p.2] 23 (0, 0))
  r : RowsIn W lo pb A rs
  n : zb ≠ pb
theorem ShSt.cells {W : World} {lo zb pb : Nat} {p : Int × Int} {A : Option Addr} {rs : List (List Int)} (h : ShSt W lo zb pb p A rs) : W.cell? ⟨pb, 0, none⟩ = some (.int .i64 p.1) ∧ W.cell? ⟨pb, 1, none⟩ = some (.int .i64 p.2) := ⟨cell_of_heap h.p rfl, cell_of_heap h.p rfl⟩
theorem ShSt.put {W : World} {lo zb pb : Nat} {p : Int × Int} {A : Option Addr} {rs : List (List Int)} (h : ShSt W lo zb pb p A rs) (q : Int × Int) : ShSt (((W.setCell ⟨pb, 0, none⟩ (.int .i64 q.1)).setCell ⟨pb, 1, none⟩ (.int .i64 q.2)).drew) lo zb pb q A rs := by
  have hz := heap_lt h.z
  have hp := heap_lt h.p
  have e1 : (W.setCell ⟨pb, 0, none⟩ (.int .i64 q.1)).heap[pb]? = some (.cells #[.int .i64 q.1, .int .i64 p.2] 23 (0, 0)) := heap_set _ h.p
  have s1 : W.heap.size ≤ (W.setCell ⟨pb, 0, none⟩ (.int .i64 q.1)).heap.size := by simp
  have hk : ∀ b, b < W.heap.size → b ≠ pb → (((W.setCell ⟨pb, 0, none⟩ (.int .i64 q.1)).setCell ⟨pb, 1, none⟩ (.int .i64 q.2)).drew).heap[b]? = W.heap[b]? := fun b hb hne =>
    show ((W.setCell ⟨pb, 0, none⟩ (.int .i64 q.1)).setCell ⟨pb, 1, none⟩ (.int .i64 q.2)).heap[b]? = W.heap[b]? from (set_other_heap (Nat.lt_of_lt_of_le hb s1) hne).trans (set_other_heap hb hne)
  refine ⟨(hk zb hz h.n).trans h.z, heap_set _ e1, h.r.keep (Nat.le_refl _) (Nat.le_refl _) fun b o _ hb => World.cell?_of_block (hk b (by omega) (by omega)), h.n⟩
theorem ShSt.below {w W : World} {lo zb pb n : Nat} {p : Int × Int} {A : Option Addr} {rs : List (List Int)} (_ : ShSt W lo zb pb p A rs) (hb : Below n w W) (hn : n ≤ pb) (q : Int × Int) : Below n w (((W.setCell ⟨pb, 0, none⟩ (.int .i64 q.1)).setCell ⟨pb, 1, none⟩ (.int .i64 q.2)).drew) :=
  ((hb.setCell (p := ⟨pb, 0, none⟩) hn _).setCell (p := ⟨pb, 1, none⟩) hn _).drew
theorem ShSt.first {W w1 : World} {lo zb : Nat} {A : Option Addr} {rs : List (List Int)} {v : Int} (hz : w1.heap[zb]? = some (.cells #[.int .i64 0, .int .i64 0] 23 (0, 0))) (hr : RowsIn w1 lo w1.heap.size A rs) (hW : Below w1.heap.size w1 W) (hp : W.heap[w1.heap.size]? = some (.cells #[.int .i64 v, .int .i64 v] 23 (0, 0))) : ShSt W lo zb w1.heap.size (v, v) A rs :=
  ⟨(hW.block _ (heap_lt hz)).trans hz, hp, hr.below hW (Nat.le_refl _), by have := heap_lt hz; omega⟩
set_option maxRecDepth 100000 in
set_option maxHeartbeats 4000000 in
theorem rshare_any (L : SL) (s : Sea) (hS : SOK s) (i : Nat) (x : Int × Int) (hx : s.ps[i]? = some x) (w : World) (hH : SeaAt w w.heap.size L s) : Calls Try.prog 88 #[L.enc s, .int .i64 i] w fun e w' => e = .returned (.agg #[.int .i64 (shareL s.ps 12 x).1, .int .i64 (shareL s.ps 12 x).2]) ∧ Below w.heap.size w w' := by
  have hbw := hb0to (al_below w (.cells #[.int .i64 s.wl, .int .i64 s.wh, .slice L.Ap s.ps.length L.cp, .slice L.Ab s.bs.length L.cb] 27)) (al_below _ (.cells #[.int .i64 0, .int .i64 0] 23))
  have hx0 := (SBox.new w L s).of (Below.heap_alloc _ (.cells #[.int .i64 0, .int .i64 0] 23) _ (by simp))
  have hz0 := heap_new2 w (.cells #[.int .i64 s.wl, .int .i64 s.wh, .slice L.Ap s.ps.length L.cp, .slice L.Ab s.bs.length L.cb] 27) (.cells #[.int .i64 0, .int .i64 0] 23)
  obtain ⟨W0, hW0⟩ : ∃ W0, (w.alloc (.cells #[.int .i64 s.wl, .int .i64 s.wh, .slice L.Ap s.ps.length L.cp, .slice L.Ab s.bs.length L.cb] 27)).alloc (.cells #[.int .i64 0, .int .i64 0] 23) = W0 := ⟨_, rfl⟩
  rw [hW0] at hbw hx0 hz0
  have HBW := Lib.hid hbw
  have HW0 := Lib.hid hW0
  have HZ := Lib.hid hz0
  have hpl := hS.pl
  have hil := (List.getElem?_eq_some_iff.1 hx).1
  have HP := Lib.hid (rpartings_any L s hS s.ps.length [] 0 rfl (by omega) (fun k u y h => by simp at h) none 0 W0.heap.size W0 (fun _ => ⟨rfl, rfl⟩) (hH.below hbw) (.inl rfl) (Nat.le_refl _))
  rw [partsF_nil] at HP
  have hsh := shTo_all hS hx
  obtain ⟨⟨X, Y⟩, hxy⟩ : ∃ r, r = shareL s.ps 12 x := ⟨_, rfl⟩
  rw [← hxy] at hsh ⊢
  clear hxy
  have HSH := Lib.hid hsh
  clear hsh
  simp only
  obtain ⟨pf, hpf⟩ := fill s.ps 12 (fun y hy => (hS.p y hy).2.1) hS.lo hS.hi
  have hpos : 0 < (partsR s.ps 12).length := List.length_pos_of_mem (mem_partsR.2 hpf)
  have HLEN := Lib.hid (fun (p : List Int) (hp : p ∈ partsR s.ps 12) => (mem_partsR.1 hp).len)
  have hbig : (partsR s.ps 12).length ≤ 28561 := by
    have := partsF_small hpl (fun y hy => by have := hS.p y hy; omega) 12 []
    rwa [partsF_nil] at this
  generalize partsR s.ps 12 = rs at HP HSH hpos HLEN hbig
  obtain ⟨p0, h0⟩ : ∃ p0, rs[0]? = some p0 := ⟨_, List.getElem?_eq_getElem hpos⟩
  have hi0 : i < p0.length := by rw [HLEN.out p0 (List.mem_of_getElem? h0)]; exact hil
  obtain ⟨v0, hv0⟩ : ∃ v, p0[i]? = some v := ⟨_, List.getElem?_eq_getElem hi0⟩
  have HF := Lib.hid (show shTo rs i 0 = (v0, v0) by rw [shTo_zero]; unfold shFrom; rw [List.getD_eq_getElem?_getD (l := rs), h0]; simp [hv0])
  have H0 := Lib.hid (And.intro h0 hv0)
  obtain ⟨c0, c1, c2, c3⟩ := hx0.cells
  clear hbw hW0 hH hx0 hz0 hx hpf h0 hv0 hS
  obtain ⟨Ap, cp, Ab, cb⟩ := L
  go_enter Try.func88, Try.ntmps88
  go_upto_region 1 with (fail)
  have e := HW0.out
  rw [e]
  clear e
  go_upto_region 2 with (go_at_call 98; refine HP.out.mono ?_; rintro e w1 ⟨⟨Ar, cr, rfl, hAr, hR⟩, hb1⟩; have HB1 := Lib.hid (hb0to HBW.out hb1); have HR := Lib.hid hR; have HZ1 := Lib.hid ((hb1.block _ (heap_lt HZ.out)).trans HZ.out); clear hb1 hAr hR)
  clear c0 c1 c2 c3
  have hsz1 := HB1.out.size
  obtain ⟨b, off, A', c', eA, hbl, k1, _, k2⟩ := HR.out.at_ H0.out.1
  obtain ⟨b', off', eA', hbl', k3⟩ := k2.at_.at_ H0.out.2
  subst eA'
  subst eA
  simp only [Nat.add_zero] at k1
  clear k2
  go_region_held3 (fun w' => w'.cell? ⟨b, off, none⟩ = some (.slice (some ⟨b', off', none⟩) p0.length c') ∧ w'.cell? ⟨b', off' + i, none⟩ = some (.int .i64 v0)) (first | go_keep) (fail)
  all_goals
    have hW2 : Below w1.heap.size w1 (w1.alloc (.cells #[.int .i64 v0, .int .i64 v0] 23)).drew := (al_below w1 _).drew
    have hp2 : (w1.alloc (.cells #[.int .i64 v0, .int .i64 v0] 23)).drew.heap[w1.heap.size]? = some (.cells #[.int .i64 v0, .int .i64 v0] 23 (0, 0)) := World.alloc_heap_new w1 _
    have S2 := Lib.hid (ShSt.first HZ1.out HR.out hW2 hp2)
    have B2 := Lib.hid (hb0to HB1.out hW2)
    obtain ⟨W2, e2⟩ : ∃ W2, (w1.alloc (.cells #[.int .i64 v0, .int .i64 v0] 23)).drew = W2 := ⟨_, rfl⟩
    rw [e2] at S2 B2 ⊢
    clear e2 hW2 hp2 k1 k3
    go_wp2_with (fail)
    go_loopw [7] (fun j wr => ∃ k : Nat, k ≤ rs.length ∧ j = .int .i64 k ∧ Hid (ShSt wr W0.heap.size (w.heap.size + 1) w1.heap.size (shTo rs i k) (some ⟨b, off, none⟩) rs) ∧ Hid (Below w.heap.size w wr)) (fun j _ => rs.length - (intOf j).toNat)
    case atStart => exact ⟨0, Nat.zero_le _, rfl, Lib.hid (by rw [HF.out]; exact S2.out), B2⟩
    case round =>
      obtain ⟨k, hk, rfl, hS, hb⟩ := hrel
      by_cases hlt : k < rs.length
      · obtain ⟨p, hp⟩ : ∃ p, rs[k]? = some p := ⟨_, List.getElem?_eq_getElem hlt⟩
        have hip : i < p.length := by rw [HLEN.out p (List.mem_of_getElem? hp)]; exact hil
        obtain ⟨v, hv⟩ : ∃ v, p[i]? = some v := ⟨_, List.getElem?_eq_getElem hip⟩
        have HN := Lib.hid (show shTo rs i (k + 1) = (min (shTo rs i k).1 v, max (shTo rs i k).2 v) by rw [shTo_next hp]; unfold shStep; rw [List.getD_eq_getElem?_getD, hv]; rfl)
        obtain ⟨b2, off2, A2, c2, e3, hb2, k1, _, k2⟩ := hS.out.r.at_ hp
        obtain ⟨b3, off3, e4, hb3, k3⟩ := k2.at_.at_ hv
        subst e4
        cases e3
        obtain ⟨g0, g1⟩ := hS.out.cells
        have gf : ∀ o, wr.frozen? ⟨w1.heap.size, o, none⟩ = false := frozen_of_heap hS.out.p
        generalize shTo rs i k = q at hS HN g0 g1
        obtain ⟨lo, hi⟩ := q
        simp only at HN g0 g1
        clear k2 hp hv
        go_wp2_with (fail)
        go_region
        all_goals
          go_wp2_with (fail)
          go_roundw
          case rel =>
            have em : (if v < lo then v else lo) = min lo v := by split <;> omega
            have ex : (if hi < v then v else hi) = max hi v := by split <;> omega
            rw [em, ex]
            exact ⟨k + 1, by omega, by go_num, Lib.hid (by rw [HN.out]; exact hS.out.put (min lo v, max hi v)), Lib.hid (hS.out.below hb.out HB1.out.size (min lo v, max hi v))⟩
          case measure => simp [intOf]; omega
      · obtain rfl : k = rs.length := by omega
        have hS2 := hS.out
        rw [HSH.out] at hS2
        obtain ⟨g0, g1⟩ := hS2.cells
        have hz := hS2.z
        have HZE := Lib.hid hz
        have q0 := cell_of_heap (o := 0) hz rfl
        have q1 := cell_of_heap (o := 1) hz rfl
        have qf : ∀ o, wr.frozen? ⟨w.heap.size + 1, o, none⟩ = false := frozen_of_heap hz
        simp only at g0 g1
        clear hz hS2 hS
        go_wp2_with (fail)
        have hw3 : ((wr.setCell ⟨w.heap.size + 1, 0, none⟩ (.int .i64 X)).setCell ⟨w.heap.size + 1, 1, none⟩ (.int .i64 Y)).heap[w.heap.size + 1]? = some (.cells #[.int .i64 X, .int .i64 Y] 23) := heap_set (.int .i64 Y) (heap_set (.int .i64 X) HZE.out)
        have B3 := Lib.hid (((hb.out.setCell (p := ⟨w.heap.size + 1, 0, none⟩) (Nat.le_succ _) (.int .i64 X))).setCell (p := ⟨w.heap.size + 1, 1, none⟩) (Nat.le_succ _) (.int .i64 Y))
        generalize (wr.setCell ⟨w.heap.size + 1, 0, none⟩ (.int .i64 X)).setCell ⟨w.heap.size + 1, 1, none⟩ (.int .i64 Y) = w5 at hw3 B3 ⊢
        have rr0 : w5.cell? ⟨w.heap.size + 1, 0, none⟩ = some (.int .i64 X) := by simp [World.cell?, hw3]
        have rr1 : w5.cell? ⟨w.heap.size + 1, 1, none⟩ = some (.int .i64 Y) := by simp [World.cell?, hw3]
        refine bodyPost_ret (by simp [results, Try.results88, go_sem, rr0, rr1]; try rfl) rfl ?_
        exact ⟨rfl, B3.out⟩
set_option maxRecDepth 100000 in
set_option maxHeartbeats 4000000 in
theorem rneed_any (L : SL) (s : Sea) (hS : SOK s) (i : Nat) (hi : i < s.ps.length) (w : World) (hH : SeaAt w w.heap.size L s) : Calls Try.prog 89 #[L.enc s, .int .i64 i] w fun e w' => e = .returned (.int .i64 (needN s i)) ∧ Below w.heap.size w w' := by
  have hbw := al_below w (.cells #[.int .i64 s.wl, .int .i64 s.wh, .slice L.Ap s.ps.length L.cp, .slice L.Ab s.bs.length L.cb] 27)
  have HB := Lib.hid (SBox.new w L s)
  obtain ⟨c0, c1, c2, c3⟩ := (SBox.new w L s).cells
  obtain ⟨W0, hW0⟩ : ∃ W0, w.alloc (.cells #[.int .i64 s.wl, .int .i64 s.wh, .slice L.Ap s.ps.length L.cp, .slice L.Ab s.bs.length L.cb] 27) = W0 := ⟨_, rfl⟩
  rw [hW0] at hbw HB c0 c1 c2 c3
  have HBW := Lib.hid hbw
  have HW0 := Lib.hid hW0
  have HH := Lib.hid (hH.below hbw)
  obtain ⟨x, hx⟩ : ∃ x, s.ps[i]? = some x := ⟨_, List.getElem?_eq_getElem hi⟩
  have h1 := shares_bd hS hi
  have hnb := needN_bd hS hi
  have h2 : 0 ≤ s.wh * (shares s i).2 := Int.mul_nonneg (by have := hS.w0; have := hS.w1; omega) h1.1
  have h3 : s.wh * (shares s i).2 ≤ 2000 * 12 := Int.mul_le_mul hS.w2 h1.2.1 h1.1 (by omega)
  have HSt := Lib.hid (fun n : Nat => needN_step (s := s) (k := i) (n := n))
  have H88 := Lib.hid (fun z (hz : SeaAt z z.heap.size L s) => show Calls Try.prog 88 #[L.enc s, .int .i64 i] z fun e w' => e = .returned (.agg #[.int .i64 (shares s i).1, .int .i64 (shares s i).2]) ∧ Below z.heap.size z w' by
    rw [shares_at hx]; exact rshare_any L s hS i x hx z hz)
  have hw1 : IntKind.i64.wrap (s.wh * (shares s i).2) = s.wh * (shares s i).2 := IntWalk.i64_in _ (by omega)
  generalize needN s i = nd at hnb HSt
  obtain ⟨hn0, hn1⟩ := hnb
  generalize (shares s i).1 = lo at H88
  generalize (shares s i).2 = hi2 at H88 HSt h1 h2 h3 hw1
  obtain ⟨m, hm⟩ : ∃ m, m = s.wh * hi2 := ⟨_, rfl⟩
  rw [← hm] at h2 h3 hw1
  have HMM := Lib.hid hm
  have hw2 : IntKind.i64.wrap (s.wh * hi2) = m := by rw [← hm]; exact hw1
  have HST2 := Lib.hid (fun n : Nat => show 12 * (n : Int) < m ↔ (n : Int) < nd by rw [HMM.out]; exact HSt.out n)
  clear hbw hW0 hH hS hx h1 hm HSt HMM
  obtain ⟨Ap, cp, Ab, cb⟩ := L
  go_enter Try.func89, Try.ntmps89
  go_upto_region 1 with (fail)
  have e := HW0.out
  rw [e]
  clear e
  go_wp2_with (fail)
  clear c0 c1 c2 c3
  go_loopw [5] (fun i wr => ∃ k : Nat, (k : Int) ≤ nd ∧ i = .int .i64 k ∧ Hid (Below W0.heap.size W0 wr)) (fun i _ => (nd - intOf i).toNat)
  case atStart => exact ⟨0, by omega, rfl, Lib.hid (Below.refl _ _)⟩
  case round =>
    obtain ⟨k, hk, rfl, hb⟩ := hrel
    have HBq := Lib.hid (HB.out.of (hb.out.block _ HB.out.lt))
    obtain ⟨r0, r1, r2, r3⟩ := HBq.out.cells
    have x0 := extB_cell r0
    have x1 := extB_cell r1
    have x2 := extB_cell r2
    have x3 := extB_cell r3
    have H88z := Lib.hid (fun z => H88.out (extB wr z) (HH.out.below (hb0to hb.out (extB_below wr z))))
    have hst := HST2.out k
    have hfd := fun W => field23 lo hi2 W
    have hwk : IntKind.i64.wrap (12 * (k : Int)) = 12 * (k : Int) := IntWalk.i64_in _ (by omega)
    by_cases hlt : (k : Int) < nd
    · have h12 := hst.2 hlt
      have hdl : decide (12 * (k : Int) < m) = true := decide_eq_true h12
      clear hst
      clear x0 x1 x2 x3
      go_upto_region 2 with (fail)
      go_region_held3 (fun w' => w'.cell? ⟨w.heap.size, 0, none⟩ = some (.int .i64 s.wl) ∧ w'.cell? ⟨w.heap.size, 1, none⟩ = some (.int .i64 s.wh) ∧ w'.cell? ⟨w.heap.size, 2, none⟩ = some (.slice Ap s.ps.length cp) ∧ w'.cell? ⟨w.heap.size, 3, none⟩ = some (.slice Ab s.bs.length cb)) (first | go_keep)
        (first | (go_at_call 88; refine (H88.out _ (HH.out.below (hb0to hb.out (by first | exact drew_below _ | exact Below.refl _ _)))).mono ?_; rintro e w2 ⟨rfl, hb2⟩; have hk2 : Below wr.heap.size wr w2 := (by first | exact hb2 | exact hb0to (drew_below wr) hb2); have hb3 := Lib.hid (hb0to hb.out hk2); obtain ⟨t0, t1, t2, t3⟩ := (HBq.out.of (hk2.block _ HBq.out.lt)).cells; clear hb2 hk2))
      all_goals
        clear r0 r1 r2 r3 t0 t1 t2 t3
        go_wp2_with (fail)
        go_roundw
        case rel => exact ⟨k + 1, by omega, by go_num, hb3⟩
        case measure => simp [intOf]; omega
    · have h12 : ¬ 12 * (k : Int) < m := fun h => hlt (hst.1 h)
      have hdl : decide (12 * (k : Int) < m) = false := decide_eq_false h12
      obtain rfl : nd = k := by omega
      clear hst
      clear x0 x1 x2 x3
      go_upto_region 2 with (fail)
      go_region_held3 (fun w' => w'.cell? ⟨w.heap.size, 0, none⟩ = some (.int .i64 s.wl) ∧ w'.cell? ⟨w.heap.size, 1, none⟩ = some (.int .i64 s.wh) ∧ w'.cell? ⟨w.heap.size, 2, none⟩ = some (.slice Ap s.ps.length cp) ∧ w'.cell? ⟨w.heap.size, 3, none⟩ = some (.slice Ab s.bs.length cb)) (first | go_keep)
        (first | (go_at_call 88; refine (H88.out _ (HH.out.below (hb0to hb.out (by first | exact drew_below _ | exact Below.refl _ _)))).mono ?_; rintro e w2 ⟨rfl, hb2⟩; have hk2 : Below wr.heap.size wr w2 := (by first | exact hb2 | exact hb0to (drew_below wr) hb2); have hb3 := Lib.hid (hb0to hb.out hk2); obtain ⟨t0, t1, t2, t3⟩ := (HBq.out.of (hk2.block _ HBq.out.lt)).cells; clear hb2 hk2))
      all_goals
        clear r0 r1 r2 r3 t0 t1 t2 t3
        go_wp2_with (fail)
        go_ret
        exact ⟨rfl, hb0to HBW.out hb3.out⟩
/-- What NeedsOf returns. -/
def NeedsOf (s : Sea) (B : Nat) (w' : World) (e : Ending) : Prop := ∃ A cp, e = .returned (.slice A s.ps.length cp) ∧ IntsFrom w' B A (needsL s)
set_option maxRecDepth 100000 in
set_option maxHeartbeats 4000000 in
theorem rneeds_any (L : SL) (s : Sea) (hS : SOK s) (w : World) (hH : SeaAt w w.heap.size L s) : Calls Try.prog 81 #[L.enc s] w fun e w' => NeedsOf s w.heap.size w' e ∧ Below w.heap.size w w' := by
  have hbw := al_below w (.cells #[.int .i64 s.wl, .int .i64 s.wh, .slice L.Ap s.ps.length L.cp, .slice L.Ab s.bs.length L.cb] 27)
  have HB := Lib.hid (SBox.new w L s)
  obtain ⟨c0, c1, c2, c3⟩ := (SBox.new w L s).cells
  obtain ⟨W0, hW0⟩ : ∃ W0, w.alloc (.cells #[.int .i64 s.wl, .int .i64 s.wh, .slice L.Ap s.ps.length L.cp, .slice L.Ab s.bs.length L.cb] 27) = W0 := ⟨_, rfl⟩
  rw [hW0] at hbw HB c0 c1 c2 c3
  have HBW := Lib.hid hbw
  have HW0 := Lib.hid hW0
  have HH := Lib.hid (hH.below hbw)
  have hpl := hS.pl
  have H89 := Lib.hid (fun (k : Nat) (hk : k < s.ps.length) W hW => rneed_any L s hS k hk W hW)
  have HS := Lib.hid hS
  clear hbw hW0 hH hS
  obtain ⟨Ap, cp, Ab, cb⟩ := L
  go_enter Try.func81, Try.ntmps81
  go_upto_region 1 with (fail)
  have e := HW0.out
  rw [e]
  clear e
  go_wp2_with (fail)
  clear c0 c1 c2 c3
  go_loopw [3, 4] (fun v i wr => ∃ k : Nat, k ≤ s.ps.length ∧ i = .int .i64 k ∧ Hid (Ints wr W0.heap.size v (needsTo s k)) ∧ Hid (Below W0.heap.size W0 wr)) (fun _ i _ => s.ps.length - (intOf i).toNat)
  case atStart => exact ⟨0, Nat.zero_le _, rfl, Lib.hid (ints_nil _ _), Lib.hid (Below.refl _ _)⟩
  case round =>
    obtain ⟨k, hk, rfl, hI, hb⟩ := hrel
    obtain ⟨r0, r1, r2, r3⟩ := (HB.out.of (hb.out.block _ HB.out.lt)).cells
    by_cases hlt : k < s.ps.length
    · have hnb := needN_bd HS.out hlt
      have HN := Lib.hid (needsTo_succ s k)
      have hl0 : (needsTo s k).length ≤ 1000 := by rw [needsTo_len]; omega
      have H89k := Lib.hid (H89.out k hlt)
      generalize needN s k = n at hnb HN H89k
      as_aux_lemma =>
      go_wp2_with (first
        | (go_at_call 89; refine (H89k.out wr (HH.out.below hb.out)).mono ?_; rintro e w1 ⟨rfl, hb1⟩; have B1 := Lib.hid hb1; have HI1 := Lib.hid ((hI.out.below_ hb1 (Nat.le_refl _)).alloc (.cells #[.int .i64 n] 3)); have HC1 := Lib.hid (show (w1.alloc (.cells #[.int .i64 n] 3)).cell? ⟨w1.heap.size, 0, none⟩ = some (.int .i64 n) by simp [go_sem]); have B2 := Lib.hid (hb0to hb.out (hb0to hb1 (al_below w1 (.cells #[.int .i64 n] 3)))); clear hb1)
        | (refine wpl_app (by rfl) _ _ (by rfl) W0.heap.size W0.heap.size _ (needsTo s k) n (by rfl) HI1.out ⟨w1.heap.size, 0, none⟩ 1 (by rfl) HC1.out hl0 B2.out.size (Nat.le_refl _) ?_; intro v' w' h1 h2; have HV := Lib.hid h1; have HW := Lib.hid h2; clear h1 h2))
      go_roundw
      case rel => exact ⟨k + 1, by omega, by go_num, Lib.hid (by rw [HN.out]; exact HV.out), Lib.hid (B2.out.trans HW.out)⟩
      case measure => simp [intOf]; omega
    · obtain rfl : k = s.ps.length := by omega
      have hI2 := hI.out
      rw [show needsTo s s.ps.length = needsL s from rfl] at hI2
      obtain ⟨A, c, rfl, hA0, -, hIn⟩ := hI2.lay
      have hln := needsL_len s
      rw [hln]
      have HIF := Lib.hid (show IntsFrom wr w.heap.size A (needsL s) by
        rcases hIn with h | ⟨b5, o5, e5, h5, h6, h7⟩
        · have : s.ps = [] := by rw [h] at hln; exact List.length_eq_zero_iff.1 hln.symm
          have h12 := HS.out.hi
          rw [this] at h12
          simp [sumH] at h12
        · exact .inr ⟨b5, o5, e5, Nat.le_trans HBW.out.size h5, h6, h7⟩)
      clear hI2 hA0 hIn hln
      as_aux_lemma =>
      go_wp2_with (fail)
      go_ret
      exact ⟨⟨A, c, rfl, HIF.out⟩, hb0to HBW.out hb.out⟩
end Go.Proofs.Ytgjpllmmpclgaaa
