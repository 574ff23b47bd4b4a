import Derived.Test.YtmconopnplgcfaaF5
namespace Go.Proofs.Ytmconopnplgcfaa
open Go.RowKit

theorem OwnsL.slice {W : World} {base : Nat} {v : Value} {ls : List (Int × Nat × Int)} (h : OwnsL W base v ls) : ∃ A c, v = .slice A ls.length c := by
  rcases h.2 with ⟨rfl, h0⟩ | ⟨g, cap, cur, rfl, hb, hg, h4, h5, h6, h7⟩
  · exact ⟨none, 0, by rw [h0]⟩
  · exact ⟨_, _, rfl⟩
theorem rows_below1 (w : World) (o : Obj) : Below w.heap.size w (w.alloc o).drew := ((Below.refl _ _).alloc (Nat.le_refl _) o).drew
theorem lot_info : (Try.prog.info? 102).map (·.size) = some 3 := by kernel_rfl
theorem shl_eq : ∀ i : Nat, i < 4 → wrap64 (2 ^ i) = ((1 <<< i : Nat) : Int) := fun i hi => one_shl i (by omega)
/-- A lot under way: its block. -/
def LBox (W : World) (g : Nat) (x : Bid) (m : Nat) : Prop := W.heap[g]? = some (.cells #[.int .i64 x.who, .int .i64 (m : Int), .int .i64 x.pay] 102 (0, 0))
theorem LBox.cells {W : World} {g : Nat} {x : Bid} {m : Nat} (h : LBox W g x m) : W.cell? ⟨g, 0, none⟩ = some (.int .i64 x.who) ∧ W.cell? ⟨g, 1, none⟩ = some (.int .i64 (m : Int)) ∧ W.cell? ⟨g, 2, none⟩ = some (.int .i64 x.pay) := by
  simp [World.cell?, show W.heap[g]? = _ from h]
theorem LBox.fz {W : World} {g : Nat} {x : Bid} {m : Nat} (h : LBox W g x m) (o : Nat) : W.frozen? ⟨g, o, none⟩ = false := frozen_of_heap h o
theorem LBox.set {W : World} {g : Nat} {x : Bid} {m : Nat} (h : LBox W g x m) (n : Nat) : LBox (W.setCell ⟨g, 1, none⟩ (.int .i64 (n : Int))) g x n := by
  unfold LBox; rw [heap_set _ h]; simp
set_option maxRecDepth 100000 in
set_option maxHeartbeats 4000000 in
theorem open_yes (F : FL) (f : Fair) (is : Bool) (hn : FN f) (w : World) (hF : FairAt w w.heap.size F f) (h : askF f is = 0) :
    Calls Try.prog 66 #[F.enc f, .bool is] w fun e w' => (∃ b, e = .returned (.tuple #[.pointer (some ⟨b, 0, none⟩), .int .i64 0]) ∧ w.heap.size ≤ b ∧ OpenAt w' b F f (readyL f.h f.pk f.day)) ∧ Below w.heap.size w w' := by
  have hbw := al_below w (.cells #[.slice F.L.Ak f.h.ks.length F.L.ck, .int .i64 f.h.fl, .slice F.L.Ap f.h.ps.length F.L.cp, .slice F.L.Ab f.h.bs.length F.L.cb, .slice F.Ap f.pk.length F.cp, .int .i64 f.day, .int .i64 f.nb, .slice F.Aq f.q.length F.cq] 29)
  have HB := Lib.hid (FBox.new w F f)
  obtain ⟨c0, c1, c2, c3, c4, c5, c6, c7⟩ := (FBox.new w F f).cells
  obtain ⟨W0, hW0⟩ : ∃ W0, w.alloc (.cells #[.slice F.L.Ak f.h.ks.length F.L.ck, .int .i64 f.h.fl, .slice F.L.Ap f.h.ps.length F.L.cp, .slice F.L.Ab f.h.bs.length F.L.cb, .slice F.Ap f.pk.length F.cp, .int .i64 f.day, .int .i64 f.nb, .slice F.Aq f.q.length F.cq] 29) = W0 := ⟨_, rfl⟩
  rw [hW0] at hbw HB c0 c1 c2 c3 c4 c5 c6 c7
  have HBW := Lib.hid hbw
  have HW0 := Lib.hid hW0
  have HF := Lib.hid (hF.below hbw)
  clear hbw hW0 hF
  have HC := Lib.hid (scheck_any F f hn W0 HF.out)
  obtain ⟨hv, rfl⟩ := askF_ok h
  rw [ckF_yes hv] at HC
  have hfo := FOK.of hv
  have H98 := Lib.hid (fun W hW hP => ready_any F f hn hfo.h f.pk hfo.p F.Ap F.cp f.day W hW hP)
  have HFO := Lib.hid hfo
  have hql := hfo.ql
  have HN := Lib.hid hn
  clear hn hv h hfo
  obtain ⟨L, Ap, cp, Aq, cq⟩ := F
  go_enter Try.func66, Try.ntmps66
  go_upto_region 1 with (fail)
  have e := HW0.out
  rw [e]
  clear e
  go_wp2_with (go_at_call 47; refine HC.out.mono ?_; rintro e w1 ⟨rfl, hb1⟩; have B1 := Lib.hid hb1; obtain ⟨r0, r1, r2, r3, r4, r5, r6, r7⟩ := (HB.out.of (hb1.block _ HB.out.lt)).cells; clear hb1)
  go_region_held3 (fun w' => w'.cell? ⟨w.heap.size, 0, none⟩ = some (.slice L.Ak f.h.ks.length L.ck) ∧ w'.cell? ⟨w.heap.size, 1, none⟩ = some (.int .i64 f.h.fl) ∧ w'.cell? ⟨w.heap.size, 2, none⟩ = some (.slice L.Ap f.h.ps.length L.cp) ∧ w'.cell? ⟨w.heap.size, 3, none⟩ = some (.slice L.Ab f.h.bs.length L.cb) ∧ w'.cell? ⟨w.heap.size, 4, none⟩ = some (.slice Ap f.pk.length cp) ∧ w'.cell? ⟨w.heap.size, 5, none⟩ = some (.int .i64 f.day) ∧ w'.cell? ⟨w.heap.size, 6, none⟩ = some (.int .i64 f.nb) ∧ w'.cell? ⟨w.heap.size, 7, none⟩ = some (.slice Aq f.q.length cq)) (first | go_keep)
    (first
      | (go_at_call 98; refine (H98.out w1.drew (HF.out.below (hb0to B1.out (drew_below w1))) (HF.out.below (hb0to B1.out (drew_below w1))).p).mono ?_; rintro e w2 ⟨⟨u, rfl, hu⟩, hb2⟩; have B2 := Lib.hid (hb0to B1.out (hb0to (drew_below w1) hb2)); have HU := Lib.hid hu; obtain ⟨r0, r1, r2, r3, r4, r5, r6, r7⟩ := (HB.out.of (B2.out.block _ HB.out.lt)).cells; clear hb2 hu))
  all_goals
    have hob : OBox (w2.alloc (.cells #[.slice L.Ak f.h.ks.length L.ck, .int .i64 f.h.fl, .slice L.Ap f.h.ps.length L.cp, .slice L.Ab f.h.bs.length L.cb, .slice Ap f.pk.length cp, .int .i64 f.day, .int .i64 f.nb, .slice Aq f.q.length cq, .slice none 0 0, .int .i64 (u : Int)] 71)) w2.heap.size ⟨L, Ap, cp, Aq, cq⟩ f (.slice none 0 0) u := World.alloc_heap_new w2 _
    have hb3 := hb0to B2.out (al_below w2 (.cells #[.slice L.Ak f.h.ks.length L.ck, .int .i64 f.h.fl, .slice L.Ap f.h.ps.length L.cp, .slice L.Ab f.h.bs.length L.cb, .slice Ap f.pk.length cp, .int .i64 f.day, .int .i64 f.nb, .slice Aq f.q.length cq, .slice none 0 0, .int .i64 (u : Int)] 71))
    obtain ⟨W3, hW3⟩ : ∃ W3, w2.alloc (.cells #[.slice L.Ak f.h.ks.length L.ck, .int .i64 f.h.fl, .slice L.Ap f.h.ps.length L.cp, .slice L.Ab f.h.bs.length L.cb, .slice Ap f.pk.length cp, .int .i64 f.day, .int .i64 f.nb, .slice Aq f.q.length cq, .slice none 0 0, .int .i64 (u : Int)] 71) = W3 := ⟨_, rfl⟩
    rw [hW3] at hob hb3
    have hbo1 : W0.heap.size ≤ w2.heap.size := B2.out.size
    have HOB := Lib.hid hob
    have HB3 := Lib.hid hb3
    have HW3 := Lib.hid hW3
    have r7' := (HB.out.of (HB3.out.block _ HB.out.lt)).cells.2.2.2.2.2.2.2
    clear hob hb3 hW3 r0 r1 r2 r3 r4 r5 r6 r7 c0 c1 c2 c3 c4 c5 c6 c7
    have e := HW3.out
    rw [e]
    clear e
    go_wp2_with (fail)
    clear r7'
    go_loopw [32] (fun i wr => ∃ k : Nat, k ≤ f.q.length ∧ i = .int .i64 k ∧ (∃ v ls, OBox wr w2.heap.size ⟨L, Ap, cp, Aq, cq⟩ f v u ∧ OwnsL wr (w2.heap.size + 1) v ls ∧ Hid (LotsOf (f.q.take k) ls)) ∧ Hid (Below W0.heap.size W0 wr)) (fun i _ => f.q.length - (intOf i).toNat)
    case atStart => exact ⟨0, Nat.zero_le _, rfl, ⟨_, [], HOB.out, ownsL_nil _ _, Lib.hid LotsOf.nil⟩, HB3⟩
    case round =>
      obtain ⟨k, hk, rfl, ⟨v, ls, hO, hL, hls⟩, hb⟩ := hrel
      by_cases hlt : k < f.q.length
      · obtain ⟨x, hx⟩ : ∃ x, f.q[k]? = some x := ⟨_, List.getElem?_eq_getElem hlt⟩
        obtain ⟨bk, ok, A', c', rfl, hbk, d1, d2, d3, hA', hI⟩ := HF.out.q.at_ hx
        have e1 := below_cell hb.out d1
        have e2 := below_cell hb.out d2
        have e3 := below_cell hb.out d3
        have hxm := List.mem_of_getElem? hx
        have hbl := HN.out.b x hxm
        have HIN := Lib.hid (HFO.out.bar x hxm)
        have hb4 := HFO.out.bl
        have HX := Lib.hid hx
        have HI := Lib.hid hI
        have HO := Lib.hid hO
        have HL := Lib.hid hL
        have hobl : w2.heap.size < wr.heap.size := hO.lt
        clear d1 d2 d3 hA' hI hxm hx hO hL
        obtain ⟨wo, rfl⟩ : ∃ wo : World, wo = wr := ⟨_, rfl⟩
        go_wp2_with (fail)
        go_loopw [44] (fun i wq => ∃ j : Nat, j ≤ x.bar.length ∧ i = .int .i64 j ∧ (∃ m, LBox wq (wo.heap.size + 1) x m ∧ Hid (MaskOf (x.bar.take j) m)) ∧ Hid (Below wo.heap.size wo wq)) (fun i _ => x.bar.length - (intOf i).toNat)
        case atStart => exact ⟨0, Nat.zero_le _, rfl, ⟨0, heap_new2 _ _ _, Lib.hid MaskOf.nil⟩, Lib.hid (hb0to (al_below _ _) (al_below _ _))⟩
        case round =>
          obtain ⟨j, hj, rfl, ⟨m, hM, hm⟩, hbq⟩ := hrel
          by_cases hjl : j < x.bar.length
          · obtain ⟨y, hy⟩ : ∃ y, x.bar[j]? = some y := ⟨_, List.getElem?_eq_getElem hjl⟩
            obtain ⟨b1, o1, rfl, b1lt, t1⟩ := HI.out.at_ hy
            have u1 := below_cell (hb0to hb.out hbq.out) t1
            obtain ⟨yn, rfl⟩ := Int.eq_ofNat_of_zero_le (HIN.out y (List.mem_of_getElem? hy)).1
            have hyn : yn < 4 := by have := (HIN.out _ (List.mem_of_getElem? hy)).2; omega
            obtain ⟨k0, k1, k2⟩ := hM.cells
            have k3 := hM.fz 1
            have HT := Lib.hid (show x.bar.take (j + 1) = x.bar.take j ++ [(yn : Int)] from (take_snoc_next hy).symm)
            have HSH := Lib.hid (one_shl yn (by omega))
            have HOR := Lib.hid (or_bits m hm.out.lt (1 <<< yn) (shl_lt yn hyn))
            have HMX := Lib.hid hM
            clear t1 hy hM
            go_wp2_with (fail)
            go_region
            all_goals
              go_wp2_with (fail)
              go_roundw
              case rel => exact ⟨j + 1, by omega, by go_num, ⟨m ||| (1 <<< yn), (by have := HMX.out.set (m ||| (1 <<< yn)); rw [← HOR.out, ← HSH.out] at this; exact this), Lib.hid (by rw [HT.out]; exact hm.out.snoc hyn)⟩, Lib.hid (Below.drew (hbq.out.setCell (by show wo.heap.size ≤ wo.heap.size + 1; omega) _))⟩
              case measure => simp [intOf]; omega
          · obtain rfl : j = x.bar.length := by omega
            have hm2 := hm.out
            rw [List.take_length] at hm2
            have HMM := Lib.hid hm2
            obtain ⟨k0, k1, k2⟩ := hM.cells
            have HOq := Lib.hid (HO.out.of (hbq.out.block _ hobl))
            obtain ⟨_, _, _, _, _, _, _, _, o8, _⟩ := HOq.out.cells
            have hLq := HL.out.below_ hbq.out (Nat.le_refl _)
            have HLq := Lib.hid hLq
            have o9 := frozen_of_heap HOq.out 8
            clear hm2 hm hLq hM
            go_wp2_with (fail)
            have HLA := Lib.hid (HLq.out.below_ (rows_below1 wr (.cells #[.int .i64 x.who, .int .i64 (m : Int), .int .i64 x.pay] 102)) (Nat.le_refl _))
            have hll : ls.length ≤ 1000 := by have := hls.out.len; rw [List.length_take] at this; omega
            have hwz : w2.heap.size + 1 ≤ wr.heap.size := by have := hbq.out.size; omega
            have hne2 : ¬ w2.heap.size = wr.heap.size := by omega
            have hlt2 : w2.heap.size < wr.heap.size := by omega
            go_region_law (refine step_appL rfl (.tmp 59) (.tmp 61) (by rfl) (w2.heap.size + 1) v ls (by rfl) HLA.out wr.heap.size 1 (x.who, m, x.pay) (by rfl) (by simp [go_sem]) (by simp [go_sem]) (by simp [go_sem]) hll (by simp; omega) ?_; intro v' w' hown' hb'; obtain ⟨A9, c9, rfl⟩ := hown'.slice; have hO' : OBox w' w2.heap.size ⟨L, Ap, cp, some ⟨bk, ok, none⟩, cq⟩ f v u := HOq.out.of ((hb'.block _ (Nat.lt_succ_self _)).trans (Below.heap_alloc _ _ _ HOq.out.lt)); have p8 := hO'.cells.2.2.2.2.2.2.2.2.1; have p9 := frozen_of_heap hO' 8)
            all_goals
              have hTK := (take_snoc_next HX.out).symm
              have hown2 : OwnsL w' (w2.heap.size + 1) (.slice A9 (ls.length + 1) c9) (ls ++ [(x.who, m, x.pay)]) := by have h := hown'; rw [List.length_append] at h; exact h
              go_wp2_with (fail)
              go_roundw
              case rel => exact ⟨k + 1, by omega, by go_num, ⟨_, _, hO'.set8 _, hown2.set_other (Nat.lt_succ_self _), Lib.hid (by rw [hTK]; exact hls.out.snoc HMM.out)⟩, Lib.hid (((hb0to (hb0to hb.out hbq.out) (rows_below1 wr (.cells #[.int .i64 x.who, .int .i64 (m : Int), .int .i64 x.pay] 102))).trans (hb'.mono (by omega))).setCell (by show W0.heap.size ≤ w2.heap.size; omega) _)⟩
              case measure => simp [intOf]; omega
      · obtain rfl : k = f.q.length := by omega
        have hls2 := hls.out
        rw [List.take_length] at hls2
        obtain ⟨A, c, rfl, hAt, hge⟩ := hL.lay hls2
        have HGE := Lib.hid hge
        have HAT := Lib.hid hAt
        have HOO := Lib.hid hO
        clear hls hls2 hAt hL hO hge
        go_wp2_with (fail)
        go_ret2
        exact ⟨⟨w2.heap.size, rfl, Nat.le_trans HBW.out.size hbo1, ⟨⟨A, c, u, HOO.out, HAT.out, ready_mask HFO.out.p HU.out⟩, fun A' c' u' hO' g eg => by have e := HOO.out.uniq hO'; cases e; have := HGE.out g eg; omega⟩⟩, hb0to HBW.out hb.out⟩

end Go.Proofs.Ytmconopnplgcfaa
