import Derived.Test.YtmconopnplgcfaaRS
namespace Go.Proofs.Ytmconopnplgcfaa
open Go.RowKit

/-! OnDay 28. -/
/-- A copy: what a function that copies returns. -/
def CopRet (f : Fair) (n : Nat) (w' : World) (e : Ending) : Prop := ∃ F', e = .returned (F'.enc f) ∧ CopF w' n F' f ∧ OwnsQ InnOwn w' n (.slice F'.Aq f.q.length F'.cq) f.q
theorem CopRet.fair {f : Fair} {n : Nat} {w' : World} {F' : FL} (h : CopF w' n F' f) (hq : OwnsQ InnOwn w' n (.slice F'.Aq f.q.length F'.cq) f.q) : FairAt w' w'.heap.size F' f ∧ FLOK F' f := by
  obtain ⟨A, c, e, h1, h2, h3⟩ := hq.layO
  injection e with e1 e2 e3
  have hp := ints_at h.p
  refine ⟨⟨h.h.house, hp.1.at_, ?_⟩, ⟨h.h.ok, hp.2.1, ?_⟩⟩
  · rw [e1]; exact h2
  · rw [e1, e3]; exact h1
def dayF (f : Fair) (d : Int) : Fair := { f with day := d }
set_option maxRecDepth 100000 in
set_option maxHeartbeats 4000000 in
theorem onDay_any (F : FL) (f : Fair) (hn : FN f) (hok : FLOK F f) (d : Int) (w : World) (hF : FairAt w w.heap.size F f) :
    Calls Try.prog 28 #[F.enc f, .int .i64 d] w fun e w' => CopRet (dayF f d) w.heap.size w' e ∧ Below w.heap.size w w' := by
  obtain ⟨W0, hW0⟩ : ∃ W0, (w.alloc (.cells #[.slice F.L.Ak f.h.ks.length F.L.ck, .int .i64 f.h.fl, .slice F.L.Ap f.h.ps.length F.L.cp, .slice F.L.Ab f.h.bs.length F.L.cb, .slice F.Ap f.pk.length F.cp, .int .i64 f.day, .int .i64 f.nb, .slice F.Aq f.q.length F.cq] 29)).alloc (.cells #[.slice none 0 0, .int .i64 0, .slice none 0 0, .slice none 0 0, .slice none 0 0, .int .i64 0, .int .i64 0, .slice none 0 0] 29) = W0 := ⟨_, rfl⟩
  have hb0 : Below w.heap.size w W0 := by rw [← hW0]; exact hb0to (al_below _ _) (al_below _ _)
  have hx0 : FBox W0 w.heap.size F f := (FBox.new w F f).of (by rw [← hW0]; exact Below.heap_alloc _ _ _ (by simp))
  have hr0 : W0.heap[w.heap.size + 1]? = some (.cells #[.slice none 0 0, .int .i64 0, .slice none 0 0, .slice none 0 0, .slice none 0 0, .int .i64 0, .int .i64 0, .slice none 0 0] 29) := by rw [← hW0]; exact heap_new2 _ _ _
  have hs0 : w.heap.size + 2 ≤ W0.heap.size := heap_lt hr0
  have HW0 := Lib.hid hW0
  have HBW := Lib.hid hb0
  have HB := Lib.hid hx0
  have HR := Lib.hid hr0
  have HN := Lib.hid hn
  have HF := Lib.hid (hF.below hb0)
  have HC := Lib.hid (copy_line F f hn hok W0 HF.out)
  obtain ⟨c0, c1, c2, c3, c4, c5, c6, c7⟩ := hx0.cells
  clear hW0 hb0 hx0 hr0 hn hok hF
  obtain ⟨L, Ap, cp, Aq, cq⟩ := F
  go_enter Try.func28, Try.ntmps28
  go_upto_region 1 with (fail)
  have e := HW0.out
  rw [e]
  clear e
  go_wp2_with (go_at_call 33; refine HC.out.mono ?_; rintro e w1 ⟨⟨⟨L', A', c', A9, c9⟩, rfl, hcf, hq⟩, hb1⟩; have B1 := Lib.hid hb1; have HCF := Lib.hid hcf; have HQ := Lib.hid hq; have hr := (hb1.block _ (heap_lt HR.out)).trans HR.out; have HRr := Lib.hid hr; have r0 := cell_of_heap (o := 0) hr rfl; have r1 := cell_of_heap (o := 1) hr rfl; have r2 := cell_of_heap (o := 2) hr rfl; have r3 := cell_of_heap (o := 3) hr rfl; have r4 := cell_of_heap (o := 4) hr rfl; have r5 := cell_of_heap (o := 5) hr rfl; have r6 := cell_of_heap (o := 6) hr rfl; have r7 := cell_of_heap (o := 7) hr rfl; have rf := frozen_of_heap hr; have s1 := B1.out.size; have n0 : ¬ w1.heap.size = w.heap.size + 1 := (by omega); have n1 : ¬ w.heap.size + 1 = w1.heap.size := (by omega); have n2 : w.heap.size + 1 < w1.heap.size := (by omega); clear hcf hq hb1 hr)
  have e := set8_heap HRr.out (.slice L'.Ak f.h.ks.length L'.ck) (.int .i64 f.h.fl) (.slice L'.Ap f.h.ps.length L'.cp) (.slice L'.Ab f.h.bs.length L'.cb) (.slice A' f.pk.length c') (.int .i64 d) (.int .i64 f.nb) (.slice A9 f.q.length c9)
  have e2 := heap_keep (o' := .cells #[.slice L'.Ak f.h.ks.length L'.ck, .int .i64 f.h.fl, .slice L'.Ap f.h.ps.length L'.cp, .slice L'.Ab f.h.bs.length L'.cb, .slice A' f.pk.length c', .int .i64 d, .int .i64 f.nb, .slice A9 f.q.length c9] 29) e
  have hs1 := HBW.out.size
  refine bodyPost_ret (results_cell rfl rfl (load29 (cell_of_heap (o := 0) e2 rfl) (cell_of_heap (o := 1) e2 rfl) (cell_of_heap (o := 2) e2 rfl) (cell_of_heap (o := 3) e2 rfl) (cell_of_heap (o := 4) e2 rfl) (cell_of_heap (o := 5) e2 rfl) (cell_of_heap (o := 6) e2 rfl) (cell_of_heap (o := 7) e2 rfl))) rfl ⟨⟨⟨L', A', c', A9, c9⟩, rfl, ?_, ?_⟩, ?_⟩
  · exact ((CopF.mono (show CopF w1 W0.heap.size ⟨L', A', c', A9, c9⟩ (dayF f d) from ⟨HCF.out.h, HCF.out.p⟩) hs1).keepT (keepT_set8 HRr.out (by decide) _ _ _ _ _ _ _ _) (keepT_set8 HRr.out (by decide) _ _ _ _ _ _ _ _) (keepT_set8 HRr.out (by decide) _ _ _ _ _ _ _ _)).below (al_below _ _)
  · exact ((OwnsQ.mono HQ.out hs1).keepO (keepT_set8 HRr.out (by decide) _ _ _ _ _ _ _ _) (keepT_set8 HRr.out (by decide) _ _ _ _ _ _ _ _)).belowO (al_below _ _)
  · exact hb0to (below_set8 (hb0to HBW.out B1.out) (by omega) _ _ _ _ _ _ _ _) (al_below _ _)

end Go.Proofs.Ytmconopnplgcfaa
namespace Go.Proofs.Ytmconopnplgcfaa
open Go.RowKit

/-! Offered 22. -/
theorem rowCells_set : ∀ (l : List (Bid × Value)) (i : Nat) (r : Bid × Value), i < l.length → rowCells (l.set i r) = (((rowCells l).set (i * 3) (.int .i64 r.1.who)).set (i * 3 + 1) r.2).set (i * 3 + 2) (.int .i64 r.1.pay)
  | [], i, r, h => by simp at h
  | y :: ys, 0, r, h => by simp [rowCells]
  | y :: ys, i + 1, r, h => by
    have e : (i + 1) * 3 = i * 3 + 1 + 1 + 1 := by omega
    have := rowCells_set ys i r (by simpa using h)
    rw [e]
    simp only [List.set_cons_succ, rowCells, this]
theorem OwnsQ.setPay {W : World} {n g c : Nat} {q : List Bid} {i : Nat} {x : Bid} (h : OwnsQ InnOwn W n (.slice (some ⟨g, 0, none⟩) q.length c) q) (hx : q[i]? = some x) (p : Int) {u : Value} (hu : W.cell? ⟨g, i * 3 + 1, none⟩ = some u) :
    OwnsQ InnOwn (((W.setCell ⟨g, i * 3, none⟩ (.int .i64 x.who)).setCell ⟨g, i * 3 + 1, none⟩ u).setCell ⟨g, i * 3 + 2, none⟩ (.int .i64 p)) n (.slice (some ⟨g, 0, none⟩) q.length c) (q.set i { x with pay := p }) := by
  obtain ⟨rows, rfl, h1, h2⟩ := h
  rw [List.length_map] at h1 ⊢
  obtain ⟨hl, hd⟩ := h1
  rw [List.getElem?_map] at hx
  obtain ⟨r, hr, rfl⟩ := Option.map_eq_some_iff.1 hx
  have hil := (List.getElem?_eq_some_iff.1 hr).1
  have hru : r.2 = u := by
    have c2 := World.ownsRow.cells (w := W) (base := n) (e := 38) (size := 3) (n := rows.length) ⟨hl, hd⟩ (g := g) rfl _ _ (rowCells_at rows i _ hr).2.1
    rw [addr_add, Nat.zero_add, hu] at c2
    exact (Option.some.inj c2).symm
  have hg : ∃ cur, W.heap[g]? = some (.cells cur 38 (0, 0)) ∧ n ≤ g ∧ rows.length ≤ c ∧ c ≤ maxLen ∧ cur.size = c * 3 ∧ cur.toList.take (rows.length * 3) = rowCells rows := by
    rcases hd with ⟨e, _⟩ | ⟨g', cap, cur, e, k1, k2, k3, k4, k5, k6⟩
    · cases e
    · cases e; exact ⟨cur, k2, k1, k3, k4, k5, k6⟩
  obtain ⟨cur, k2, k1, k3, k4, k5, k6⟩ := hg
  have s1 := heap_set (.int .i64 r.1.who) (o := i * 3) k2
  have s2 := heap_set u (o := i * 3 + 1) s1
  have s3 := heap_set (.int .i64 p) (o := i * 3 + 2) s2
  refine ⟨rows.set i ({ r.1 with pay := p }, u), by rw [List.map_set], ⟨?_, ?_⟩, fun r' hr' => ?_⟩
  · rw [List.length_set, rowCells_set _ _ _ hil]; simpa using hl
  · rw [List.length_set]
    refine .inr ⟨g, c, _, rfl, k1, s3, k3, k4, by simpa using k5, ?_⟩
    rw [rowCells_set _ _ _ hil, ← k6]
    simp only [Array.toList_setIfInBounds, List.take_set]
  · have hk : KeepT 3 W (((W.setCell ⟨g, i * 3, none⟩ (.int .i64 r.1.who)).setCell ⟨g, i * 3 + 1, none⟩ u).setCell ⟨g, i * 3 + 2, none⟩ (.int .i64 p)) := ((KeepT.set k2 (by decide)).trans (KeepT.set s1 (by decide))).trans (KeepT.set s2 (by decide))
    rcases List.mem_or_eq_of_mem_set hr' with hm | rfl
    · exact Ints.keepT (h2 r' hm) hk
    · have := h2 r (List.mem_of_getElem? hr)
      rw [hru] at this
      exact Ints.keepT this hk
theorem OwnsQ.at_ {W : World} {n c : Nat} {A : Option Addr} {q : List Bid} {i : Nat} {x : Bid} (h : OwnsQ InnOwn W n (.slice A q.length c) q) (hx : q[i]? = some x) :
    ∃ g A' c', A = some ⟨g, 0, none⟩ ∧ g < W.heap.size ∧ n ≤ g ∧ W.cell? ⟨g, i * 3, none⟩ = some (.int .i64 x.who) ∧ W.cell? ⟨g, i * 3 + 1, none⟩ = some (.slice A' x.bar.length c') ∧ W.cell? ⟨g, i * 3 + 2, none⟩ = some (.int .i64 x.pay) ∧ ∃ cur, W.heap[g]? = some (.cells cur 38 (0, 0)) := by
  obtain ⟨A8, c8, eA, -, hBA, hlo⟩ := h.layO
  injection eA with e1 e2 e3
  subst e1
  obtain ⟨rows, e, h1, _⟩ := h
  rcases h1.2 with ⟨e0, h0⟩ | ⟨g, cap, cur, e0, k1, k2, _⟩
  · have : rows = [] := List.length_eq_zero_iff.1 h0
    subst this
    simp at e
    subst e
    simp at hx
  · injection e0 with j1 j2 j3
    subst j1
    obtain ⟨bk, ok, A', c', eB, hbk, x1, x2, x3, _, _⟩ := hBA.at_ hx
    injection eB with eB
    injection eB with q1 q2 q3
    subst q1 q2
    rw [Nat.zero_add] at x1 x2 x3
    exact ⟨_, A', c', rfl, hbk, k1, x1, x2, x3, cur, k2⟩
def offerF (f : Fair) (i : Nat) (p : Int) : Fair := { f with q := offerQ f.q i p }
theorem enc_offer (F : FL) (f : Fair) (i : Nat) (p : Int) (h : (offerQ f.q i p).length = f.q.length) : F.enc (offerF f i p) = F.enc f := by
  have e : (offerF f i p).q.length = f.q.length := h
  show Value.agg _ = Value.agg _
  rw [e]
  rfl
set_option maxRecDepth 100000 in
set_option maxHeartbeats 4000000 in
theorem offered_any (F : FL) (f : Fair) (hn : FN f) (hok : FLOK F f) (i : Nat) (p : Int) (hi : i < f.q.length) (w : World) (hF : FairAt w w.heap.size F f) :
    Calls Try.prog 22 #[F.enc f, .int .i64 i, .int .i64 p] w fun e w' => CopRet (offerF f i p) w.heap.size w' e ∧ Below w.heap.size w w' := by
  obtain ⟨x, hx⟩ : ∃ x, f.q[i]? = some x := ⟨_, List.getElem?_eq_getElem hi⟩
  have hq1000 := hn.q
  have HXQ := Lib.hid hx
  obtain ⟨W0, hW0⟩ : ∃ W0, (w.alloc (.cells #[.slice F.L.Ak f.h.ks.length F.L.ck, .int .i64 f.h.fl, .slice F.L.Ap f.h.ps.length F.L.cp, .slice F.L.Ab f.h.bs.length F.L.cb, .slice F.Ap f.pk.length F.cp, .int .i64 f.day, .int .i64 f.nb, .slice F.Aq f.q.length F.cq] 29)).alloc (.cells #[.slice none 0 0, .int .i64 0, .slice none 0 0, .slice none 0 0, .slice none 0 0, .int .i64 0, .int .i64 0, .slice none 0 0] 29) = W0 := ⟨_, rfl⟩
  have hb0 : Below w.heap.size w W0 := by rw [← hW0]; exact hb0to (al_below _ _) (al_below _ _)
  have hx0 : FBox W0 w.heap.size F f := (FBox.new w F f).of (by rw [← hW0]; exact Below.heap_alloc _ _ _ (by simp))
  have hr0 : W0.heap[w.heap.size + 1]? = some (.cells #[.slice none 0 0, .int .i64 0, .slice none 0 0, .slice none 0 0, .slice none 0 0, .int .i64 0, .int .i64 0, .slice none 0 0] 29) := by rw [← hW0]; exact heap_new2 _ _ _
  have hs0 : w.heap.size + 2 ≤ W0.heap.size := heap_lt hr0
  have HW0 := Lib.hid hW0
  have HBW := Lib.hid hb0
  have HB := Lib.hid hx0
  have HR := Lib.hid hr0
  have HN := Lib.hid hn
  have HF := Lib.hid (hF.below hb0)
  have HC := Lib.hid (copy_line F f hn hok W0 HF.out)
  obtain ⟨c0, c1, c2, c3, c4, c5, c6, c7⟩ := hx0.cells
  clear hW0 hb0 hx0 hr0 hn hok hF
  obtain ⟨L, Ap, cp, Aq, cq⟩ := F
  clear hx
  go_enter Try.func22, Try.ntmps22
  go_upto_region 1 with (fail)
  have e := HW0.out
  rw [e]
  clear e
  go_upto_region 5 with (go_at_call 33; refine HC.out.mono ?_; rintro e w1 ⟨⟨⟨L', A', c', A9, c9⟩, rfl, hcf, hq⟩, hb1⟩; have B1 := Lib.hid hb1; have HCF := Lib.hid hcf; have HQ := Lib.hid hq; have hr := (hb1.block _ (heap_lt HR.out)).trans HR.out; have HRr := Lib.hid hr; have r0 := cell_of_heap (o := 0) hr rfl; have r1 := cell_of_heap (o := 1) hr rfl; have r2 := cell_of_heap (o := 2) hr rfl; have r3 := cell_of_heap (o := 3) hr rfl; have r4 := cell_of_heap (o := 4) hr rfl; have r5 := cell_of_heap (o := 5) hr rfl; have r6 := cell_of_heap (o := 6) hr rfl; have r7 := cell_of_heap (o := 7) hr rfl; have rf := frozen_of_heap hr; have s1 := B1.out.size; have n0 : ¬ w1.heap.size = w.heap.size + 1 := (by omega); have n1 : ¬ w.heap.size + 1 = w1.heap.size := (by omega); have n2 : w.heap.size + 1 < w1.heap.size := (by omega); obtain ⟨bk, A2, c2', eA, hbk, hnk, x1, x2, x3, cur, hcur⟩ := hq.at_ HXQ.out; subst eA; have X2 := Lib.hid x2; have KC := Lib.hid hcur; have bf := frozen_of_heap hcur; have m0 : ¬ bk = w1.heap.size := (by omega); have m1 : ¬ w1.heap.size = bk := (by omega); have m2 : ¬ bk = w1.heap.size + 1 := (by omega); have m3 : ¬ w1.heap.size + 1 = bk := (by omega); have m4 : ¬ bk = w.heap.size + 1 := (by omega); have m5 : ¬ w.heap.size + 1 = bk := (by omega); have m6 : bk < w1.heap.size := (by omega); clear hcf hq hb1 hr hcur)
  obtain ⟨Ws, hWs⟩ : ∃ Ws, ((w1.setCell ⟨bk, i * 3, none⟩ (.int .i64 x.who)).setCell ⟨bk, i * 3 + 1, none⟩ (.slice A2 x.bar.length c2')).setCell ⟨bk, i * 3 + 2, none⟩ (.int .i64 p) = Ws := ⟨_, rfl⟩
  have hsz : Ws.heap.size = w1.heap.size := by rw [← hWs]; simp only [World.size_setCell]
  have hq5 := OwnsQ.setPay HQ.out HXQ.out p X2.out
  have s1 := heap_set (.int .i64 x.who) (o := i * 3) KC.out
  have s2 := heap_set (.slice A2 x.bar.length c2') (o := i * 3 + 1) s1
  have hk : ∀ t, (38 : TypeId) ≠ t → KeepT t w1 Ws := fun t ht => by rw [← hWs]; exact ((KeepT.set KC.out ht).trans (KeepT.set s1 ht)).trans (KeepT.set s2 ht)
  have hbs : Below W0.heap.size W0 Ws := by rw [← hWs]; exact ((B1.out.setCell (p := ⟨bk, i * 3, none⟩) hnk _).setCell (p := ⟨bk, i * 3 + 1, none⟩) hnk _).setCell (p := ⟨bk, i * 3 + 2, none⟩) hnk _
  rw [hWs] at hq5 ⊢
  rw [← hsz]
  obtain ⟨W5, hW5⟩ : ∃ W5, (Ws.alloc (.cells #[.slice L'.Ak f.h.ks.length L'.ck, .int .i64 f.h.fl, .slice L'.Ap f.h.ps.length L'.cp, .slice L'.Ab f.h.bs.length L'.cb, .slice A' f.pk.length c', .int .i64 f.day, .int .i64 f.nb, .slice (some ⟨bk, 0, none⟩) f.q.length c9] 29)).alloc (.cells #[.int .i64 x.who, .slice A2 x.bar.length c2', .int .i64 p] 38) = W5 := ⟨_, rfl⟩
  have h7 : W5.heap[Ws.heap.size]? = some (.cells #[.slice L'.Ak f.h.ks.length L'.ck, .int .i64 f.h.fl, .slice L'.Ap f.h.ps.length L'.cp, .slice L'.Ab f.h.bs.length L'.cb, .slice A' f.pk.length c', .int .i64 f.day, .int .i64 f.nb, .slice (some ⟨bk, 0, none⟩) f.q.length c9] 29 (0, 0)) := by rw [← hW5]; exact heap_keep (heap_new1 Ws _)
  have hb5 : Below Ws.heap.size Ws W5 := by rw [← hW5]; exact hb0to (al_below _ _) (al_below _ _)
  have hr5 := zkeep hb5 (hk 29 (by decide) _ _ HRr.out)
  rw [hW5]
  have HR5 := Lib.hid hr5
  have HCF5 := Lib.hid ((CopF.keepT HCF.out (hk 97 (by decide)) (hk 99 (by decide)) (hk 3 (by decide))).below hb5)
  have HQ5 := Lib.hid (hq5.belowO hb5)
  have HB5 := Lib.hid (hb0to hbs hb5)
  have z0 := cell_of_heap (o := 0) h7 rfl; have r0 := cell_of_heap (o := 0) hr5 rfl; have z1 := cell_of_heap (o := 1) h7 rfl; have r1 := cell_of_heap (o := 1) hr5 rfl; have z2 := cell_of_heap (o := 2) h7 rfl; have r2 := cell_of_heap (o := 2) hr5 rfl; have z3 := cell_of_heap (o := 3) h7 rfl; have r3 := cell_of_heap (o := 3) hr5 rfl; have z4 := cell_of_heap (o := 4) h7 rfl; have r4 := cell_of_heap (o := 4) hr5 rfl; have z5 := cell_of_heap (o := 5) h7 rfl; have r5 := cell_of_heap (o := 5) hr5 rfl; have z6 := cell_of_heap (o := 6) h7 rfl; have r6 := cell_of_heap (o := 6) hr5 rfl; have z7 := cell_of_heap (o := 7) h7 rfl; have r7 := cell_of_heap (o := 7) hr5 rfl
  have rf := frozen_of_heap hr5
  have hs1 := HBW.out.size
  have y1 : ¬ Ws.heap.size = w.heap.size + 1 := by omega
  have y2 : ¬ w.heap.size + 1 = Ws.heap.size := by omega
  clear hWs hsz hq5 s1 s2 hk hbs hW5 h7 hb5 hr5 x1 x2 x3 bf m0 m1 m2 m3 m4 m5 m6 n0 n1 n2
  go_wp2_with (fail)
  have e := set8_heap HR5.out (.slice L'.Ak f.h.ks.length L'.ck) (.int .i64 f.h.fl) (.slice L'.Ap f.h.ps.length L'.cp) (.slice L'.Ab f.h.bs.length L'.cb) (.slice A' f.pk.length c') (.int .i64 f.day) (.int .i64 f.nb) (.slice (some ⟨bk, 0, none⟩) f.q.length c9)
  have el : (offerQ f.q i p).length = f.q.length := by rw [offer_eq HXQ.out, List.length_set]
  refine bodyPost_ret (results_cell rfl rfl (load29 (cell_of_heap (o := 0) e rfl) (cell_of_heap (o := 1) e rfl) (cell_of_heap (o := 2) e rfl) (cell_of_heap (o := 3) e rfl) (cell_of_heap (o := 4) e rfl) (cell_of_heap (o := 5) e rfl) (cell_of_heap (o := 6) e rfl) (cell_of_heap (o := 7) e rfl))) rfl ⟨⟨⟨L', A', c', some ⟨bk, 0, none⟩, c9⟩, ?_, ?_, ?_⟩, ?_⟩
  · exact congrArg Ending.returned (enc_offer ⟨L', A', c', some ⟨bk, 0, none⟩, c9⟩ f i p el).symm
  · exact (CopF.mono (show CopF W5 W0.heap.size ⟨L', A', c', some ⟨bk, 0, none⟩, c9⟩ (offerF f i p) from ⟨HCF5.out.h, HCF5.out.p⟩) hs1).keepT (keepT_set8 HR5.out (by decide) _ _ _ _ _ _ _ _) (keepT_set8 HR5.out (by decide) _ _ _ _ _ _ _ _) (keepT_set8 HR5.out (by decide) _ _ _ _ _ _ _ _)
  · have h := (OwnsQ.mono HQ5.out hs1).keepO (keepT_set8 HR5.out (by decide) (.slice L'.Ak f.h.ks.length L'.ck) (.int .i64 f.h.fl) (.slice L'.Ap f.h.ps.length L'.cp) (.slice L'.Ab f.h.bs.length L'.cb) (.slice A' f.pk.length c') (.int .i64 f.day) (.int .i64 f.nb) (.slice (some ⟨bk, 0, none⟩) f.q.length c9)) (keepT_set8 HR5.out (by decide) (.slice L'.Ak f.h.ks.length L'.ck) (.int .i64 f.h.fl) (.slice L'.Ap f.h.ps.length L'.cp) (.slice L'.Ab f.h.bs.length L'.cb) (.slice A' f.pk.length c') (.int .i64 f.day) (.int .i64 f.nb) (.slice (some ⟨bk, 0, none⟩) f.q.length c9))
    show OwnsQ InnOwn _ w.heap.size (.slice _ (offerQ f.q i p).length _) (offerQ f.q i p)
    rw [el, offer_eq HXQ.out]
    exact h
  · exact below_set8 (hb0to HBW.out HB5.out) (by omega) _ _ _ _ _ _ _ _

end Go.Proofs.Ytmconopnplgcfaa
