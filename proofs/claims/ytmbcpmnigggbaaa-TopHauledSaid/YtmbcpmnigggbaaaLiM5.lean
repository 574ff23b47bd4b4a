import Derived.Test.YtmbcpmnigggbaaaLiE3
namespace Go.Proofs.Ytmbcpmnigggbaaa.Li
open Go.RowKit

/-! Copies of a sea. -/
theorem info23 : (Try.prog.info? 35).map (fun i => (i.zero, i.size, i.bytes)) = some (some (.agg #[.int .i64 0, .int .i64 0]), 2, 16) := by kernel_rfl
theorem info55 : (Try.prog.info? 66).map (fun i => (i.zero, i.size, i.bytes)) = some (some (.agg #[.int .i64 0, .int .i64 0]), 2, 16) := by kernel_rfl
/-- 'append(out, xs...)' of pairs, at a step of a region that draws its order. -/
theorem step_copyP2 {ops : Array Oper} {o : Oper} {a : Act} {w : World} {K : Act → World → Prop} {Q : Exit → Act → World → Prop} {E : Prop} (hgd : o.guard = none) (s x : Operand) (st et : TypeId) {it : TypeInfo}
    (hst : Try.prog.underlying st = some (.slice et)) (hi : Try.prog.info? et = some it) (hz0 : it.zero = some (.agg #[.int .i64 0, .int .i64 0])) (hz1 : it.size = 2) (hz2 : it.bytes = 16)
    (ho : o.op = .call { callee := .builtin .append, args := #[s, x], argTypes := #[st, st] }) (n₀ : Nat) (v : Value) (l0 : List (Int × Int)) (hs : a.eval s = v) (hown : OwnsP w et n₀ v l0)
    (A : Option Addr) (c m : Nat) (ns : List (Int × Int)) (hm : ns.length = m) (hA : A = none → c = 0 ∧ ns = []) (hx : a.eval x = .slice A m c) (hN : PairsAt w w.heap.size A ns) (hl0 : l0.length ≤ 1000) (hl : ns.length ≤ 1000) (hn : n₀ ≤ w.heap.size)
    (h : ∀ v' w', OwnsP w' et n₀ v' (l0 ++ ns) → Below n₀ w w' → w.grownBy w' v.ownBlock → K (a.put o.dst v') w') :
    if Region.wanted o (yielded ops a.tmps) = true then Oper.wp Try.prog o a w K Q else E := by
  subst hm
  have hw : Region.wanted o (yielded ops a.tmps) = true := by simp [Region.wanted, hgd]
  rw [if_pos hw]
  cases A with
  | none =>
    obtain ⟨rfl, rfl⟩ := hA rfl
    have hrun := run_append_owned_none (P := Try.prog) (w := w) n₀ st o.type et it 2 hst hi v l0.length _ hown
    have hk := h v w (by rw [List.append_nil]; exact hown) (Below.refl _ _) ⟨rfl, rfl, rfl, Nat.le_refl _, fun _ _ _ => rfl⟩
    unfold Oper.wp
    simp [execOp, ho, resolve, invoke, builtin, hs, hx, hrun, Result.andThen]
    exact hk
  | some ad =>
    refine wp_append_own w s x st ho n₀ et it _ 2 16 hst hi hz0 hz1 hz2 rfl (by decide) v l0.length _ hs hown ad ns.length c (pairCells ns) hx (pairCells_len ns) (pairs_news hN) (pairCells_one ns) ?_ ?_ hn ?_
    · unfold maxLen; omega
    · omega
    · intro v' w' h2 h3 _
      refine h v' w' ?_ (own_below hown h3 hn (Nat.le_refl _)) h3
      unfold OwnsP
      rw [List.length_append, pairCells_app]
      exact h2
/-- An empty slice just made. -/
theorem owns0 {X : World} {t g n0 : Nat} (h : X.heap[g]? = some (.cells #[] t (0, 0))) (hn : n0 ≤ g) : OwnsP X t n0 (.slice (some ⟨g, 0, none⟩) 0 0) [] :=
  ⟨rfl, .inr ⟨g, 0, #[], rfl, hn, h, by simp, by simp, by simp, by simp [pairCells]⟩⟩
structure SLOK (L : SL) (s : Sea) : Prop where
  p : L.Ap = none → L.cp = 0 ∧ s.ps = []
  b : L.Ab = none → L.cb = 0 ∧ s.bs = []
/-- The slices of a sea are the call's own. -/
structure Copied (W : World) (n0 : Nat) (L : SL) (s : Sea) : Prop where
  p : OwnsP W 35 n0 (.slice L.Ap s.ps.length L.cp) s.ps
  b : OwnsP W 66 n0 (.slice L.Ab s.bs.length L.cb) s.bs
theorem ownsP_at {W : World} {t : TypeId} {base : Nat} {A : Option Addr} {n c : Nat} {ns : List (Int × Int)} (h : OwnsP W t base (.slice A n c) ns) : PairsAt W W.heap.size A ns ∧ (A = none → c = 0 ∧ ns = []) := by
  obtain ⟨A', c', e, h1, h2⟩ := h.lay
  cases e
  exact ⟨h2, h1⟩
theorem Copied.sea {W : World} {n0 : Nat} {L : SL} {s : Sea} (H : Copied W n0 L s) : SeaAt W W.heap.size L s := ⟨(ownsP_at H.p).1, (ownsP_at H.b).1⟩
theorem Copied.ok {W : World} {n0 : Nat} {L : SL} {s : Sea} (H : Copied W n0 L s) : SLOK L s := ⟨(ownsP_at H.p).2, (ownsP_at H.b).2⟩
theorem Copied.below {W W' : World} {n0 : Nat} {L : SL} {s : Sea} (H : Copied W n0 L s) (hb : Below W.heap.size W W') : Copied W' n0 L s :=
  ⟨H.p.below_ hb (Nat.le_refl _), H.b.below_ hb (Nat.le_refl _)⟩
def CopyRet (s : Sea) (B : Nat) (w' : World) (e : Ending) : Prop := ∃ L, e = .returned (SL.enc L s) ∧ Copied w' B L s
theorem results_cell {P : Program} {fn : Func} {t : Tmp} {ty : TypeId} (h : fn.results = #[.cell t ty]) {tmps : Array Value} {w : World} {v : Value} {p : Addr} (ht : tmps.getD t undef = .pointer (some p))
    (hl : (Instr.loadAt ty (.pointer (some p))).run P w = .ok v w) : (results fn tmps).run P w = .ok v w := by
  have e : (results fn tmps).run P w = (Instr.loadAt ty (tmps.getD t undef)).run P w := by
    have ht' : tmps[t]?.getD undef = .pointer (some p) := by simpa using ht
    rw [ht]
    simp [results, h, ht', Instr.loadAt, Instr.sureAddr, asAddr]
  rw [e, ht]; exact hl
theorem load27 {W : World} {b : Nat} {x y z u : Value} (h0 : W.cell? ⟨b, 0, none⟩ = some x) (h1 : W.cell? ⟨b, 1, none⟩ = some y) (h2 : W.cell? ⟨b, 2, none⟩ = some z) (h3 : W.cell? ⟨b, 3, none⟩ = some u) :
    (Instr.loadAt 44 (.pointer (some ⟨b, 0, none⟩))).run Try.prog W = .ok (.agg #[x, y, z, u]) W := by
  simp [go_sem, Instr.loadAt, Instr.sureAddr, *]
/-- A row of one type is not written where a row of another type grows. -/
theorem owns_keepT {W W' : World} {base e size n g t' : Nat} {v : Value} {xs : List Value} {arr : Array Value} {z : Nat × Nat} (h : W.ownsRow base e size v n xs) (hg : W.grownBy W' (some g)) (hb : W.heap[g]? = some (.cells arr t' z)) (hne : e ≠ t') : W'.ownsRow base e size v n xs := by
  refine ⟨h.1, ?_⟩
  rcases h.2 with h2 | ⟨g', cap, cur, ev, hb2, hg', h4⟩
  · exact .inl h2
  · refine .inr ⟨g', cap, cur, ev, hb2, (hg.block _ (heap_lt hg') fun e' => ?_).trans hg', h4⟩
    cases e'
    rw [hb] at hg'
    cases hg'
    exact hne rfl
theorem keep_made {X W' : World} {g g' n c : Nat} {o : Obj} (hg : X.grownBy W' (Value.slice (some ⟨g', 0, none⟩) n c).ownBlock) (h : X.heap[g]? = some o) (hne : g ≠ g') : W'.heap[g]? = some o :=
  (hg.block _ (heap_lt h) fun e => hne (by cases e; rfl)).trans h
theorem owns_set {W : World} {base e size n b o t' : Nat} {u v : Value} {xs : List Value} {arr : Array Value} {z : Nat × Nat} (h : W.ownsRow base e size v n xs) (he : e ≠ t') (hb : W.heap[b]? = some (.cells arr t' z)) : (W.setCell ⟨b, o, none⟩ u).ownsRow base e size v n xs := by
  refine ⟨h.1, ?_⟩
  rcases h.2 with h2 | ⟨g, cap, cur, e, hb2, hg, h4⟩
  · exact .inl h2
  · refine .inr ⟨g, cap, cur, e, hb2, (set_other_heap (heap_lt hg) fun e' => ?_).trans hg, h4⟩
    subst e'
    rw [hb] at hg
    cases hg
    exact he rfl
/-- A box of a sea that holds nothing yet. -/
def ZBox (W : World) (b : Nat) : Prop := W.heap[b]? = some (.cells #[.int .i64 0, .int .i64 0, .slice none 0 0, .slice none 0 0] 44 (0, 0))
theorem ZBox.cells {W : World} {b : Nat} (h : ZBox W b) : W.cell? ⟨b, 0, none⟩ = some (.int .i64 0) ∧ W.cell? ⟨b, 1, none⟩ = some (.int .i64 0) ∧ W.cell? ⟨b, 2, none⟩ = some (.slice none 0 0) ∧ W.cell? ⟨b, 3, none⟩ = some (.slice none 0 0) := by
  simp [World.cell?, show W.heap[b]? = _ from h]
theorem ZBox.frozen {W : World} {b : Nat} (h : ZBox W b) : ∀ o, W.frozen? ⟨b, o, none⟩ = false := fun o => by simp [World.frozen?, show W.heap[b]? = _ from h]
theorem ZBox.load {W : World} {b : Nat} (hy : ZBox W b) (x y z u : Value) :
    (Instr.loadAt 44 (.pointer (some ⟨b, 0, none⟩))).run Try.prog ((((W.setCell ⟨b, 0, none⟩ x).setCell ⟨b, 1, none⟩ y).setCell ⟨b, 2, none⟩ z).setCell ⟨b, 3, none⟩ u) = .ok (.agg #[x, y, z, u]) ((((W.setCell ⟨b, 0, none⟩ x).setCell ⟨b, 1, none⟩ y).setCell ⟨b, 2, none⟩ z).setCell ⟨b, 3, none⟩ u) := by
  have e := heap_set u (o := 3) (heap_set z (o := 2) (heap_set y (o := 1) (heap_set x (o := 0) hy)))
  refine load27 ?_ ?_ ?_ ?_ <;> simp [World.cell?, e]
theorem ZBox.owns {W : World} {base e size n b : Nat} {v : Value} {xs : List Value} (hb : ZBox W b) (h : W.ownsRow base e size v n xs) (he : e ≠ 44) (x y z u : Value) : ((((W.setCell ⟨b, 0, none⟩ x).setCell ⟨b, 1, none⟩ y).setCell ⟨b, 2, none⟩ z).setCell ⟨b, 3, none⟩ u).ownsRow base e size v n xs :=
  owns_set (owns_set (owns_set (owns_set h he hb) he (heap_set x (o := 0) hb)) he (heap_set y (o := 1) (heap_set x (o := 0) hb))) he (heap_set z (o := 2) (heap_set y (o := 1) (heap_set x (o := 0) hb)))
theorem below_set4 {w W : World} {n b : Nat} (hb : Below n w W) (hn : n ≤ b) (x y z u : Value) : Below n w ((((W.setCell ⟨b, 0, none⟩ x).setCell ⟨b, 1, none⟩ y).setCell ⟨b, 2, none⟩ z).setCell ⟨b, 3, none⟩ u) :=
  (((hb.setCell (p := ⟨b, 0, none⟩) hn x).setCell (p := ⟨b, 1, none⟩) hn y).setCell (p := ⟨b, 2, none⟩) hn z).setCell (p := ⟨b, 3, none⟩) hn u
theorem OwnsP.mono {W : World} {t : TypeId} {base base' : Nat} {v : Value} {l : List (Int × Int)} (h : OwnsP W t base v l) (hb : base' ≤ base) : OwnsP W t base' v l := by
  refine ⟨h.1, ?_⟩
  rcases h.2 with h2 | ⟨g, cap, cur, e, hb2, h4⟩
  · exact .inl h2
  · exact .inr ⟨g, cap, cur, e, Nat.le_trans hb hb2, h4⟩
/-- What Copy's region knows of a world behind an append. -/
structure CpSt (W : World) (b : Nat) (L : SL) (s : Sea) : Prop where
  x : SBox W b L s
  z : ZBox W (b + 1)
  h : SeaAt W W.heap.size L s
theorem CpSt.below {W W' : World} {b : Nat} {L : SL} {s : Sea} (H : CpSt W b L s) (hb : Below W.heap.size W W') : CpSt W' b L s :=
  ⟨H.x.of (hb.block _ H.x.lt), (hb.block _ (heap_lt H.z)).trans H.z, H.h.below hb⟩
set_option maxRecDepth 100000 in
set_option maxHeartbeats 4000000 in
theorem copy_any (L : SL) (s : Sea) (hn : s.ps.length ≤ 1000 ∧ s.bs.length ≤ 1000) (hok : SLOK L s) (w : World) (hH : SeaAt w w.heap.size L s) :
    Calls Try.prog 72 #[L.enc s] w fun e w' => CopyRet s w.heap.size w' e ∧ Below w.heap.size w w' := by
  obtain ⟨ip, hip, p0, p1, p2⟩ := info_parts info23
  obtain ⟨ib, hib, q0, q1, q2⟩ := info_parts info55
  have HI := Lib.hid (And.intro hip (And.intro p0 (And.intro p1 p2)))
  have HJ := Lib.hid (And.intro hib (And.intro q0 (And.intro q1 q2)))
  have HOK := Lib.hid hok
  have HH := Lib.hid hH
  have HN := Lib.hid hn
  clear hip p0 p1 p2 hib q0 q1 q2 hok hH hn
  have HB0 := Lib.hid (hb0to (al_below w (.cells #[.int .i64 s.wl, .int .i64 s.wh, .slice L.Ap s.ps.length L.cp, .slice L.Ab s.bs.length L.cb] 44)) (al_below _ (.cells #[.int .i64 0, .int .i64 0, .slice none 0 0, .slice none 0 0] 44)))
  have HC := Lib.hid (show CpSt ((w.alloc (.cells #[.int .i64 s.wl, .int .i64 s.wh, .slice L.Ap s.ps.length L.cp, .slice L.Ab s.bs.length L.cb] 44)).alloc (.cells #[.int .i64 0, .int .i64 0, .slice none 0 0, .slice none 0 0] 44)) w.heap.size L s from ⟨(SBox.new w L s).of (Below.heap_alloc _ _ _ (by simp)), heap_new2 w _ _, HH.out.below HB0.out⟩)
  obtain ⟨W0, hW0⟩ : ∃ W0, (w.alloc (.cells #[.int .i64 s.wl, .int .i64 s.wh, .slice L.Ap s.ps.length L.cp, .slice L.Ab s.bs.length L.cb] 44)).alloc (.cells #[.int .i64 0, .int .i64 0, .slice none 0 0, .slice none 0 0] 44) = W0 := ⟨_, rfl⟩
  rw [hW0] at HC HB0
  obtain ⟨c0, c1, c2, c3⟩ := HC.out.x.cells
  have HW0 := Lib.hid hW0
  clear hW0
  obtain ⟨Ap, cp, Ab, cb⟩ := L
  go_enter Try.func72, Try.ntmps72
  go_upto_region 1 with (fail)
  have e := HW0.out
  rw [e]
  clear e
  go_region_held3 (fun w' => w'.cell? ⟨w.heap.size, 0, none⟩ = some (.int .i64 s.wl) ∧ w'.cell? ⟨w.heap.size, 1, none⟩ = some (.int .i64 s.wh) ∧ w'.cell? ⟨w.heap.size, 2, none⟩ = some (.slice Ap s.ps.length cp) ∧ w'.cell? ⟨w.heap.size, 3, none⟩ = some (.slice Ab s.bs.length cb)) (first | go_keep)
    (first
      | (refine step_copyP2 (by rfl) (.tmp 5) (.tmp 7) 41 35 Try.underlying41 HI.out.1 HI.out.2.1 HI.out.2.2.1 HI.out.2.2.2 (by rfl) W0.heap.size _ [] (by rfl) (owns0 (X := (W0.alloc (.cells #[] 35)).drew) (g := W0.heap.size) (heap_new1 W0 _) (by omega)) Ap cp s.ps.length s.ps rfl HOK.out.p (by rfl) (HC.out.h.below (al_below W0 (.cells #[] 35)).drew).p (by simp) HN.out.1 (by simp; try omega) ?_; intro v3 w3 hown3 hb3 hg3; have HB3 := Lib.hid ((al_below W0 (.cells #[] 35)).drew.trans hb3); have HC3 := Lib.hid (HC.out.below HB3.out); obtain ⟨A3, c3, rfl, -, -⟩ := hown3.lay; obtain ⟨d0, d1, d2, d3⟩ := HC3.out.x.cells; have HO3 := Lib.hid hown3; clear hown3 hb3 hg3)
      | (refine step_copyP2 (by rfl) (.tmp 5) (.tmp 7) 41 35 Try.underlying41 HI.out.1 HI.out.2.1 HI.out.2.2.1 HI.out.2.2.2 (by rfl) W0.heap.size _ [] (by rfl) (owns0 (X := ((W0.alloc (.cells #[] 35)).alloc (.cells #[] 66)).drew) (g := W0.heap.size) (heap_keep (heap_new1 W0 _)) (by omega)) Ap cp s.ps.length s.ps rfl HOK.out.p (by rfl) (HC.out.h.below (hb0to (al_below W0 (.cells #[] 35)) (al_below _ (.cells #[] 66))).drew).p (by simp) HN.out.1 (by simp; try omega) ?_; intro v3 w3 hown3 hb3 hg3; have HB3 := Lib.hid ((hb0to (al_below W0 (.cells #[] 35)) (al_below _ (.cells #[] 66))).drew.trans hb3); have HC3 := Lib.hid (HC.out.below HB3.out); obtain ⟨A3, c3, rfl, -, -⟩ := hown3.lay; obtain ⟨d0, d1, d2, d3⟩ := HC3.out.x.cells; have HO3 := Lib.hid hown3; have F9 := Lib.hid (show w3.heap[W0.heap.size + 1]? = some (.cells #[] 66 (0, 0)) from keep_made hg3 (heap_new2 W0 (.cells #[] 35) (.cells #[] 66)) (by omega)); clear hown3 hb3 hg3)
      | (refine step_copyP2 (by rfl) (.tmp 5) (.tmp 7) 41 35 Try.underlying41 HI.out.1 HI.out.2.1 HI.out.2.2.1 HI.out.2.2.2 (by rfl) W0.heap.size _ [] (by rfl) (owns0 (X := ((W0.alloc (.cells #[] 66)).alloc (.cells #[] 35)).drew) (g := W0.heap.size + 1) (heap_new2 W0 _ _) (by omega)) Ap cp s.ps.length s.ps rfl HOK.out.p (by rfl) (HC.out.h.below (hb0to (al_below W0 (.cells #[] 66)) (al_below _ (.cells #[] 35))).drew).p (by simp) HN.out.1 (by simp; try omega) ?_; intro v3 w3 hown3 hb3 hg3; have HB3 := Lib.hid ((hb0to (al_below W0 (.cells #[] 66)) (al_below _ (.cells #[] 35))).drew.trans hb3); have HC3 := Lib.hid (HC.out.below HB3.out); obtain ⟨A3, c3, rfl, -, -⟩ := hown3.lay; obtain ⟨d0, d1, d2, d3⟩ := HC3.out.x.cells; have HO3 := Lib.hid hown3; have F8 := Lib.hid (show w3.heap[W0.heap.size]? = some (.cells #[] 66 (0, 0)) from keep_made hg3 (heap_keep (o' := (.cells #[] 35)) (heap_new1 W0 (.cells #[] 66))) (by omega)); clear hown3 hb3 hg3)
      | (refine step_copyP2 (by rfl) (.tmp 9) (.tmp 11) 42 66 Try.underlying42 HJ.out.1 HJ.out.2.1 HJ.out.2.2.1 HJ.out.2.2.2 (by rfl) w3.heap.size _ [] (by rfl) (owns0 (X := w3.alloc (.cells #[] 66)) (g := w3.heap.size) (heap_new1 w3 _) (Nat.le_refl _)) Ab cb s.bs.length s.bs rfl HOK.out.b (by rfl) (HC3.out.h.below (al_below w3 (.cells #[] 66))).b (by simp) HN.out.2 (by simp) ?_; intro v4 w4 hown4 hb4 hg4; have HB4 := Lib.hid (HB3.out.trans (((al_below w3 (.cells #[] 66)).trans hb4).mono HB3.out.size)); have HC4 := Lib.hid (HC.out.below HB4.out); obtain ⟨A4, c4, rfl, -, -⟩ := hown4.lay; obtain ⟨e0, e1, e2, e3⟩ := HC4.out.x.cells; have zz := HC4.out.z.frozen; have zc := HC4.out.z.cells; have HO4 := Lib.hid (hown4.mono (base' := W0.heap.size) (by have := HB3.out.size; omega)); have HO5 := Lib.hid (show OwnsP w4 35 W0.heap.size (.slice A3 s.ps.length c3) s.ps from HO3.out.below_ ((al_below w3 (.cells #[] 66)).trans hb4) (Nat.le_refl _)); clear hown4 hb4 hg4)
      | (refine step_copyP2 (by rfl) (.tmp 9) (.tmp 11) 42 66 Try.underlying42 HJ.out.1 HJ.out.2.1 HJ.out.2.2.1 HJ.out.2.2.2 (by rfl) W0.heap.size _ [] (by rfl) (owns0 (X := w3) (g := W0.heap.size + 1) F9.out (by omega)) Ab cb s.bs.length s.bs rfl HOK.out.b (by rfl) (HC3.out.h.below (Below.refl _ _)).b (by simp) HN.out.2 (by have := HB3.out.size; omega) ?_; intro v4 w4 hown4 hb4 hg4; have HB4 := Lib.hid (HB3.out.trans hb4); have HC4 := Lib.hid (HC.out.below HB4.out); obtain ⟨A4, c4, rfl, -, -⟩ := hown4.lay; obtain ⟨e0, e1, e2, e3⟩ := HC4.out.x.cells; have zz := HC4.out.z.frozen; have zc := HC4.out.z.cells; have HO4 := Lib.hid (hown4.mono (base' := W0.heap.size) (by have := HB3.out.size; omega)); have HO5 := Lib.hid (show OwnsP w4 35 W0.heap.size (.slice A3 s.ps.length c3) s.ps from owns_keepT HO3.out hg4 F9.out (by decide)); clear hown4 hb4 hg4)
      | (refine step_copyP2 (by rfl) (.tmp 9) (.tmp 11) 42 66 Try.underlying42 HJ.out.1 HJ.out.2.1 HJ.out.2.2.1 HJ.out.2.2.2 (by rfl) W0.heap.size _ [] (by rfl) (owns0 (X := w3) (g := W0.heap.size) F8.out (by omega)) Ab cb s.bs.length s.bs rfl HOK.out.b (by rfl) (HC3.out.h.below (Below.refl _ _)).b (by simp) HN.out.2 (by have := HB3.out.size; omega) ?_; intro v4 w4 hown4 hb4 hg4; have HB4 := Lib.hid (HB3.out.trans hb4); have HC4 := Lib.hid (HC.out.below HB4.out); obtain ⟨A4, c4, rfl, -, -⟩ := hown4.lay; obtain ⟨e0, e1, e2, e3⟩ := HC4.out.x.cells; have zz := HC4.out.z.frozen; have zc := HC4.out.z.cells; have HO4 := Lib.hid (hown4.mono (base' := W0.heap.size) (by have := HB3.out.size; omega)); have HO5 := Lib.hid (show OwnsP w4 35 W0.heap.size (.slice A3 s.ps.length c3) s.ps from owns_keepT HO3.out hg4 F8.out (by decide)); clear hown4 hb4 hg4))
  all_goals
    go_wp2
    have hz := HC4.out.z
    refine bodyPost_ret (results_cell rfl rfl (hz.load _ _ _ _)) rfl ⟨⟨⟨A3, c3, A4, c4⟩, rfl, ?_, ?_⟩, ?_⟩
    · exact (show OwnsP _ 35 W0.heap.size _ _ from hz.owns HO5.out (by decide) _ _ _ _).mono HB0.out.size
    · exact (show OwnsP _ 66 W0.heap.size _ _ from hz.owns HO4.out (by decide) _ _ _ _).mono HB0.out.size
    · exact below_set4 (hb0to HB0.out HB4.out) (by omega) _ _ _ _
open Go.RowKit

/-! The chapter's examples. -/
def exS : Sea := ⟨100, 120, [(2, 6), (3, 5), (4, 6)], [(50, 4), (60, 7), (45, 2), (70, 9)]⟩
def exR : Sea := ⟨100, 120, [(2, 6), (3, 5), (4, 6)], [(50, 4), (45, 2)]⟩
theorem pairs_lay {W : World} {g : Nat} {t : TypeId} {ns : List (Int × Int)} (h : W.heap[g]? = some (.cells (pairCells ns).toArray t (0, 0))) : PairsAt W W.heap.size (some ⟨g, 0, none⟩) ns := by
  refine .inr ⟨g, 0, rfl, heap_lt h, fun i x hx => ?_⟩
  obtain ⟨d1, d2⟩ := pairCells_at ns i x hx
  have hk : ∀ j v, (pairCells ns)[j]? = some v → W.cell? ⟨g, j, none⟩ = some v := fun j v hj => by simp [World.cell?, h, hj]
  rw [Nat.zero_add]
  exact ⟨hk _ _ d1, hk _ _ d2⟩
theorem set4_other {W : World} {b k : Nat} (x y z u : Value) (hne : k ≠ b) {o : Obj} (h : W.heap[k]? = some o) : ((((W.setCell ⟨b, 0, none⟩ x).setCell ⟨b, 1, none⟩ y).setCell ⟨b, 2, none⟩ z).setCell ⟨b, 3, none⟩ u).heap[k]? = some o := by
  have st : ∀ {W : World} {o : Obj} {i : Nat} {v : Value}, W.heap[k]? = some o → (W.setCell ⟨b, i, none⟩ v).heap[k]? = some o := fun h => (set_other_heap (heap_lt h) hne).trans h
  exact st (st (st (st h)))
theorem ZBox.put {W : World} {b : Nat} (h : ZBox W b) (x y z u : Value) : ((((W.setCell ⟨b, 0, none⟩ x).setCell ⟨b, 1, none⟩ y).setCell ⟨b, 2, none⟩ z).setCell ⟨b, 3, none⟩ u).heap[b]? = some (.cells #[x, y, z, u] 44 (0, 0)) :=
  heap_set u (o := 3) (heap_set z (o := 2) (heap_set y (o := 1) (heap_set x (o := 0) h)))
theorem four (w : World) (o0 o1 o2 o3 : Obj) : ∃ W, W = (((w.alloc o0).alloc o1).alloc o2).alloc o3 ∧ W.heap[w.heap.size]? = some o0 ∧ W.heap[w.heap.size + 1]? = some o1 ∧ W.heap[w.heap.size + 1 + 1]? = some o2 ∧ W.heap[w.heap.size + 1 + 1 + 1]? = some o3 ∧ Below w.heap.size w W := by
  have a0 := World.alloc_heap_new w o0
  have a1 := World.alloc_heap_new (w.alloc o0) o1
  have a2 := World.alloc_heap_new ((w.alloc o0).alloc o1) o2
  have a3 := World.alloc_heap_new (((w.alloc o0).alloc o1).alloc o2) o3
  have up : ∀ {W : World} {k : Nat} {o o' : Obj}, W.heap[k]? = some o → (W.alloc o').heap[k]? = some o := fun h => (Below.heap_alloc _ _ _ (Array.getElem?_eq_some_iff.1 h).1).trans h
  simp only [World.size_alloc] at a1 a2 a3
  refine ⟨_, rfl, up (up (up a0)), up (up a1), up a2, a3, ?_⟩
  exact (((((Below.refl _ w).alloc (Nat.le_refl _) _).alloc (by simp) _).alloc (by simp; omega) _).alloc (by simp; omega) _)
set_option maxRecDepth 100000 in
set_option maxHeartbeats 4000000 in
theorem example_any (w : World) : Calls Try.prog 70 #[] w fun e w' => ∃ a b c d k, e = .returned (.tuple #[SL.enc ⟨some ⟨a, 0, none⟩, 3, some ⟨b, 0, none⟩, 4⟩ exS, SL.enc ⟨c, k, some ⟨d, 0, none⟩, 2⟩ exR]) ∧
    SeaAt w' w'.heap.size ⟨some ⟨a, 0, none⟩, 3, some ⟨b, 0, none⟩, 4⟩ exS ∧ SeaAt w' w'.heap.size ⟨c, k, some ⟨d, 0, none⟩, 2⟩ exR ∧ Below w.heap.size w w' := by
  go_enter Try.func70, Try.ntmps70
  go_upto_region 2 with (fail)
  obtain ⟨W2, hW2, a0, a1, a2, a3, hb2⟩ := four w (.cells #[.int .i64 100, .int .i64 120, .slice (some ⟨w.heap.size + 1 + 1, 0, none⟩) 3 3, .slice (some ⟨w.heap.size + 1 + 1 + 1, 0, none⟩) 4 4] 44) (.cells #[.int .i64 0, .int .i64 0, .slice none 0 0, .slice none 0 0] 44) (.cells #[.int .i64 2, .int .i64 6, .int .i64 3, .int .i64 5, .int .i64 4, .int .i64 6] 35) (.cells #[.int .i64 50, .int .i64 4, .int .i64 60, .int .i64 7, .int .i64 45, .int .i64 2, .int .i64 70, .int .i64 9] 66)
  rw [← hW2]
  clear hW2
  have hS2 : SeaAt W2 W2.heap.size ⟨some ⟨w.heap.size + 1 + 1, 0, none⟩, 3, some ⟨w.heap.size + 1 + 1 + 1, 0, none⟩, 4⟩ exS := ⟨pairs_lay (ns := exS.ps) a2, pairs_lay (ns := exS.bs) a3⟩
  have hX2 : SBox W2 w.heap.size ⟨some ⟨w.heap.size + 1 + 1, 0, none⟩, 3, some ⟨w.heap.size + 1 + 1 + 1, 0, none⟩, 4⟩ exS := a0
  have HZ2 := Lib.hid (show ZBox W2 (w.heap.size + 1) from a1)
  have HC := Lib.hid (copy_any _ exS (by decide) ⟨(fun h => by cases h), (fun h => by cases h)⟩ W2 hS2)
  obtain ⟨c0, c1, c2, c3⟩ := hX2.cells
  have HS2 := Lib.hid hS2
  have HX2 := Lib.hid hX2
  have HB2 := Lib.hid hb2
  have HA3 := Lib.hid a3
  have HA2 := Lib.hid a2
  clear a0 a1 a2 a3 hb2 hS2 hX2
  go_upto_region 3 with (go_at_call 72; refine HC.out.mono ?_; rintro e w3 ⟨⟨⟨Ap, cp, Ab, cb⟩, rfl, hC⟩, hb3⟩; have HC3 := Lib.hid hC; have HB3 := Lib.hid hb3; have HZ3 := Lib.hid (show ZBox w3 (w.heap.size + 1) from (hb3.block _ (heap_lt HZ2.out)).trans HZ2.out); have zf := HZ3.out.frozen; have zc := HZ3.out.cells; clear hb3 hC)
  have hX4 := set4_other (.int .i64 exS.wl) (.int .i64 exS.wh) (.slice Ap exS.ps.length cp) (.slice Ab exS.bs.length cb) (show w.heap.size ≠ w.heap.size + 1 by omega) ((HB3.out.block _ HX2.out.lt).trans HX2.out)
  have hY4 := HZ3.out.put (.int .i64 exS.wl) (.int .i64 exS.wh) (.slice Ap exS.ps.length cp) (.slice Ab exS.bs.length cb)
  have hA4 := set4_other (.int .i64 exS.wl) (.int .i64 exS.wh) (.slice Ap exS.ps.length cp) (.slice Ab exS.bs.length cb) (show w.heap.size + 1 + 1 + 1 ≠ w.heap.size + 1 by omega) ((HB3.out.block _ (heap_lt HA3.out)).trans HA3.out)
  have hP4 := set4_other (.int .i64 exS.wl) (.int .i64 exS.wh) (.slice Ap exS.ps.length cp) (.slice Ab exS.bs.length cb) (show w.heap.size + 1 + 1 ≠ w.heap.size + 1 by omega) ((HB3.out.block _ (heap_lt HA2.out)).trans HA2.out)
  have hC4 : OwnsP _ 35 W2.heap.size _ _ := HZ3.out.owns HC3.out.p (by decide) (.int .i64 exS.wl) (.int .i64 exS.wh) (.slice Ap exS.ps.length cp) (.slice Ab exS.bs.length cb)
  have hB4 := below_set4 (hb0to HB2.out HB3.out) (show w.heap.size ≤ w.heap.size + 1 by omega) (.int .i64 exS.wl) (.int .i64 exS.wh) (.slice Ap exS.ps.length cp) (.slice Ab exS.bs.length cb)
  clear zf zc c0 c1 c2 c3
  obtain ⟨W4, hW4⟩ : ∃ W4, (((w3.setCell ⟨w.heap.size + 1, 0, none⟩ (.int .i64 exS.wl)).setCell ⟨w.heap.size + 1, 1, none⟩ (.int .i64 exS.wh)).setCell ⟨w.heap.size + 1, 2, none⟩ (.slice Ap exS.ps.length cp)).setCell ⟨w.heap.size + 1, 3, none⟩ (.slice Ab exS.bs.length cb) = W4 := ⟨_, rfl⟩
  rw [hW4] at hX4 hY4 hA4 hP4 hC4 hB4 ⊢
  have c2 : W4.cell? ⟨w.heap.size, 3, none⟩ = some (.slice (some ⟨w.heap.size + 1 + 1 + 1, 0, none⟩) 4 4) := (show SBox W4 w.heap.size _ exS from hX4).cells.2.2.2
  have d0 : W4.cell? ⟨w.heap.size + 1 + 1 + 1, 0, none⟩ = some (.int .i64 50) := cell_of_heap (o := 0) hA4 rfl
  have d1 : W4.cell? ⟨w.heap.size + 1 + 1 + 1, 1, none⟩ = some (.int .i64 4) := cell_of_heap (o := 1) hA4 rfl
  have d4 : W4.cell? ⟨w.heap.size + 1 + 1 + 1, 4, none⟩ = some (.int .i64 45) := cell_of_heap (o := 4) hA4 rfl
  have d5 : W4.cell? ⟨w.heap.size + 1 + 1 + 1, 5, none⟩ = some (.int .i64 2) := cell_of_heap (o := 5) hA4 rfl
  have y3 : W4.cell? ⟨w.heap.size + 1, 3, none⟩ = some (.slice Ab exS.bs.length cb) := cell_of_heap (o := 3) hY4 rfl
  have yf := frozen_of_heap hY4
  have HX4 := Lib.hid hX4
  have HY4 := Lib.hid hY4
  have HA4 := Lib.hid hA4
  have HP4 := Lib.hid hP4
  have HC4 := Lib.hid hC4
  have HB4 := Lib.hid hB4
  have ylt := heap_lt hY4
  clear hW4 hX4 hY4 hA4 hP4 hC4 hB4
  go_region
  go_wp2_with (fail)
  have hX5 : SBox ((W4.setCell ⟨w.heap.size + 1, 3, none⟩ (.slice (some ⟨W4.heap.size, 0, none⟩) 2 2)).alloc (.cells #[.int .i64 50, .int .i64 4, .int .i64 45, .int .i64 2] 66)).drew w.heap.size ⟨some ⟨w.heap.size + 1 + 1, 0, none⟩, 3, some ⟨w.heap.size + 1 + 1 + 1, 0, none⟩, 4⟩ exS :=
    heap_keep ((set_other_heap (heap_lt HX4.out) (by omega)).trans HX4.out)
  have hY5 : SBox ((W4.setCell ⟨w.heap.size + 1, 3, none⟩ (.slice (some ⟨W4.heap.size, 0, none⟩) 2 2)).alloc (.cells #[.int .i64 50, .int .i64 4, .int .i64 45, .int .i64 2] 66)).drew (w.heap.size + 1) ⟨Ap, cp, some ⟨W4.heap.size, 0, none⟩, 2⟩ exR :=
    heap_keep (heap_set (.slice (some ⟨W4.heap.size, 0, none⟩) 2 2) (o := 3) HY4.out)
  have hP5 : ((W4.setCell ⟨w.heap.size + 1, 3, none⟩ (.slice (some ⟨W4.heap.size, 0, none⟩) 2 2)).alloc (.cells #[.int .i64 50, .int .i64 4, .int .i64 45, .int .i64 2] 66)).drew.heap[w.heap.size + 1 + 1]? = _ := heap_keep ((set_other_heap (heap_lt HP4.out) (by omega)).trans HP4.out)
  have hA5 : ((W4.setCell ⟨w.heap.size + 1, 3, none⟩ (.slice (some ⟨W4.heap.size, 0, none⟩) 2 2)).alloc (.cells #[.int .i64 50, .int .i64 4, .int .i64 45, .int .i64 2] 66)).drew.heap[w.heap.size + 1 + 1 + 1]? = _ := heap_keep ((set_other_heap (heap_lt HA4.out) (by omega)).trans HA4.out)
  have hN5 : ((W4.setCell ⟨w.heap.size + 1, 3, none⟩ (.slice (some ⟨W4.heap.size, 0, none⟩) 2 2)).alloc (.cells #[.int .i64 50, .int .i64 4, .int .i64 45, .int .i64 2] 66)).drew.heap[W4.heap.size]? = some (.cells #[.int .i64 50, .int .i64 4, .int .i64 45, .int .i64 2] 66) := by
    have := heap_new1 (W4.setCell ⟨w.heap.size + 1, 3, none⟩ (.slice (some ⟨W4.heap.size, 0, none⟩) 2 2)) (.cells #[.int .i64 50, .int .i64 4, .int .i64 45, .int .i64 2] 66)
    rw [World.size_setCell] at this; exact this
  have hC5 : OwnsP ((W4.setCell ⟨w.heap.size + 1, 3, none⟩ (.slice (some ⟨W4.heap.size, 0, none⟩) 2 2)).alloc (.cells #[.int .i64 50, .int .i64 4, .int .i64 45, .int .i64 2] 66)).drew 35 W2.heap.size (.slice Ap exS.ps.length cp) exS.ps := by
    have h1 : OwnsP (W4.setCell ⟨w.heap.size + 1, 3, none⟩ (.slice (some ⟨W4.heap.size, 0, none⟩) 2 2)) 35 W2.heap.size (.slice Ap exS.ps.length cp) exS.ps := owns_set HC4.out (by decide) HY4.out
    exact h1.below_ (al_below _ _).drew (Nat.le_refl _)
  have hB5 := ((HB4.out.setCell (p := ⟨w.heap.size + 1, 3, none⟩) (by show w.heap.size ≤ w.heap.size + 1; omega) (.slice (some ⟨W4.heap.size, 0, none⟩) 2 2)).alloc (by have := HB4.out.size; simp; omega) (.cells #[.int .i64 50, .int .i64 4, .int .i64 45, .int .i64 2] 66)).drew
  obtain ⟨W5, hW5⟩ : ∃ W5, ((W4.setCell ⟨w.heap.size + 1, 3, none⟩ (.slice (some ⟨W4.heap.size, 0, none⟩) 2 2)).alloc (.cells #[.int .i64 50, .int .i64 4, .int .i64 45, .int .i64 2] 66)).drew = W5 := ⟨_, rfl⟩
  rw [hW5] at hX5 hY5 hP5 hA5 hN5 hC5 hB5 ⊢
  clear hW5 c2 d0 d1 d4 d5 y3 yf ylt
  obtain ⟨c0, c1, c2, c3⟩ := hX5.cells
  obtain ⟨d0, d1, d2, d3⟩ := hY5.cells
  have xf := frozen_of_heap hX5
  have yf := frozen_of_heap hY5
  have HX5 := Lib.hid hX5
  have HY5 := Lib.hid hY5
  have HP5 := Lib.hid hP5
  have HA5 := Lib.hid hA5
  have HN5 := Lib.hid hN5
  have HC5 := Lib.hid hC5
  have HB5 := Lib.hid hB5
  have xlt := heap_lt hX5
  have ylt := heap_lt hY5
  clear hX5 hY5 hP5 hA5 hN5 hC5 hB5
  go_region
  go_wp2_with (fail)
  rw [set_same c0, set_same c1, set_same c2, set_same c3, set_same d0, set_same d1, set_same d2, set_same d3]
  refine bodyPost_ret (v := .tuple #[SL.enc ⟨some ⟨w.heap.size + 1 + 1, 0, none⟩, 3, some ⟨w.heap.size + 1 + 1 + 1, 0, none⟩, 4⟩ exS, SL.enc ⟨Ap, cp, some ⟨W4.heap.size, 0, none⟩, 2⟩ exR]) ?_ rfl ⟨_, _, _, _, _, rfl, ?_, ?_, ?_⟩
  · simp [results, Try.f70, go_sem, c0, c1, c2, c3, d0, d1, d2, d3]
  · exact ⟨pairs_lay (ns := exS.ps) HP5.out, pairs_lay (ns := exS.bs) HA5.out⟩
  · exact ⟨(ownsP_at HC5.out).1, pairs_lay (ns := exR.bs) HN5.out⟩
  · exact HB5.out.drew
end Go.Proofs.Ytmbcpmnigggbaaa.Li
namespace Go.Proofs.Ytmbcpmnigggbaaa.Li
open Go.RowKit

/-! The reference's lists of numbers: SameInts 43, In 65, Rising 21, Earlier 24. -/
theorem wp_region_extW {P : Program} {id : Nat} {Q : Exit → Act → World → Prop} {a : Act} {w : World} {L : List Oper} (hm : P.follows .mixedOrders = true) (hB : Region.lexB .any L.toArray = true)
    (h : wpQuiet P L.toArray (fun w' => ∃ x, w' = extB w x) (fun a' => ∀ w', (∃ x, w' = extB w x) → Q .normal a' w') L a) : (Code.region id L.toArray true).wp P Q a w := wp_region_ext hm hB h
set_option maxRecDepth 100000 in
set_option maxHeartbeats 4000000 in
theorem rIn_any (l : List Int) (hl : l.length ≤ 1000) (x : Int) (A : Option Addr) (c : Nat) (w : World) (hI : IntsAt w w.heap.size A l) :
    Calls Try.prog 77 #[.slice A l.length c, .int .i64 x] w fun e w' => e = .returned (.bool (decide (x ∈ l))) ∧ Below w.heap.size w w' := by
  have HI := Lib.hid hI
  clear hI
  go_enter Try.func77, Try.ntmps77
  go_wp2
  go_loopw [5] (fun i wr => ∃ k : Nat, k ≤ l.length ∧ i = .int .i64 k ∧ Hid (∀ j, j < k → l[j]? ≠ some x) ∧ Below w.heap.size w wr) (fun i _ => l.length - (intOf i).toNat)
  case atStart => exact ⟨0, Nat.zero_le _, rfl, Lib.hid (fun j hj => by omega), Below.refl _ _⟩
  case round =>
    obtain ⟨k, hk', rfl, hno, hb⟩ := hrel
    by_cases hlt : k < l.length
    · obtain ⟨y, hy⟩ : ∃ y, l[k]? = some y := ⟨_, List.getElem?_eq_getElem hlt⟩
      obtain ⟨b1, o1, rfl, b1lt, d1⟩ := HI.out.at_ hy
      have e1 := below_cell hb d1
      have hki : (k : Int) < l.length := by omega
      have hk0' : (0 : Int) ≤ (k : Int) := by omega
      have HY := Lib.hid hy
      clear hy d1
      by_cases hxy : y = x
      · subst hxy
        have HE := Lib.hid (show decide (y ∈ l) = true from decide_eq_true (List.mem_of_getElem? HY.out))
        go_wp2
        go_ret
        exact ⟨by rw [HE.out]; rfl, hb⟩
      · have HN := Lib.hid (show ∀ j, j < k + 1 → l[j]? ≠ some x from fun j hj => by
          rcases Nat.lt_succ_iff_lt_or_eq.1 hj with h1 | rfl
          · exact hno.out j h1
          · rw [HY.out]; simpa using hxy)
        have hne : decide (y = x) = false := decide_eq_false hxy
        clear hno
        go_wp2
        go_roundw
        case rel => exact ⟨k + 1, by omega, by go_num, HN, hb⟩
        case measure => simp [intOf]; omega
    · obtain rfl : k = l.length := by omega
      have HE := Lib.hid (show decide (x ∈ l) = false from decide_eq_false fun hm => by
        obtain ⟨j, hj, e⟩ := List.mem_iff_getElem.1 hm
        exact hno.out j hj (by rw [List.getElem?_eq_getElem hj, e]))
      clear hno
      go_wp2
      go_ret
      exact ⟨by rw [HE.out]; rfl, hb⟩
open Go.RowKit

open Go.RowKit

/-! works 17. -/
/-- The memory of works. -/
structure ExM (W : World) (a b : Nat) (c : Option Addr) (d k s : Nat) : Prop where
  S : SeaAt W W.heap.size ⟨some ⟨a, 0, none⟩, 3, some ⟨b, 0, none⟩, 4⟩ exS
  T : SeaAt W W.heap.size ⟨c, k, some ⟨d, 0, none⟩, 2⟩ exR
  x : SBox W s ⟨some ⟨a, 0, none⟩, 3, some ⟨b, 0, none⟩, 4⟩ exS
  y : SBox W (s + 1) ⟨c, k, some ⟨d, 0, none⟩, 2⟩ exR
theorem ExM.c {W : World} {a b : Nat} {c : Option Addr} {d k s : Nat} (H : ExM W a b c d k s) : (W.cell? ⟨s, 0, none⟩ = some (.int .i64 100) ∧ W.cell? ⟨s, 1, none⟩ = some (.int .i64 120) ∧ W.cell? ⟨s, 2, none⟩ = some (.slice (some ⟨a, 0, none⟩) 3 3) ∧ W.cell? ⟨s, 3, none⟩ = some (.slice (some ⟨b, 0, none⟩) 4 4)) ∧
    (W.cell? ⟨s + 1, 0, none⟩ = some (.int .i64 100) ∧ W.cell? ⟨s + 1, 1, none⟩ = some (.int .i64 120) ∧ W.cell? ⟨s + 1, 2, none⟩ = some (.slice c 3 k) ∧ W.cell? ⟨s + 1, 3, none⟩ = some (.slice (some ⟨d, 0, none⟩) 2 2)) := ⟨H.x.cells, H.y.cells⟩
theorem ExM.new {W : World} {a b : Nat} {c : Option Addr} {d k : Nat} (hS : SeaAt W W.heap.size ⟨some ⟨a, 0, none⟩, 3, some ⟨b, 0, none⟩, 4⟩ exS) (hT : SeaAt W W.heap.size ⟨c, k, some ⟨d, 0, none⟩, 2⟩ exR) :
    ExM ((W.alloc (.cells #[.int .i64 100, .int .i64 120, .slice (some ⟨a, 0, none⟩) 3 3, .slice (some ⟨b, 0, none⟩) 4 4] 44)).alloc (.cells #[.int .i64 100, .int .i64 120, .slice c 3 k, .slice (some ⟨d, 0, none⟩) 2 2] 44)) a b c d k W.heap.size := by
  have hb := hb0to (al_below W (.cells #[.int .i64 100, .int .i64 120, .slice (some ⟨a, 0, none⟩) 3 3, .slice (some ⟨b, 0, none⟩) 4 4] 44)) (al_below _ (.cells #[.int .i64 100, .int .i64 120, .slice c 3 k, .slice (some ⟨d, 0, none⟩) 2 2] 44))
  exact ⟨hS.below hb, hT.below hb, (SBox.new W ⟨some ⟨a, 0, none⟩, 3, some ⟨b, 0, none⟩, 4⟩ exS).of (Below.heap_alloc _ _ _ (by simp)), heap_new2 W _ _⟩
/-- The box of a span. -/
def PBox (W : World) (z : Nat) : Prop := W.heap[z]? = some (.cells #[.int .i64 2, .int .i64 5] 35 (0, 0))
theorem PBox.cells {W : World} {z : Nat} (h : PBox W z) : W.cell? ⟨z, 0, none⟩ = some (.int .i64 2) ∧ W.cell? ⟨z, 1, none⟩ = some (.int .i64 5) := by simp [World.cell?, show W.heap[z]? = _ from h]
end Go.Proofs.Ytmbcpmnigggbaaa.Li
namespace Go.Proofs.Ytmbcpmnigggbaaa.Li
open Go.RowKit

open Go.RowKit

/-! The law's own words: Far 40, ready 16, isKnown 20, has 48, needs 19, can 27, most 34, cheap 36; the specification's Can 22, Least 23. -/
def farB (s : Sea) : Bool := decide (40 < s.ps.length) || decide (40 < s.bs.length)
set_option maxRecDepth 100000 in
set_option maxHeartbeats 4000000 in
theorem far_any (L : SL) (s : Sea) (w : World) : Calls Try.prog 17 #[L.enc s] w fun e w' => e = .returned (.bool (farB s)) ∧ Below w.heap.size w w' := by
  have hbw := al_below w (.cells #[.int .i64 s.wl, .int .i64 s.wh, .slice L.Ap s.ps.length L.cp, .slice L.Ab s.bs.length L.cb] 44)
  have HB := Lib.hid (SBox.new w L s)
  obtain ⟨c0, c1, c2, c3⟩ := (SBox.new w L s).cells
  obtain ⟨W0, hW0⟩ : ∃ W0, w.alloc (.cells #[.int .i64 s.wl, .int .i64 s.wh, .slice L.Ap s.ps.length L.cp, .slice L.Ab s.bs.length L.cb] 44) = W0 := ⟨_, rfl⟩
  rw [hW0] at hbw HB c0 c1 c2 c3
  have HBW := Lib.hid hbw
  have HW0 := Lib.hid hW0
  clear hbw hW0
  by_cases h1 : 40 < s.ps.length
  · have hd1 : decide ((40 : Int) < (s.ps.length : Int)) = true := decide_eq_true (by omega)
    have HQ := Lib.hid (show farB s = true by unfold farB; rw [decide_eq_true h1]; rfl)
    clear h1
    obtain ⟨Ap, cp, Ab, cb⟩ := L
    go_enter Try.func17, Try.ntmps17
    go_upto_region 1 with (fail)
    have e := HW0.out
    rw [e]
    clear e
    go_wp2_with (fail)
    go_ret
    exact ⟨by rw [HQ.out]; rfl, HBW.out⟩
  · have hd1 : decide ((40 : Int) < (s.ps.length : Int)) = false := decide_eq_false (by omega)
    by_cases h2 : 40 < s.bs.length
    · have hd2 : decide ((40 : Int) < (s.bs.length : Int)) = true := decide_eq_true (by omega)
      have HQ := Lib.hid (show farB s = true by unfold farB; rw [decide_eq_true h2, Bool.or_true])
      clear h1 h2
      obtain ⟨Ap, cp, Ab, cb⟩ := L
      go_enter Try.func17, Try.ntmps17
      go_upto_region 1 with (fail)
      have e := HW0.out
      rw [e]
      clear e
      go_wp2_with (fail)
      go_ret
      exact ⟨by rw [HQ.out]; rfl, HBW.out⟩
    · have hd2 : decide ((40 : Int) < (s.bs.length : Int)) = false := decide_eq_false (by omega)
      have HQ := Lib.hid (show farB s = false by unfold farB; rw [decide_eq_false h1, decide_eq_false h2]; rfl)
      clear h1 h2
      obtain ⟨Ap, cp, Ab, cb⟩ := L
      go_enter Try.func17, Try.ntmps17
      go_upto_region 1 with (fail)
      have e := HW0.out
      rw [e]
      clear e
      go_wp2_with (fail)
      go_ret
      exact ⟨by rw [HQ.out]; rfl, HBW.out⟩
end Go.Proofs.Ytmbcpmnigggbaaa.Li
namespace Go.Proofs.Ytmbcpmnigggbaaa.Li
open Go.RowKit

end Go.Proofs.Ytmbcpmnigggbaaa.Li
namespace Go.Proofs.Ytmbcpmnigggbaaa.Li
open Go.RowKit

/-- The same at a guarded step. -/
theorem step_copyW {ops : Array Oper} {o : Oper} {a : Act} {w : World} {K : Act → World → Prop} {Q : Exit → Act → World → Prop} {E : Prop} (hw : Region.wanted o (yielded ops a.tmps) = true) (s x : Operand)
    (ho : o.op = .call { callee := .builtin .append, args := #[s, x], argTypes := #[25, 25] }) (n₀ : Nat) (v : Value) (l0 : List Int) (hs : a.eval s = v) (hown : Ints w n₀ v l0)
    (A : Option Addr) (c : Nat) (l : List Int) (m : Nat) (hm : l.length = m) (hA : A = none → c = 0 ∧ l = []) (hx : a.eval x = .slice A m c) (hI : IntsAt w w.heap.size A l) (hl0 : l0.length ≤ 1000) (hl : m ≤ 1000) (hn : n₀ ≤ w.heap.size)
    (h : ∀ v' w', Ints w' n₀ v' (l0 ++ l) → Below n₀ w w' → w.grownBy w' v.ownBlock → K (a.put o.dst v') w') :
    if Region.wanted o (yielded ops a.tmps) = true then Oper.wp Try.prog o a w K Q else E := by
  subst hm
  rw [if_pos hw]
  obtain ⟨i0, hi, hz0, hz1, hz2⟩ := info_parts info3'
  cases A with
  | none =>
    obtain ⟨rfl, rfl⟩ := hA rfl
    have hrun := run_append_owned_none (P := Try.prog) (w := w) n₀ 25 o.type 3 i0 1 Try.underlying25 hi v l0.length _ hown
    have hk := h v w (by rw [List.append_nil]; exact hown) (Below.refl _ _) ⟨rfl, rfl, rfl, Nat.le_refl _, fun _ _ _ => rfl⟩
    unfold Oper.wp
    simp [execOp, ho, resolve, invoke, builtin, hs, hx, hrun, Result.andThen]
    exact hk
  | some ad =>
    refine wp_append_own w s x 25 ho n₀ 3 i0 (.int .i64 0) 1 8 Try.underlying25 hi hz0 hz1 hz2 rfl (by decide) v l0.length _ hs hown ad l.length c (l.map (.int .i64)) hx (by simp) (ints_news hI) (ints_one l) ?_ ?_ hn ?_
    · unfold maxLen; omega
    · omega
    · intro v' w' h2 h3 _
      refine h v' w' ?_ (own_below hown h3 hn (Nat.le_refl _)) h3
      unfold Ints
      rw [List.length_append, List.map_append]
      exact h2
theorem crewB_len {s : Sea} {c : List Int} (h : c.length ≠ s.ps.length) : crewB s c = false := by
  unfold crewB; rw [decide_eq_false h]; simp
theorem ints_take {W : World} {B : Nat} {A : Option Addr} {l : List Int} (h : IntsAt W B A l) (k : Nat) : IntsAt W B A (l.take k) := by
  rcases h with rfl | ⟨b, off, e, h1, h2⟩
  · exact .inl (by simp)
  · refine .inr ⟨b, off, e, h1, fun i x hx => h2 i x ?_⟩
    rw [List.getElem?_take] at hx
    split at hx
    · exact hx
    · cases hx
theorem slice_to (b off n d k : Nat) (hk : k < d) : ∀ W, (Instr.slice 25 (.slice (some ⟨b, off, none⟩) n d) none (some (.int .i64 k)) none).run Try.prog W = .ok (.slice (some ⟨b, off, none⟩) k d) W := fun W => by
  have h : k ≤ d := by omega
  have h0 : ¬ d = 0 := by omega
  simp [Instr.slice, Instr.sliceBounds, Instr.sliceBound, go_sem, h]
set_option maxRecDepth 100000 in
set_option maxHeartbeats 4000000 in
theorem rIsCrew_any (L : SL) (s : Sea) (hS : SOK s) (c : List Int) (A : Option Addr) (cv : Nat) (hcl : c.length ≤ 1000) (hcv : c.length ≤ cv) (w : World) (hH : SeaAt w w.heap.size L s) (hI : IntsAt w w.heap.size A c) : Calls Try.prog 25 #[L.enc s, .slice A c.length cv] w fun e w' => e = .returned (.bool (crewB s c)) ∧ Below w.heap.size w w' := by
  have hbw := al_below w (.cells #[.int .i64 s.wl, .int .i64 s.wh, .slice L.Ap s.ps.length L.cp, .slice L.Ab s.bs.length L.cb] 44)
  have HB := Lib.hid (SBox.new w L s)
  obtain ⟨c0, c1, c2, c3⟩ := (SBox.new w L s).cells
  obtain ⟨W0, hW0⟩ : ∃ W0, w.alloc (.cells #[.int .i64 s.wl, .int .i64 s.wh, .slice L.Ap s.ps.length L.cp, .slice L.Ab s.bs.length L.cb] 44) = W0 := ⟨_, rfl⟩
  rw [hW0] at hbw HB c0 c1 c2 c3
  have HBW := Lib.hid hbw
  have HW0 := Lib.hid hW0
  have HH := Lib.hid (hH.below hbw)
  have HI := Lib.hid (ints_later hI hbw)
  have hpl := hS.pl
  have hbl := hS.bl
  clear hbw hW0 hH hI hS
  by_cases hlen : c.length = s.ps.length
  · have hd0 : ((c.length : Int) != (s.ps.length : Int)) = false := by simp [hlen]
    have HL := Lib.hid hlen
    clear hlen
    obtain ⟨Ap, cp, Ab, cb⟩ := L
    go_enter Try.func25, Try.ntmps25
    go_upto_region 1 with (fail)
    have e := HW0.out
    rw [e]
    clear e
    go_wp2_with (fail)
    clear c0 c1 c2 c3
    go_loopw [5] (fun i wr => ∃ k : Nat, k ≤ c.length ∧ i = .int .i64 k ∧ Hid (((c.take k).all fun x => inR x 0 ((s.bs.length : Int) - 1)) = true ∧ (c.take k).Nodup) ∧ Hid (Below W0.heap.size W0 wr)) (fun i _ => c.length - (intOf i).toNat)
    case atStart => exact ⟨0, Nat.zero_le _, rfl, Lib.hid ⟨rfl, by simp⟩, Lib.hid (Below.refl _ _)⟩
    case round =>
      obtain ⟨k, hk, rfl, hok, hb⟩ := hrel
      by_cases hlt : k < c.length
      · obtain ⟨x, hx⟩ : ∃ x, c[k]? = some x := ⟨_, List.getElem?_eq_getElem hlt⟩
        obtain ⟨bi, oi, eA, blt, d1⟩ := HI.out.at_ hx
        have f1 := below_cell hb.out d1
        obtain ⟨r0, r1, r2, r3⟩ := (HB.out.of (hb.out.block _ HB.out.lt)).cells
        have HX := Lib.hid hx
        subst eA
        clear hx d1
        have H64 := Lib.hid (fun W => rIsBoat_any ⟨Ap, cp, Ab, cb⟩ s x W (by omega))
        cases hr : inR x 0 ((s.bs.length : Int) - 1)
        · rw [hr] at H64
          have HF := Lib.hid (show crewB s c = false by
            unfold crewB
            rw [show (c.all fun x => inR x 0 ((s.bs.length : Int) - 1)) = false from List.all_eq_false.2 ⟨x, List.mem_of_getElem? HX.out, by simp [hr]⟩]
            rfl)
          have ex0 := extB_cell f1
          have ex1 := extB_cell r0
          have ex2 := extB_cell r1
          have ex3 := extB_cell r2
          have ex4 := extB_cell r3
          clear hr r0 r1 r2 r3 f1
          as_aux_lemma =>
          go_upto_region 6 with (fail)
          refine wp_region_extW (by kernel_rfl) (by kernel_rfl) ?_
          repeat (go_big_quiet_step ((go_at_call 76; exact ext_call (H64.out _))))
          refine wpQuiet_nil ?_
          rintro _ ⟨y1, rfl⟩
          have hb3 := hb0to hb.out (extB_below wr y1)
          go_wp2_with (fail)
          go_ret
          exact ⟨by rw [HF.out]; rfl, hb0to HBW.out hb3⟩
        · rw [hr] at H64
          have hsl := slice_to bi oi c.length cv k (by omega)
          have hkl : (c.take k).length = k := by rw [List.length_take]; omega
          have H65 := Lib.hid (fun A2 c2 W hI => rIn_any (c.take k) (by rw [hkl]; omega) x A2 c2 W hI)
          rw [hkl] at H65
          have HTI := Lib.hid (fun W (hbw2 : Below wr.heap.size wr W) => ints_take (ints_later (ints_later HI.out hb.out) hbw2) k)
          have HKL := Lib.hid hkl
          have hk0 : (0 : Int) ≤ k := by omega
          have hk1 : (k : Int) < c.length := by omega
          have hkc : (k : Int) ≤ cv := by omega
          have hcvn : c.length ≤ cv := hcv
          have key : ∀ b, decide (x ∈ c.take k) = b → (b = true → crewB s c = false) ∧ (b = false → ((c.take (k + 1)).all fun x => inR x 0 ((s.bs.length : Int) - 1)) = true ∧ (c.take (k + 1)).Nodup) := by
            rintro b hb
            have ht : c.take (k + 1) = c.take k ++ [x] := by rw [List.take_add_one, HX.out]; rfl
            constructor
            · rintro rfl
              have hm : x ∈ c.take k := by simpa using hb
              unfold crewB
              rw [show decide c.Nodup = false from decide_eq_false fun hn => by
                have h2 := hn.sublist (List.take_sublist (k + 1) c)
                rw [ht, List.nodup_append] at h2
                exact h2.2.2 x hm x (by simp) rfl]
              simp
            · rintro rfl
              have hm : ¬ x ∈ c.take k := by simpa using hb
              rw [ht]
              refine ⟨by rw [List.all_append, hok.out.1]; simp [hr], ?_⟩
              rw [List.nodup_append]
              refine ⟨hok.out.2, by simp, fun y hy z hz => ?_⟩
              simp only [List.mem_singleton] at hz
              subst hz
              exact fun e => hm (e ▸ hy)
          cases hin : decide (x ∈ c.take k)
          all_goals
            first
              | have HK1 := Lib.hid ((key _ hin).1 rfl)
              | have HK2 := Lib.hid ((key _ hin).2 rfl)
            rw [hin] at H65
            clear key hin hr hkl
            as_aux_lemma =>
            go_upto_region 6 with (fail)
            go_region_held3 (fun w' => w'.cell? ⟨w.heap.size, 0, none⟩ = some (.int .i64 s.wl) ∧ w'.cell? ⟨w.heap.size, 1, none⟩ = some (.int .i64 s.wh) ∧ w'.cell? ⟨w.heap.size, 2, none⟩ = some (.slice Ap s.ps.length cp) ∧ w'.cell? ⟨w.heap.size, 3, none⟩ = some (.slice Ab s.bs.length cb) ∧ w'.cell? ⟨bi, oi + k, none⟩ = some (.int .i64 x)) (first | go_keep)
              (first
                | (go_at_call 76; refine (H64.out _).mono ?_; rintro e w1 ⟨rfl, hb1⟩; have hk1' : Below wr.heap.size wr w1 := hb0to (drew_below wr) hb1; have B1 := Lib.hid hk1'; obtain ⟨s0, s1, s2, s3⟩ := (HB.out.of ((hb0to hb.out hk1').block _ HB.out.lt)).cells; have g1 := below_cell hk1' f1; clear hb1 hk1')
                | (refine step_copyW (by rfl) (.tmp 26) (.tmp 29) (by rfl) w1.heap.size _ [] (by rfl) (ints_made w1 w1.heap.size (Nat.le_refl _)) (some ⟨bi, oi, none⟩) cv (c.take k) k HKL.out (fun h => by cases h) (by rfl) (HTI.out _ (hb0to B1.out (al_below w1 _))) (by simp) (by omega) (by simp) ?_; intro v2 w2 h1 h2 h3; have hk2 : Below w1.heap.size w1 w2 := (al_below w1 _).trans h2; have B2 := Lib.hid (hb0to B1.out hk2); obtain ⟨t0, t1, t2, t3⟩ := (HB.out.of ((hb0to hb.out B2.out).block _ HB.out.lt)).cells; have g2 := below_cell B2.out f1; obtain ⟨A2, c2, rfl, -, -, hA2⟩ := (show Ints w2 w1.heap.size v2 (c.take k) from h1).lay; rw [HKL.out]; have I2 := Lib.hid hA2.at_; clear h1 h2 h3 hk2 hA2)
                | (go_at_call 77; refine (H65.out A2 c2 w2 I2.out).mono ?_; rintro e w3 ⟨rfl, hb3⟩; have B3 := Lib.hid (hb0to B2.out hb3); obtain ⟨u0, u1, u2, u3⟩ := (HB.out.of ((hb0to hb.out B3.out).block _ HB.out.lt)).cells; have g3 := below_cell B3.out f1; clear hb3))
            all_goals
              go_wp2_with (fail)
              first
                | (go_ret; exact ⟨by rw [HK1.out]; rfl, hb0to HBW.out (hb0to hb.out B3.out)⟩)
                | (go_roundw
                   case rel => exact ⟨k + 1, by omega, by go_num, HK2, Lib.hid (hb0to hb.out B3.out)⟩
                   case measure => simp [intOf]; omega)
      · obtain rfl : k = c.length := by omega
        have HF := Lib.hid (show crewB s c = true by
          have := hok.out
          rw [List.take_length] at this
          unfold crewB
          rw [this.1, decide_eq_true HL.out, decide_eq_true this.2]; rfl)
        as_aux_lemma =>
        go_wp2_with (fail)
        go_ret
        exact ⟨by rw [HF.out]; rfl, hb0to HBW.out hb.out⟩
  · have hd0 : ((c.length : Int) != (s.ps.length : Int)) = true := by simp; omega
    have HF := Lib.hid (crewB_len hlen)
    clear hlen
    obtain ⟨Ap, cp, Ab, cb⟩ := L
    go_enter Try.func25, Try.ntmps25
    go_upto_region 1 with (fail)
    have e := HW0.out
    rw [e]
    clear e
    go_wp2_with (fail)
    go_ret
    exact ⟨by rw [HF.out]; rfl, HBW.out⟩
end Go.Proofs.Ytmbcpmnigggbaaa.Li
namespace Go.Proofs.Ytmbcpmnigggbaaa.Li
open Go.RowKit

theorem safe_at {s : Sea} {c : List Int} (h : safeC s c = true) {k : Nat} {j : Int} (hj : c[k]? = some j) : needN s k ≤ carryN s j.toNat := by
  unfold safeC at h
  rw [List.all_eq_true] at h
  have := h (j, k) (List.mem_iff_getElem?.2 ⟨k, by rw [List.getElem?_zipIdx, hj]; simp⟩)
  simpa using this
theorem safe_of {s : Sea} {c : List Int} (h : ∀ (k : Nat) (j : Int), c[k]? = some j → needN s k ≤ carryN s j.toNat) : safeC s c = true := by
  unfold safeC
  rw [List.all_eq_true]
  intro p hp
  obtain ⟨k, hk⟩ := List.mem_iff_getElem?.1 hp
  rw [List.getElem?_zipIdx] at hk
  cases hj : c[k]? with
  | none => rw [hj] at hk; simp at hk
  | some j =>
    rw [hj] at hk
    simp only [Option.map_some, Option.some.injEq, Nat.zero_add] at hk
    subst hk
    exact decide_eq_true (h k j hj)
theorem lift_le {s : Sea} {c : List Int} {n : Int} (hn : n ≤ 2000) : n ≤ liftS s c ↔ ∀ (k : Nat) (j : Int), c[k]? = some j → n ≤ holdsN (carryN s j.toNat) (shares s k).2 := by
  unfold liftS
  rw [le_minN hn]
  constructor
  · intro h k j hj
    exact h _ (List.mem_of_getElem? (heldL_at hj))
  · intro h x hx
    obtain ⟨k, hk⟩ := List.mem_iff_getElem?.1 hx
    cases hj : c[k]? with
    | none =>
      have : (heldL s c).length ≤ k := by rw [heldL_length]; exact List.getElem?_eq_none_iff.1 hj
      rw [List.getElem?_eq_none this] at hk; cases hk
    | some j =>
      rw [heldL_at hj] at hk
      cases hk
      exact h k j hj
theorem carry_nn {s : Sea} (hS : SOK s) (j : Nat) : 0 ≤ carryN s j := by
  by_cases hj : j < s.bs.length
  · obtain ⟨z, hz, z0, _⟩ := boat_at hS hj
    rw [(boat_eq hz).1]; exact z0
  · unfold carryN
    rw [List.getD_eq_getElem?_getD, List.getElem?_eq_none (by omega)]
    simp
/-- A crew surely holds just if it lifts the greatest weight. -/
theorem safe_lift {s : Sea} (hS : SOK s) {c : List Int} (hc : CrewOf s.bs.length s.ps.length c) : safeC s c = decide (s.wh ≤ liftS s c) := by
  rw [Bool.eq_iff_iff, decide_eq_true_eq, lift_le hS.w2]
  have hk : ∀ (k : Nat) (j : Int), c[k]? = some j → (needN s k ≤ carryN s j.toNat ↔ s.wh ≤ holdsN (carryN s j.toNat) (shares s k).2) := fun k j hj => by
    have hkl := (List.getElem?_eq_some_iff.1 hj).1
    have hb := shares_bd hS (show k < s.ps.length by rw [← hc.1]; exact hkl)
    rw [holds_iff hb.1 hS.w2 (carry_nn hS _)]
    exact (need_iff _).symm
  exact ⟨fun h k j hj => (hk k j hj).1 (safe_at h hj), fun h => safe_of fun k j hj => (hk k j hj).2 (h k j hj)⟩
theorem safe_ret {s : Sea} {c : List Int} (hv : validS s = true) (hc : crewB s c = true) : safeRet s c = (safeN s c, 0) := by
  unfold safeRet; rw [hc, askS_true hv]; simp
end Go.Proofs.Ytmbcpmnigggbaaa.Li
