import Derived.Test.YtmconopnplgcfaaRU
import Derived.Test.YtmconopnplgcfaaFM
namespace Go.Proofs.Ytmconopnplgcfaa
open Go.RowKit

/-! Example 65. -/
def exH : House := ⟨[(3, 10), (5, 4)], 2, [(0, 10), (0, 15), (1, 8)], [40, 20]⟩
def exF : Fair := ⟨exH, [0, 0, 1], 10, 3, [⟨0, [0], 30⟩, ⟨1, [0, 1], 45⟩, ⟨2, [1], 12⟩, ⟨0, [1], 20⟩]⟩
theorem pairs_lay {W : World} {g : Nat} {t : TypeId} {ns : List (Int × Int)} (h : W.heap[g]? = some (.cells (pairCells ns).toArray t (0, 0))) : PairsAt W W.heap.size (some ⟨g, 0, none⟩) ns := by
  refine .inr ⟨g, 0, rfl, heap_lt h, fun i x hx => ?_⟩
  obtain ⟨d1, d2⟩ := pairCells_at ns i x hx
  have hk : ∀ j v, (pairCells ns)[j]? = some v → W.cell? ⟨g, j, none⟩ = some v := fun j v hj => by simp [World.cell?, h, hj]
  rw [Nat.zero_add]
  exact ⟨hk _ _ d1, hk _ _ d2⟩
theorem ints_lay {W : World} {g : Nat} {t : TypeId} {l : List Int} (h : W.heap[g]? = some (.cells (l.map (Value.int .i64)).toArray t (0, 0))) : IntsAt W W.heap.size (some ⟨g, 0, none⟩) l := by
  refine .inr ⟨g, 0, rfl, heap_lt h, fun i x hx => ?_⟩
  rw [Nat.zero_add]
  simp [World.cell?, h, hx]
/-- The example's slices. -/
structure ExHeap (W : World) (n : Nat) : Prop where
  a2 : W.heap[n + 1 + 1]? = some (.cells #[.int .i64 3, .int .i64 10, .int .i64 5, .int .i64 4] 97)
  a3 : W.heap[n + 1 + 1 + 1]? = some (.cells #[.int .i64 0, .int .i64 10, .int .i64 0, .int .i64 15, .int .i64 1, .int .i64 8] 99)
  a4 : W.heap[n + 1 + 1 + 1 + 1]? = some (.cells #[.int .i64 40, .int .i64 20] 3)
  a6 : W.heap[n + 1 + 1 + 1 + 1 + 1 + 1]? = some (.cells #[.int .i64 0, .int .i64 0, .int .i64 1] 3)
  a7 : W.heap[n + 1 + 1 + 1 + 1 + 1 + 1 + 1]? = some (.cells #[.int .i64 0] 3)
  a8 : W.heap[n + 1 + 1 + 1 + 1 + 1 + 1 + 1 + 1]? = some (.cells #[.int .i64 0, .int .i64 1] 3)
  a9 : W.heap[n + 1 + 1 + 1 + 1 + 1 + 1 + 1 + 1 + 1]? = some (.cells #[.int .i64 1] 3)
  a10 : W.heap[n + 1 + 1 + 1 + 1 + 1 + 1 + 1 + 1 + 1 + 1]? = some (.cells #[.int .i64 1] 3)
  a11 : W.heap[n + 1 + 1 + 1 + 1 + 1 + 1 + 1 + 1 + 1 + 1 + 1]? = some (.cells #[.int .i64 0, .slice (some ⟨n + 1 + 1 + 1 + 1 + 1 + 1 + 1, 0, none⟩) 1 1, .int .i64 30, .int .i64 1, .slice (some ⟨n + 1 + 1 + 1 + 1 + 1 + 1 + 1 + 1, 0, none⟩) 2 2, .int .i64 45, .int .i64 2, .slice (some ⟨n + 1 + 1 + 1 + 1 + 1 + 1 + 1 + 1 + 1, 0, none⟩) 1 1, .int .i64 12, .int .i64 0, .slice (some ⟨n + 1 + 1 + 1 + 1 + 1 + 1 + 1 + 1 + 1 + 1, 0, none⟩) 1 1, .int .i64 20] 38)
theorem ExHeap.keep {W W' : World} {n : Nat} (h : ExHeap W n) (hk : ∀ k, n + 2 ≤ k → k < W.heap.size → W'.heap[k]? = W.heap[k]?) : ExHeap W' n :=
  ⟨(hk _ (by omega) (heap_lt h.a2)).trans h.a2, (hk _ (by omega) (heap_lt h.a3)).trans h.a3, (hk _ (by omega) (heap_lt h.a4)).trans h.a4, (hk _ (by omega) (heap_lt h.a6)).trans h.a6, (hk _ (by omega) (heap_lt h.a7)).trans h.a7, (hk _ (by omega) (heap_lt h.a8)).trans h.a8, (hk _ (by omega) (heap_lt h.a9)).trans h.a9, (hk _ (by omega) (heap_lt h.a10)).trans h.a10, (hk _ (by omega) (heap_lt h.a11)).trans h.a11⟩
theorem ExHeap.fair {W : World} {n : Nat} (h : ExHeap W n) : FairAt W W.heap.size ⟨⟨some ⟨n + 1 + 1, 0, none⟩, 2, some ⟨n + 1 + 1 + 1, 0, none⟩, 3, some ⟨n + 1 + 1 + 1 + 1, 0, none⟩, 2⟩, some ⟨n + 1 + 1 + 1 + 1 + 1 + 1, 0, none⟩, 3, some ⟨n + 1 + 1 + 1 + 1 + 1 + 1 + 1 + 1 + 1 + 1 + 1, 0, none⟩, 4⟩ exF := by
  refine ⟨⟨pairs_lay (ns := exH.ks) h.a2, pairs_lay (ns := exH.ps) h.a3, ints_lay (l := exH.bs) h.a4⟩, ints_lay (l := exF.pk) h.a6, .inr ⟨_, 0, rfl, heap_lt h.a11, fun i x hx => ?_⟩⟩
  match i, hx with
  | 0, hx =>
    simp only [exF, List.getElem?_cons_succ, List.getElem?_cons_zero, Option.some.injEq] at hx
    subst hx
    exact ⟨cell_of_heap h.a11 rfl, cell_of_heap h.a11 rfl, _, _, cell_of_heap h.a11 rfl, (fun e => by cases e), ints_lay h.a7⟩
  | 1, hx =>
    simp only [exF, List.getElem?_cons_succ, List.getElem?_cons_zero, Option.some.injEq] at hx
    subst hx
    exact ⟨cell_of_heap h.a11 rfl, cell_of_heap h.a11 rfl, _, _, cell_of_heap h.a11 rfl, (fun e => by cases e), ints_lay h.a8⟩
  | 2, hx =>
    simp only [exF, List.getElem?_cons_succ, List.getElem?_cons_zero, Option.some.injEq] at hx
    subst hx
    exact ⟨cell_of_heap h.a11 rfl, cell_of_heap h.a11 rfl, _, _, cell_of_heap h.a11 rfl, (fun e => by cases e), ints_lay h.a9⟩
  | 3, hx =>
    simp only [exF, List.getElem?_cons_succ, List.getElem?_cons_zero, Option.some.injEq] at hx
    subst hx
    exact ⟨cell_of_heap h.a11 rfl, cell_of_heap h.a11 rfl, _, _, cell_of_heap h.a11 rfl, (fun e => by cases e), ints_lay h.a10⟩
  | i + 4, hx => simp [exF] at hx
theorem ex_fn : FN exF := ⟨by decide, by decide, by decide, by decide⟩
theorem twelve (w : World) (o0 o1 o2 o3 o4 o5 o6 o7 o8 o9 o10 o11 : Obj) : ∃ W, W = ((((((((((((w.alloc o0).alloc o1).alloc o2).alloc o3).alloc o4).alloc o5).alloc o6).alloc o7).alloc o8).alloc o9).alloc o10).alloc o11) ∧ W.heap[w.heap.size]? = some o0 ∧ W.heap[w.heap.size + 1]? = some o1 ∧ W.heap[w.heap.size + 1 + 1]? = some o2 ∧ W.heap[w.heap.size + 1 + 1 + 1]? = some o3 ∧ W.heap[w.heap.size + 1 + 1 + 1 + 1]? = some o4 ∧ W.heap[w.heap.size + 1 + 1 + 1 + 1 + 1]? = some o5 ∧ W.heap[w.heap.size + 1 + 1 + 1 + 1 + 1 + 1]? = some o6 ∧ W.heap[w.heap.size + 1 + 1 + 1 + 1 + 1 + 1 + 1]? = some o7 ∧ W.heap[w.heap.size + 1 + 1 + 1 + 1 + 1 + 1 + 1 + 1]? = some o8 ∧ W.heap[w.heap.size + 1 + 1 + 1 + 1 + 1 + 1 + 1 + 1 + 1]? = some o9 ∧ W.heap[w.heap.size + 1 + 1 + 1 + 1 + 1 + 1 + 1 + 1 + 1 + 1]? = some o10 ∧ W.heap[w.heap.size + 1 + 1 + 1 + 1 + 1 + 1 + 1 + 1 + 1 + 1 + 1]? = some o11 ∧ Below w.heap.size w W := by
  have a0 := World.alloc_heap_new w o0
  have a1 := World.alloc_heap_new (w.alloc o0) o1
  have a2 := World.alloc_heap_new ((w.alloc o0).alloc o1) o2
  have a3 := World.alloc_heap_new (((w.alloc o0).alloc o1).alloc o2) o3
  have a4 := World.alloc_heap_new ((((w.alloc o0).alloc o1).alloc o2).alloc o3) o4
  have a5 := World.alloc_heap_new (((((w.alloc o0).alloc o1).alloc o2).alloc o3).alloc o4) o5
  have a6 := World.alloc_heap_new ((((((w.alloc o0).alloc o1).alloc o2).alloc o3).alloc o4).alloc o5) o6
  have a7 := World.alloc_heap_new (((((((w.alloc o0).alloc o1).alloc o2).alloc o3).alloc o4).alloc o5).alloc o6) o7
  have a8 := World.alloc_heap_new ((((((((w.alloc o0).alloc o1).alloc o2).alloc o3).alloc o4).alloc o5).alloc o6).alloc o7) o8
  have a9 := World.alloc_heap_new (((((((((w.alloc o0).alloc o1).alloc o2).alloc o3).alloc o4).alloc o5).alloc o6).alloc o7).alloc o8) o9
  have a10 := World.alloc_heap_new ((((((((((w.alloc o0).alloc o1).alloc o2).alloc o3).alloc o4).alloc o5).alloc o6).alloc o7).alloc o8).alloc o9) o10
  have a11 := World.alloc_heap_new (((((((((((w.alloc o0).alloc o1).alloc o2).alloc o3).alloc o4).alloc o5).alloc o6).alloc o7).alloc o8).alloc o9).alloc o10) o11
  have up : ∀ {W : World} {k : Nat} {o o' : Obj}, W.heap[k]? = some o → (W.alloc o').heap[k]? = some o := fun h => (Below.heap_alloc _ _ _ (Array.getElem?_eq_some_iff.1 h).1).trans h
  simp only [World.size_alloc] at a1 a2 a3 a4 a5 a6 a7 a8 a9 a10 a11
  refine ⟨_, rfl, up (up (up (up (up (up (up (up (up (up (up (a0))))))))))), up (up (up (up (up (up (up (up (up (up (a1)))))))))), up (up (up (up (up (up (up (up (up (a2))))))))), up (up (up (up (up (up (up (up (a3)))))))), up (up (up (up (up (up (up (a4))))))), up (up (up (up (up (up (a5)))))), up (up (up (up (up (a6))))), up (up (up (up (a7)))), up (up (up (a8))), up (up (a9)), up (a10), a11, ?_⟩
  have hb := fun (W : World) (o : Obj) (h : Below w.heap.size w W) => h.alloc h.size o
  exact hb _ _ (hb _ _ (hb _ _ (hb _ _ (hb _ _ (hb _ _ (hb _ _ (hb _ _ (hb _ _ (hb _ _ (hb _ _ (hb _ _ (Below.refl _ w))))))))))))
theorem set8_block {W : World} {b k : Nat} {t : TypeId} {arr : Array Value} (h : W.heap[b]? = some (.cells arr t (0, 0))) (x0 x1 x2 x3 x4 x5 x6 x7 : Value) (hk : k < W.heap.size) (hne : k ≠ b) : ((((((((W.setCell ⟨b, 0, none⟩ x0).setCell ⟨b, 1, none⟩ x1).setCell ⟨b, 2, none⟩ x2).setCell ⟨b, 3, none⟩ x3).setCell ⟨b, 4, none⟩ x4).setCell ⟨b, 5, none⟩ x5).setCell ⟨b, 6, none⟩ x6).setCell ⟨b, 7, none⟩ x7).heap[k]? = W.heap[k]? :=
  (((KpB.refl (fun j => j = b) W.heap.size W).set 0 x0 (.inl rfl)).block k hk hne) |> fun e => by
    have s : ∀ (V : World) (o : Nat) (u : Value), k < V.heap.size → (V.setCell ⟨b, o, none⟩ u).heap[k]? = V.heap[k]? := fun V o u hv => set_other_heap hv hne
    simp only [s, World.size_setCell, hk]
theorem results_two {P : Program} {fn : Func} {t1 t2 : Tmp} {ty1 ty2 : TypeId} (h : fn.results = #[.cell t1 ty1, .cell t2 ty2]) {tmps : Array Value} {w : World} {v1 v2 : Value} {p1 p2 : Addr} (ht1 : tmps.getD t1 undef = .pointer (some p1)) (ht2 : tmps.getD t2 undef = .pointer (some p2))
    (hl1 : (Instr.loadAt ty1 (.pointer (some p1))).run P w = .ok v1 w) (hl2 : (Instr.loadAt ty2 (.pointer (some p2))).run P w = .ok v2 w) : (results fn tmps).run P w = .ok (.tuple #[v1, v2]) w := by
  have a1 : tmps[t1]?.getD undef = .pointer (some p1) := by simpa using ht1
  have a2 : tmps[t2]?.getD undef = .pointer (some p2) := by simpa using ht2
  simp [Instr.loadAt, Instr.sureAddr, asAddr] at hl1 hl2
  simp [results, h, a1, a2, Instr.loadAt, Instr.sureAddr, asAddr, hl1, hl2]
set_option maxRecDepth 100000 in
set_option maxHeartbeats 4000000 in
theorem example_any (w : World) : Calls Try.prog 65 #[] w fun e w' => (∃ F G, e = .returned (.tuple #[F.enc exF, G.enc (dayF exF 5)]) ∧ (FairAt w' w'.heap.size F exF ∧ FairAt w' w'.heap.size G (dayF exF 5))) ∧ Below w.heap.size w w' := by
  go_enter Try.func65, Try.ntmps65
  go_upto_region 3 with (fail)
  obtain ⟨W, hW, a0, a1, a2, a3, a4, a5, a6, a7, a8, a9, a10, a11, hb⟩ := twelve w (.cells #[.slice (some ⟨w.heap.size + 1 + 1, 0, none⟩) 2 2, .int .i64 2, .slice (some ⟨w.heap.size + 1 + 1 + 1, 0, none⟩) 3 3, .slice (some ⟨w.heap.size + 1 + 1 + 1 + 1, 0, none⟩) 2 2, .slice (some ⟨w.heap.size + 1 + 1 + 1 + 1 + 1 + 1, 0, none⟩) 3 3, .int .i64 10, .int .i64 3, .slice (some ⟨w.heap.size + 1 + 1 + 1 + 1 + 1 + 1 + 1 + 1 + 1 + 1 + 1, 0, none⟩) 4 4] 29) (.cells #[.slice none 0 0, .int .i64 0, .slice none 0 0, .slice none 0 0, .slice none 0 0, .int .i64 0, .int .i64 0, .slice none 0 0] 29) (.cells #[.int .i64 3, .int .i64 10, .int .i64 5, .int .i64 4] 97) (.cells #[.int .i64 0, .int .i64 10, .int .i64 0, .int .i64 15, .int .i64 1, .int .i64 8] 99) (.cells #[.int .i64 40, .int .i64 20] 3) (.cells #[.slice (some ⟨w.heap.size + 1 + 1, 0, none⟩) 2 2, .int .i64 2, .slice (some ⟨w.heap.size + 1 + 1 + 1, 0, none⟩) 3 3, .slice (some ⟨w.heap.size + 1 + 1 + 1 + 1, 0, none⟩) 2 2] 26) (.cells #[.int .i64 0, .int .i64 0, .int .i64 1] 3) (.cells #[.int .i64 0] 3) (.cells #[.int .i64 0, .int .i64 1] 3) (.cells #[.int .i64 1] 3) (.cells #[.int .i64 1] 3) (.cells #[.int .i64 0, .slice (some ⟨w.heap.size + 1 + 1 + 1 + 1 + 1 + 1 + 1, 0, none⟩) 1 1, .int .i64 30, .int .i64 1, .slice (some ⟨w.heap.size + 1 + 1 + 1 + 1 + 1 + 1 + 1 + 1, 0, none⟩) 2 2, .int .i64 45, .int .i64 2, .slice (some ⟨w.heap.size + 1 + 1 + 1 + 1 + 1 + 1 + 1 + 1 + 1, 0, none⟩) 1 1, .int .i64 12, .int .i64 0, .slice (some ⟨w.heap.size + 1 + 1 + 1 + 1 + 1 + 1 + 1 + 1 + 1 + 1, 0, none⟩) 1 1, .int .i64 20] 38)
  rw [← hW]
  clear hW
  have HX : Hid (ExHeap W w.heap.size) := Lib.hid ⟨a2, a3, a4, a6, a7, a8, a9, a10, a11⟩
  have HB := Lib.hid hb
  have H0 := Lib.hid a0
  have H1 := Lib.hid a1
  have hsz : w.heap.size + 12 ≤ W.heap.size := heap_lt a11
  have hok : FLOK ⟨⟨some ⟨w.heap.size + 1 + 1, 0, none⟩, 2, some ⟨w.heap.size + 1 + 1 + 1, 0, none⟩, 3, some ⟨w.heap.size + 1 + 1 + 1 + 1, 0, none⟩, 2⟩, some ⟨w.heap.size + 1 + 1 + 1 + 1 + 1 + 1, 0, none⟩, 3, some ⟨w.heap.size + 1 + 1 + 1 + 1 + 1 + 1 + 1 + 1 + 1 + 1 + 1, 0, none⟩, 4⟩ exF := ⟨⟨(fun e => by cases e), (fun e => by cases e), (fun e => by cases e)⟩, (fun e => by cases e), (fun e => by cases e)⟩
  have H28 := Lib.hid (fun W' (hb' : Below W.heap.size W W') => onDay_any _ exF ex_fn hok 5 W' (HX.out.fair.below hb'))
  have y0 := cell_of_heap (o := 0) a0 rfl
  have y1 := cell_of_heap (o := 1) a0 rfl
  have y2 := cell_of_heap (o := 2) a0 rfl
  have y3 := cell_of_heap (o := 3) a0 rfl
  have y4 := cell_of_heap (o := 4) a0 rfl
  have y5 := cell_of_heap (o := 5) a0 rfl
  have y6 := cell_of_heap (o := 6) a0 rfl
  have y7 := cell_of_heap (o := 7) a0 rfl
  clear hok hb a0 a1 a2 a3 a4 a5 a6 a7 a8 a9 a10 a11
  go_region_law
    (go_simp; go_at_call 28; refine (H28.out _ (by first | exact Below.refl _ _ | exact drew_below _)).mono ?_; rintro e w1 ⟨⟨⟨⟨Ak, ck, Ap, cp, Ab, cb⟩, A', c', A9, c9⟩, rfl, hcf, hq⟩, hb1⟩; have B1 : Hid (Below W.heap.size W w1) := Lib.hid (by first | exact hb1 | exact hb0to (drew_below _) hb1); have HCF := Lib.hid hcf; have HQ := Lib.hid hq; have k0 := (B1.out.block _ (heap_lt H0.out)).trans H0.out; have k1 := (B1.out.block _ (heap_lt H1.out)).trans H1.out; have K0 := Lib.hid k0; have K1 := Lib.hid k1; have y0 := cell_of_heap (o := 0) k0 rfl; have v0 := cell_of_heap (o := 0) k1 rfl; have y1 := cell_of_heap (o := 1) k0 rfl; have v1 := cell_of_heap (o := 1) k1 rfl; have y2 := cell_of_heap (o := 2) k0 rfl; have v2 := cell_of_heap (o := 2) k1 rfl; have y3 := cell_of_heap (o := 3) k0 rfl; have v3 := cell_of_heap (o := 3) k1 rfl; have y4 := cell_of_heap (o := 4) k0 rfl; have v4 := cell_of_heap (o := 4) k1 rfl; have y5 := cell_of_heap (o := 5) k0 rfl; have v5 := cell_of_heap (o := 5) k1 rfl; have y6 := cell_of_heap (o := 6) k0 rfl; have v6 := cell_of_heap (o := 6) k1 rfl; have y7 := cell_of_heap (o := 7) k0 rfl; have v7 := cell_of_heap (o := 7) k1 rfl; have yf := frozen_of_heap k0; have vf := frozen_of_heap k1; clear hcf hq hb1 k0 k1)
  all_goals
    go_wp2_with (fail)
    have hs1 := B1.out.size
    have e0 := set8_heap K0.out (.slice (some ⟨w.heap.size + 1 + 1, 0, none⟩) 2 2) (.int .i64 2) (.slice (some ⟨w.heap.size + 1 + 1 + 1, 0, none⟩) 3 3) (.slice (some ⟨w.heap.size + 1 + 1 + 1 + 1, 0, none⟩) 2 2) (.slice (some ⟨w.heap.size + 1 + 1 + 1 + 1 + 1 + 1, 0, none⟩) 3 3) (.int .i64 10) (.int .i64 3) (.slice (some ⟨w.heap.size + 1 + 1 + 1 + 1 + 1 + 1 + 1 + 1 + 1 + 1 + 1, 0, none⟩) 4 4)
    have e1 := (set8_block K0.out (.slice (some ⟨w.heap.size + 1 + 1, 0, none⟩) 2 2) (.int .i64 2) (.slice (some ⟨w.heap.size + 1 + 1 + 1, 0, none⟩) 3 3) (.slice (some ⟨w.heap.size + 1 + 1 + 1 + 1, 0, none⟩) 2 2) (.slice (some ⟨w.heap.size + 1 + 1 + 1 + 1 + 1 + 1, 0, none⟩) 3 3) (.int .i64 10) (.int .i64 3) (.slice (some ⟨w.heap.size + 1 + 1 + 1 + 1 + 1 + 1 + 1 + 1 + 1 + 1 + 1, 0, none⟩) 4 4) (heap_lt K1.out) (by omega)).trans K1.out
    have g1 := set8_heap e1 (.slice Ak (dayF exF 5).h.ks.length ck) (.int .i64 (dayF exF 5).h.fl) (.slice Ap (dayF exF 5).h.ps.length cp) (.slice Ab (dayF exF 5).h.bs.length cb) (.slice A' (dayF exF 5).pk.length c') (.int .i64 (dayF exF 5).day) (.int .i64 (dayF exF 5).nb) (.slice A9 (dayF exF 5).q.length c9)
    have g0 := (set8_block e1 (.slice Ak (dayF exF 5).h.ks.length ck) (.int .i64 (dayF exF 5).h.fl) (.slice Ap (dayF exF 5).h.ps.length cp) (.slice Ab (dayF exF 5).h.bs.length cb) (.slice A' (dayF exF 5).pk.length c') (.int .i64 (dayF exF 5).day) (.int .i64 (dayF exF 5).nb) (.slice A9 (dayF exF 5).q.length c9) (heap_lt e0) (by omega)).trans e0
    refine bodyPost_ret (results_two rfl rfl rfl (load29 (cell_of_heap (o := 0) g0 rfl) (cell_of_heap (o := 1) g0 rfl) (cell_of_heap (o := 2) g0 rfl) (cell_of_heap (o := 3) g0 rfl) (cell_of_heap (o := 4) g0 rfl) (cell_of_heap (o := 5) g0 rfl) (cell_of_heap (o := 6) g0 rfl) (cell_of_heap (o := 7) g0 rfl)) (load29 (cell_of_heap (o := 0) g1 rfl) (cell_of_heap (o := 1) g1 rfl) (cell_of_heap (o := 2) g1 rfl) (cell_of_heap (o := 3) g1 rfl) (cell_of_heap (o := 4) g1 rfl) (cell_of_heap (o := 5) g1 rfl) (cell_of_heap (o := 6) g1 rfl) (cell_of_heap (o := 7) g1 rfl))) rfl ⟨⟨⟨⟨some ⟨w.heap.size + 1 + 1, 0, none⟩, 2, some ⟨w.heap.size + 1 + 1 + 1, 0, none⟩, 3, some ⟨w.heap.size + 1 + 1 + 1 + 1, 0, none⟩, 2⟩, some ⟨w.heap.size + 1 + 1 + 1 + 1 + 1 + 1, 0, none⟩, 3, some ⟨w.heap.size + 1 + 1 + 1 + 1 + 1 + 1 + 1 + 1 + 1 + 1 + 1, 0, none⟩, 4⟩, ⟨⟨Ak, ck, Ap, cp, Ab, cb⟩, A', c', A9, c9⟩, rfl, ExHeap.fair ?_, (CopRet.fair (n := W.heap.size) ?_ ?_).1⟩, ?_⟩
    · refine HX.out.keep fun k h1 h2 => ?_
      rw [set8_block e1 _ _ _ _ _ _ _ _ (by simp only [World.size_setCell]; omega) (by omega), set8_block K0.out _ _ _ _ _ _ _ _ (by omega) (by omega)]
      exact B1.out.block k h2
    · exact (HCF.out.keepT (keepT_set8 K0.out (by decide) _ _ _ _ _ _ _ _) (keepT_set8 K0.out (by decide) _ _ _ _ _ _ _ _) (keepT_set8 K0.out (by decide) _ _ _ _ _ _ _ _)).keepT (keepT_set8 e1 (by decide) _ _ _ _ _ _ _ _) (keepT_set8 e1 (by decide) _ _ _ _ _ _ _ _) (keepT_set8 e1 (by decide) _ _ _ _ _ _ _ _)
    · exact (HQ.out.keepO (keepT_set8 K0.out (by decide) _ _ _ _ _ _ _ _) (keepT_set8 K0.out (by decide) _ _ _ _ _ _ _ _)).keepO (keepT_set8 e1 (by decide) _ _ _ _ _ _ _ _) (keepT_set8 e1 (by decide) _ _ _ _ _ _ _ _)
    · exact below_set8 (below_set8 (hb0to HB.out B1.out) (Nat.le_refl _) _ _ _ _ _ _ _ _) (by omega) _ _ _ _ _ _ _ _

end Go.Proofs.Ytmconopnplgcfaa
namespace Go.Proofs.Ytmconopnplgcfaa
open Go.RowKit

/-! works 19. -/
theorem ex_fn5 : FN (dayF exF 5) := ⟨by decide, by decide, by decide, by decide⟩
theorem exReady : readyRet (dayF exF 5) = ([1], 0) := by kernel_rfl
theorem exMost : mostRet exF = (45, 0) := by kernel_rfl
theorem exWin : winRet exF = ([1], 0) := by kernel_rfl
theorem exPay : payRet exF 1 = (42, 0) := by kernel_rfl
theorem exNeed : needRet exF 0 = (33, 0) := by kernel_rfl
theorem exWhen : whenRet exF = (10, 0) := by kernel_rfl
structure ExW (W : World) (s : Nat) (F G : FL) : Prop where
  f : FairAt W W.heap.size F exF
  g : FairAt W W.heap.size G (dayF exF 5)
  x : FBox W s F exF
  y : FBox W (s + 1) G (dayF exF 5)
theorem ExW.next {W W' : World} {s : Nat} {F G : FL} (H : ExW W s F G) (hb : Below W.heap.size W W') : ExW W' s F G := ⟨H.f.below hb, H.g.below hb, H.x.of (hb.block _ H.x.lt), H.y.of (hb.block _ H.y.lt)⟩
theorem ExW.c {W : World} {s : Nat} {F G : FL} (H : ExW W s F G) : (W.cell? ⟨s, 0, none⟩ = some (.slice F.L.Ak exF.h.ks.length F.L.ck) ∧ W.cell? ⟨s, 1, none⟩ = some (.int .i64 exF.h.fl) ∧ W.cell? ⟨s, 2, none⟩ = some (.slice F.L.Ap exF.h.ps.length F.L.cp) ∧ W.cell? ⟨s, 3, none⟩ = some (.slice F.L.Ab exF.h.bs.length F.L.cb) ∧ W.cell? ⟨s, 4, none⟩ = some (.slice F.Ap exF.pk.length F.cp) ∧ W.cell? ⟨s, 5, none⟩ = some (.int .i64 exF.day) ∧ W.cell? ⟨s, 6, none⟩ = some (.int .i64 exF.nb) ∧ W.cell? ⟨s, 7, none⟩ = some (.slice F.Aq exF.q.length F.cq)) ∧ W.cell? ⟨s + 1, 0, none⟩ = some (.slice G.L.Ak (dayF exF 5).h.ks.length G.L.ck) ∧ W.cell? ⟨s + 1, 1, none⟩ = some (.int .i64 (dayF exF 5).h.fl) ∧ W.cell? ⟨s + 1, 2, none⟩ = some (.slice G.L.Ap (dayF exF 5).h.ps.length G.L.cp) ∧ W.cell? ⟨s + 1, 3, none⟩ = some (.slice G.L.Ab (dayF exF 5).h.bs.length G.L.cb) ∧ W.cell? ⟨s + 1, 4, none⟩ = some (.slice G.Ap (dayF exF 5).pk.length G.cp) ∧ W.cell? ⟨s + 1, 5, none⟩ = some (.int .i64 (dayF exF 5).day) ∧ W.cell? ⟨s + 1, 6, none⟩ = some (.int .i64 (dayF exF 5).nb) ∧ W.cell? ⟨s + 1, 7, none⟩ = some (.slice G.Aq (dayF exF 5).q.length G.cq) := ⟨H.x.cells, H.y.cells⟩
theorem ExW.new {W : World} {F G : FL} (hF : FairAt W W.heap.size F exF) (hG : FairAt W W.heap.size G (dayF exF 5)) : ExW ((W.alloc (.cells (F.cells exF) 29)).alloc (.cells (G.cells (dayF exF 5)) 29)) W.heap.size F G := by
  have hb := hb0to (al_below W (.cells (F.cells exF) 29)) (al_below _ (.cells (G.cells (dayF exF 5)) 29))
  exact ⟨hF.below hb, hG.below hb, (FBox.new W F exF).of (Below.heap_alloc _ _ _ (by simp)), heap_new2 W _ _⟩
theorem exC29 {W : World} {s : Nat} {F G : FL} (H : ExW W s F G) : Calls Try.prog 29 #[G.enc (dayF exF 5)] W fun e w' => (∃ A c, e = .returned (.tuple #[.slice A 1 c, .int .i64 0]) ∧ IntsAt w' w'.heap.size A [1]) ∧ Below W.heap.size W w' := by
  refine (Ready_any G _ ex_fn5 W H.g).mono ?_
  rintro e w' ⟨⟨v, rfl, hv⟩, hb⟩
  rw [exReady] at hv ⊢
  obtain ⟨A, c, rfl, -, -, hI⟩ := ints_slice hv
  exact ⟨⟨A, c, rfl, hI⟩, hb⟩
theorem exC42 {W : World} {s : Nat} {F G : FL} (H : ExW W s F G) : Calls Try.prog 42 #[F.enc exF] W fun e w' => (∃ A c, e = .returned (.tuple #[.slice A 1 c, .int .i64 0]) ∧ IntsAt w' w'.heap.size A [1]) ∧ Below W.heap.size W w' := by
  refine (Winners_any F _ ex_fn W H.f).mono ?_
  rintro e w' ⟨⟨v, rfl, hv⟩, hb⟩
  rw [exWin] at hv ⊢
  obtain ⟨A, c, rfl, -, -, hI⟩ := ints_slice hv
  exact ⟨⟨A, c, rfl, hI⟩, hb⟩
theorem exC40 {W : World} {s : Nat} {F G : FL} (H : ExW W s F G) : Calls Try.prog 40 #[F.enc exF] W fun e w' => e = .returned (.tuple #[.int .i64 45, .int .i64 0]) ∧ Below W.heap.size W w' := by
  refine (Most_any F _ ex_fn W H.f).mono ?_
  rintro e w' ⟨h, hb⟩
  unfold NumEnd at h
  rw [exMost] at h
  exact ⟨h, hb⟩
theorem exC23 {W : World} {s : Nat} {F G : FL} (H : ExW W s F G) : Calls Try.prog 23 #[F.enc exF, .int .i64 1] W fun e w' => e = .returned (.tuple #[.int .i64 42, .int .i64 0]) ∧ Below W.heap.size W w' := by
  refine (Pays_any F _ ex_fn 1 W H.f).mono ?_
  rintro e w' ⟨h, hb⟩
  unfold NumEnd at h
  rw [exPay] at h
  exact ⟨h, hb⟩
theorem exC37 {W : World} {s : Nat} {F G : FL} (H : ExW W s F G) : Calls Try.prog 37 #[F.enc exF, .int .i64 0] W fun e w' => e = .returned (.tuple #[.int .i64 33, .int .i64 0]) ∧ Below W.heap.size W w' := by
  refine (Need_any F _ ex_fn 0 W H.f).mono ?_
  rintro e w' ⟨h, hb⟩
  unfold NumEnd at h
  rw [exNeed] at h
  exact ⟨h, hb⟩
theorem exC31 {W : World} {s : Nat} {F G : FL} (H : ExW W s F G) : Calls Try.prog 31 #[F.enc exF] W fun e w' => e = .returned (.tuple #[.int .i64 10, .int .i64 0]) ∧ Below W.heap.size W w' := by
  refine (When_any F _ ex_fn W H.f).mono ?_
  rintro e w' ⟨h, hb⟩
  unfold NumEnd at h
  rw [exWhen] at h
  exact ⟨h, hb⟩
theorem exC38 {W : World} {A1 A2 : Option Addr} {c1 c2 : Nat} (h1 : IntsAt W W.heap.size A1 [1]) (h2 : IntsAt W W.heap.size A2 [1]) : Calls Try.prog 38 #[.slice A1 1 c1, .slice A2 1 c2] W fun e w' => e = .returned (.bool true) ∧ Below W.heap.size W w' :=
  sameInts_is A1 A2 c1 c2 [1] (by decide) W h1 h2
theorem ex_one (W : World) : IntsAt (W.alloc (.cells #[.int .i64 1] 3)) (W.alloc (.cells #[.int .i64 1] 3)).heap.size (some ⟨W.heap.size, 0, none⟩) [1] := ints_lay (World.alloc_heap_new W _)
set_option maxRecDepth 100000 in
set_option maxHeartbeats 4000000 in
theorem works_any (w : World) : Calls Try.prog 19 #[] w fun e w' => e = .returned (.bool true) ∧ Below w.heap.size w w' := by
  go_enter Try.func19, Try.ntmps19
  go_wp2_with (first
    | (go_at_call 65; go_must (refine (example_any _).mono ?_; rintro e w1 ⟨⟨⟨⟨k1, k2, k3, k4, k5, k6⟩, k7, k8, k9, k10⟩, ⟨⟨l1, l2, l3, l4, l5, l6⟩, l7, l8, l9, l10⟩, rfl, hF, hG⟩, hb⟩; have M := Lib.hid (ExW.new hF hG); have B := Lib.hid (hb0to hb (hb0to (al_below w1 (.cells #[.slice k1 exF.h.ks.length k2, .int .i64 exF.h.fl, .slice k3 exF.h.ps.length k4, .slice k5 exF.h.bs.length k6, .slice k7 exF.pk.length k8, .int .i64 exF.day, .int .i64 exF.nb, .slice k9 exF.q.length k10] 29)) (al_below _ (.cells #[.slice l1 (dayF exF 5).h.ks.length l2, .int .i64 (dayF exF 5).h.fl, .slice l3 (dayF exF 5).h.ps.length l4, .slice l5 (dayF exF 5).h.bs.length l6, .slice l7 (dayF exF 5).pk.length l8, .int .i64 (dayF exF 5).day, .int .i64 (dayF exF 5).nb, .slice l9 (dayF exF 5).q.length l10] 29)))); obtain ⟨⟨c0, c1, c2, c3, c4, c5, c6, c7⟩, d0, d1, d2, d3, d4, d5, d6, d7⟩ := M.out.c; clear hF hG hb))
    | (go_at_call 29; go_must (refine (exC29 M.out).mono ?_; rintro e wn ⟨⟨Ar, cr, rfl, hI⟩, hb⟩; have BN := Lib.hid (hb0to B.out hb); have MN := Lib.hid (M.out.next hb); have B := BN; have M := MN; have IR := Lib.hid hI; clear BN MN; obtain ⟨⟨c0, c1, c2, c3, c4, c5, c6, c7⟩, d0, d1, d2, d3, d4, d5, d6, d7⟩ := M.out.c; clear hb hI))
    | (go_at_call 40; go_must (refine (exC40 M.out).mono ?_; rintro e wn ⟨rfl, hb⟩; have BN := Lib.hid (hb0to B.out hb); have MN := Lib.hid (M.out.next hb); have B := BN; have M := MN; have IR := Lib.hid (ints_later IR.out hb); clear BN MN; obtain ⟨⟨c0, c1, c2, c3, c4, c5, c6, c7⟩, d0, d1, d2, d3, d4, d5, d6, d7⟩ := M.out.c; clear hb))
    | (go_at_call 42; go_must (refine (exC42 M.out).mono ?_; rintro e wn ⟨⟨Aw, cw, rfl, hI⟩, hb⟩; have BN := Lib.hid (hb0to B.out hb); have MN := Lib.hid (M.out.next hb); have B := BN; have M := MN; have IR := Lib.hid (ints_later IR.out hb); have IW := Lib.hid hI; clear BN MN; obtain ⟨⟨c0, c1, c2, c3, c4, c5, c6, c7⟩, d0, d1, d2, d3, d4, d5, d6, d7⟩ := M.out.c; clear hb hI))
    | (go_at_call 23; go_must (refine (exC23 M.out).mono ?_; rintro e wn ⟨rfl, hb⟩; have BN := Lib.hid (hb0to B.out hb); have MN := Lib.hid (M.out.next hb); have B := BN; have M := MN; have IR := Lib.hid (ints_later IR.out hb); have IW := Lib.hid (ints_later IW.out hb); clear BN MN; obtain ⟨⟨c0, c1, c2, c3, c4, c5, c6, c7⟩, d0, d1, d2, d3, d4, d5, d6, d7⟩ := M.out.c; clear hb))
    | (go_at_call 37; go_must (refine (exC37 M.out).mono ?_; rintro e wn ⟨rfl, hb⟩; have BN := Lib.hid (hb0to B.out hb); have MN := Lib.hid (M.out.next hb); have B := BN; have M := MN; have IR := Lib.hid (ints_later IR.out hb); have IW := Lib.hid (ints_later IW.out hb); clear BN MN; obtain ⟨⟨c0, c1, c2, c3, c4, c5, c6, c7⟩, d0, d1, d2, d3, d4, d5, d6, d7⟩ := M.out.c; clear hb))
    | (go_at_call 31; go_must (refine (exC31 M.out).mono ?_; rintro e wn ⟨rfl, hb⟩; have BN := Lib.hid (hb0to B.out hb); have MN := Lib.hid (M.out.next hb); have B := BN; have M := MN; have IR := Lib.hid (ints_later IR.out hb); have IW := Lib.hid (ints_later IW.out hb); clear BN MN; obtain ⟨⟨c0, c1, c2, c3, c4, c5, c6, c7⟩, d0, d1, d2, d3, d4, d5, d6, d7⟩ := M.out.c; clear hb))
    | (go_at_call 38; go_must (refine (exC38 (by first | exact ints_later IR.out (al_below _ _) | exact ints_later IW.out (al_below _ _)) (ex_one _)).mono ?_; rintro e wn ⟨rfl, hb⟩; have BN := Lib.hid (hb0to (hb0to B.out (al_below _ _)) hb); have B := BN; have IW := Lib.hid (ints_later IW.out (hb0to (al_below _ _) hb)); clear BN hb)))
  go_ret
  exact ⟨rfl, B.out⟩

end Go.Proofs.Ytmconopnplgcfaa
