import Derived.Test.YtmbcpmnigggbaabGreatFM
import Derived.Test.YtmbcpmnigggbaabGreatRI
import Derived.Test.YtmbcpmnigggbaabGreatR2
import Derived.Test.YtmbcpmnigggbaabGreatF6
import Derived.Test.YtmbcpmnigggbaabGreatUF
import Derived.Test.YtmbcpmnigggbaabGreatSG
import Derived.RangeFuncBox
import Derived.RangeFuncCalls
import Derived.RangeFuncLeaves
import Derived.RangeFuncNested
import Derived.Shelf.Abstract
import Derived.StillTailTactics
namespace Go.Proofs.YtmbcpmnigggbaabGreat
open Go.RowKit

/-! Example 65. -/
def exH : House := ⟨[(3, 10), (5, 4)], 2, [(0, 10), (0, 15), (1, 8)], [40, 20]⟩
def exF : Fair := ⟨exH, [0, 0, 1], 10, 3, [⟨0, [0], 30⟩, ⟨1, [0, 1], 45⟩, ⟨2, [1], 12⟩, ⟨0, [1], 20⟩]⟩
theorem pairs_lay {W : World} {g : Nat} {t : TypeId} {ns : List (Int × Int)} (h : W.heap[g]? = some (.cells (pairCells ns).toArray t (0, 0))) : PairsAt W W.heap.size (some ⟨g, 0, none⟩) ns := by
  refine .inr ⟨g, 0, rfl, heap_lt h, fun i x hx => ?_⟩
  obtain ⟨d1, d2⟩ := pairCells_at ns i x hx
  have hk : ∀ j v, (pairCells ns)[j]? = some v → W.cell? ⟨g, j, none⟩ = some v := fun j v hj => by simp [World.cell?, h, hj]
  rw [Nat.zero_add]
  exact ⟨hk _ _ d1, hk _ _ d2⟩
theorem ints_lay {W : World} {g : Nat} {t : TypeId} {l : List Int} (h : W.heap[g]? = some (.cells (l.map (Value.int .i64)).toArray t (0, 0))) : IntsAt W W.heap.size (some ⟨g, 0, none⟩) l := by
  refine .inr ⟨g, 0, rfl, heap_lt h, fun i x hx => ?_⟩
  rw [Nat.zero_add]
  simp [World.cell?, h, hx]
/-- The example's slices. -/
structure ExHeap (W : World) (n : Nat) : Prop where
  a2 : W.heap[n + 1 + 1]? = some (.cells #[.int .i64 3, .int .i64 10, .int .i64 5, .int .i64 4] 66)
  a3 : W.heap[n + 1 + 1 + 1]? = some (.cells #[.int .i64 0, .int .i64 10, .int .i64 0, .int .i64 15, .int .i64 1, .int .i64 8] 68)
  a4 : W.heap[n + 1 + 1 + 1 + 1]? = some (.cells #[.int .i64 40, .int .i64 20] 3)
  a6 : W.heap[n + 1 + 1 + 1 + 1 + 1 + 1]? = some (.cells #[.int .i64 0, .int .i64 0, .int .i64 1] 3)
  a7 : W.heap[n + 1 + 1 + 1 + 1 + 1 + 1 + 1]? = some (.cells #[.int .i64 0] 3)
  a8 : W.heap[n + 1 + 1 + 1 + 1 + 1 + 1 + 1 + 1]? = some (.cells #[.int .i64 0, .int .i64 1] 3)
  a9 : W.heap[n + 1 + 1 + 1 + 1 + 1 + 1 + 1 + 1 + 1]? = some (.cells #[.int .i64 1] 3)
  a10 : W.heap[n + 1 + 1 + 1 + 1 + 1 + 1 + 1 + 1 + 1 + 1]? = some (.cells #[.int .i64 1] 3)
  a11 : W.heap[n + 1 + 1 + 1 + 1 + 1 + 1 + 1 + 1 + 1 + 1 + 1]? = some (.cells #[.int .i64 0, .slice (some ⟨n + 1 + 1 + 1 + 1 + 1 + 1 + 1, 0, none⟩) 1 1, .int .i64 30, .int .i64 1, .slice (some ⟨n + 1 + 1 + 1 + 1 + 1 + 1 + 1 + 1, 0, none⟩) 2 2, .int .i64 45, .int .i64 2, .slice (some ⟨n + 1 + 1 + 1 + 1 + 1 + 1 + 1 + 1 + 1, 0, none⟩) 1 1, .int .i64 12, .int .i64 0, .slice (some ⟨n + 1 + 1 + 1 + 1 + 1 + 1 + 1 + 1 + 1 + 1, 0, none⟩) 1 1, .int .i64 20] 44)
theorem ExHeap.keep {W W' : World} {n : Nat} (h : ExHeap W n) (hk : ∀ k, n + 2 ≤ k → k < W.heap.size → W'.heap[k]? = W.heap[k]?) : ExHeap W' n :=
  ⟨(hk _ (by omega) (heap_lt h.a2)).trans h.a2, (hk _ (by omega) (heap_lt h.a3)).trans h.a3, (hk _ (by omega) (heap_lt h.a4)).trans h.a4, (hk _ (by omega) (heap_lt h.a6)).trans h.a6, (hk _ (by omega) (heap_lt h.a7)).trans h.a7, (hk _ (by omega) (heap_lt h.a8)).trans h.a8, (hk _ (by omega) (heap_lt h.a9)).trans h.a9, (hk _ (by omega) (heap_lt h.a10)).trans h.a10, (hk _ (by omega) (heap_lt h.a11)).trans h.a11⟩
theorem ExHeap.fair {W : World} {n : Nat} (h : ExHeap W n) : FairAt W W.heap.size ⟨⟨some ⟨n + 1 + 1, 0, none⟩, 2, some ⟨n + 1 + 1 + 1, 0, none⟩, 3, some ⟨n + 1 + 1 + 1 + 1, 0, none⟩, 2⟩, some ⟨n + 1 + 1 + 1 + 1 + 1 + 1, 0, none⟩, 3, some ⟨n + 1 + 1 + 1 + 1 + 1 + 1 + 1 + 1 + 1 + 1 + 1, 0, none⟩, 4⟩ exF := by
  refine ⟨⟨pairs_lay (ns := exH.ks) h.a2, pairs_lay (ns := exH.ps) h.a3, ints_lay (l := exH.bs) h.a4⟩, ints_lay (l := exF.pk) h.a6, .inr ⟨_, 0, rfl, heap_lt h.a11, fun i x hx => ?_⟩⟩
  match i, hx with
  | 0, hx =>
    simp only [exF, List.getElem?_cons_succ, List.getElem?_cons_zero, Option.some.injEq] at hx
    subst hx
    exact ⟨cell_of_heap h.a11 rfl, cell_of_heap h.a11 rfl, _, _, cell_of_heap h.a11 rfl, (fun e => by cases e), ints_lay h.a7⟩
  | 1, hx =>
    simp only [exF, List.getElem?_cons_succ, List.getElem?_cons_zero, Option.some.injEq] at hx
    subst hx
    exact ⟨cell_of_heap h.a11 rfl, cell_of_heap h.a11 rfl, _, _, cell_of_heap h.a11 rfl, (fun e => by cases e), ints_lay h.a8⟩
  | 2, hx =>
    simp only [exF, List.getElem?_cons_succ, List.getElem?_cons_zero, Option.some.injEq] at hx
    subst hx
    exact ⟨cell_of_heap h.a11 rfl, cell_of_heap h.a11 rfl, _, _, cell_of_heap h.a11 rfl, (fun e => by cases e), ints_lay h.a9⟩
  | 3, hx =>
    simp only [exF, List.getElem?_cons_succ, List.getElem?_cons_zero, Option.some.injEq] at hx
    subst hx
    exact ⟨cell_of_heap h.a11 rfl, cell_of_heap h.a11 rfl, _, _, cell_of_heap h.a11 rfl, (fun e => by cases e), ints_lay h.a10⟩
  | i + 4, hx => simp [exF] at hx
theorem ex_fn : FN exF := ⟨by decide, by decide, by decide, by decide⟩
theorem twelve (w : World) (o0 o1 o2 o3 o4 o5 o6 o7 o8 o9 o10 o11 : Obj) : ∃ W, W = ((((((((((((w.alloc o0).alloc o1).alloc o2).alloc o3).alloc o4).alloc o5).alloc o6).alloc o7).alloc o8).alloc o9).alloc o10).alloc o11) ∧ W.heap[w.heap.size]? = some o0 ∧ W.heap[w.heap.size + 1]? = some o1 ∧ W.heap[w.heap.size + 1 + 1]? = some o2 ∧ W.heap[w.heap.size + 1 + 1 + 1]? = some o3 ∧ W.heap[w.heap.size + 1 + 1 + 1 + 1]? = some o4 ∧ W.heap[w.heap.size + 1 + 1 + 1 + 1 + 1]? = some o5 ∧ W.heap[w.heap.size + 1 + 1 + 1 + 1 + 1 + 1]? = some o6 ∧ W.heap[w.heap.size + 1 + 1 + 1 + 1 + 1 + 1 + 1]? = some o7 ∧ W.heap[w.heap.size + 1 + 1 + 1 + 1 + 1 + 1 + 1 + 1]? = some o8 ∧ W.heap[w.heap.size + 1 + 1 + 1 + 1 + 1 + 1 + 1 + 1 + 1]? = some o9 ∧ W.heap[w.heap.size + 1 + 1 + 1 + 1 + 1 + 1 + 1 + 1 + 1 + 1]? = some o10 ∧ W.heap[w.heap.size + 1 + 1 + 1 + 1 + 1 + 1 + 1 + 1 + 1 + 1 + 1]? = some o11 ∧ Below w.heap.size w W := by
  have a0 := World.alloc_heap_new w o0
  have a1 := World.alloc_heap_new (w.alloc o0) o1
  have a2 := World.alloc_heap_new ((w.alloc o0).alloc o1) o2
  have a3 := World.alloc_heap_new (((w.alloc o0).alloc o1).alloc o2) o3
  have a4 := World.alloc_heap_new ((((w.alloc o0).alloc o1).alloc o2).alloc o3) o4
  have a5 := World.alloc_heap_new (((((w.alloc o0).alloc o1).alloc o2).alloc o3).alloc o4) o5
  have a6 := World.alloc_heap_new ((((((w.alloc o0).alloc o1).alloc o2).alloc o3).alloc o4).alloc o5) o6
  have a7 := World.alloc_heap_new (((((((w.alloc o0).alloc o1).alloc o2).alloc o3).alloc o4).alloc o5).alloc o6) o7
  have a8 := World.alloc_heap_new ((((((((w.alloc o0).alloc o1).alloc o2).alloc o3).alloc o4).alloc o5).alloc o6).alloc o7) o8
  have a9 := World.alloc_heap_new (((((((((w.alloc o0).alloc o1).alloc o2).alloc o3).alloc o4).alloc o5).alloc o6).alloc o7).alloc o8) o9
  have a10 := World.alloc_heap_new ((((((((((w.alloc o0).alloc o1).alloc o2).alloc o3).alloc o4).alloc o5).alloc o6).alloc o7).alloc o8).alloc o9) o10
  have a11 := World.alloc_heap_new (((((((((((w.alloc o0).alloc o1).alloc o2).alloc o3).alloc o4).alloc o5).alloc o6).alloc o7).alloc o8).alloc o9).alloc o10) o11
  have up : ∀ {W : World} {k : Nat} {o o' : Obj}, W.heap[k]? = some o → (W.alloc o').heap[k]? = some o := fun h => (Below.heap_alloc _ _ _ (Array.getElem?_eq_some_iff.1 h).1).trans h
  simp only [World.size_alloc] at a1 a2 a3 a4 a5 a6 a7 a8 a9 a10 a11
  refine ⟨_, rfl, up (up (up (up (up (up (up (up (up (up (up (a0))))))))))), up (up (up (up (up (up (up (up (up (up (a1)))))))))), up (up (up (up (up (up (up (up (up (a2))))))))), up (up (up (up (up (up (up (up (a3)))))))), up (up (up (up (up (up (up (a4))))))), up (up (up (up (up (up (a5)))))), up (up (up (up (up (a6))))), up (up (up (up (a7)))), up (up (up (a8))), up (up (a9)), up (a10), a11, ?_⟩
  have hb := fun (W : World) (o : Obj) (h : Below w.heap.size w W) => h.alloc h.size o
  exact hb _ _ (hb _ _ (hb _ _ (hb _ _ (hb _ _ (hb _ _ (hb _ _ (hb _ _ (hb _ _ (hb _ _ (hb _ _ (hb _ _ (Below.refl _ w))))))))))))
theorem set8_block {W : World} {b k : Nat} {t : TypeId} {arr : Array Value} (h : W.heap[b]? = some (.cells arr t (0, 0))) (x0 x1 x2 x3 x4 x5 x6 x7 : Value) (hk : k < W.heap.size) (hne : k ≠ b) : ((((((((W.setCell ⟨b, 0, none⟩ x0).setCell ⟨b, 1, none⟩ x1).setCell ⟨b, 2, none⟩ x2).setCell ⟨b, 3, none⟩ x3).setCell ⟨b, 4, none⟩ x4).setCell ⟨b, 5, none⟩ x5).setCell ⟨b, 6, none⟩ x6).setCell ⟨b, 7, none⟩ x7).heap[k]? = W.heap[k]? :=
  (((KpB.refl (fun j => j = b) W.heap.size W).set 0 x0 (.inl rfl)).block k hk hne) |> fun e => by
    have s : ∀ (V : World) (o : Nat) (u : Value), k < V.heap.size → (V.setCell ⟨b, o, none⟩ u).heap[k]? = V.heap[k]? := fun V o u hv => set_other_heap hv hne
    simp only [s, World.size_setCell, hk]
theorem results_two {P : Program} {fn : Func} {t1 t2 : Tmp} {ty1 ty2 : TypeId} (h : fn.results = #[.cell t1 ty1, .cell t2 ty2]) {tmps : Array Value} {w : World} {v1 v2 : Value} {p1 p2 : Addr} (ht1 : tmps.getD t1 undef = .pointer (some p1)) (ht2 : tmps.getD t2 undef = .pointer (some p2))
    (hl1 : (Instr.loadAt ty1 (.pointer (some p1))).run P w = .ok v1 w) (hl2 : (Instr.loadAt ty2 (.pointer (some p2))).run P w = .ok v2 w) : (results fn tmps).run P w = .ok (.tuple #[v1, v2]) w := by
  have a1 : tmps[t1]?.getD undef = .pointer (some p1) := by simpa using ht1
  have a2 : tmps[t2]?.getD undef = .pointer (some p2) := by simpa using ht2
  simp [Instr.loadAt, Instr.sureAddr, asAddr] at hl1 hl2
  simp [results, h, a1, a2, Instr.loadAt, Instr.sureAddr, asAddr, hl1, hl2]
set_option maxRecDepth 100000 in
set_option maxHeartbeats 4000000 in
theorem example_any (w : World) : Calls Tryz.prog 23 #[] w fun e w' => (∃ F G, e = .returned (.tuple #[F.enc exF, G.enc (dayF exF 5)]) ∧ (FairAt w' w'.heap.size F exF ∧ FairAt w' w'.heap.size G (dayF exF 5))) ∧ Below w.heap.size w w' := by
  go_enter Tryz.func23, Tryz.ntmps23
  go_upto_region 3 with (fail)
  obtain ⟨W, hW, a0, a1, a2, a3, a4, a5, a6, a7, a8, a9, a10, a11, hb⟩ := twelve w (.cells #[.slice (some ⟨w.heap.size + 1 + 1, 0, none⟩) 2 2, .int .i64 2, .slice (some ⟨w.heap.size + 1 + 1 + 1, 0, none⟩) 3 3, .slice (some ⟨w.heap.size + 1 + 1 + 1 + 1, 0, none⟩) 2 2, .slice (some ⟨w.heap.size + 1 + 1 + 1 + 1 + 1 + 1, 0, none⟩) 3 3, .int .i64 10, .int .i64 3, .slice (some ⟨w.heap.size + 1 + 1 + 1 + 1 + 1 + 1 + 1 + 1 + 1 + 1 + 1, 0, none⟩) 4 4] 41) (.cells #[.slice none 0 0, .int .i64 0, .slice none 0 0, .slice none 0 0, .slice none 0 0, .int .i64 0, .int .i64 0, .slice none 0 0] 41) (.cells #[.int .i64 3, .int .i64 10, .int .i64 5, .int .i64 4] 66) (.cells #[.int .i64 0, .int .i64 10, .int .i64 0, .int .i64 15, .int .i64 1, .int .i64 8] 68) (.cells #[.int .i64 40, .int .i64 20] 3) (.cells #[.slice (some ⟨w.heap.size + 1 + 1, 0, none⟩) 2 2, .int .i64 2, .slice (some ⟨w.heap.size + 1 + 1 + 1, 0, none⟩) 3 3, .slice (some ⟨w.heap.size + 1 + 1 + 1 + 1, 0, none⟩) 2 2] 38) (.cells #[.int .i64 0, .int .i64 0, .int .i64 1] 3) (.cells #[.int .i64 0] 3) (.cells #[.int .i64 0, .int .i64 1] 3) (.cells #[.int .i64 1] 3) (.cells #[.int .i64 1] 3) (.cells #[.int .i64 0, .slice (some ⟨w.heap.size + 1 + 1 + 1 + 1 + 1 + 1 + 1, 0, none⟩) 1 1, .int .i64 30, .int .i64 1, .slice (some ⟨w.heap.size + 1 + 1 + 1 + 1 + 1 + 1 + 1 + 1, 0, none⟩) 2 2, .int .i64 45, .int .i64 2, .slice (some ⟨w.heap.size + 1 + 1 + 1 + 1 + 1 + 1 + 1 + 1 + 1, 0, none⟩) 1 1, .int .i64 12, .int .i64 0, .slice (some ⟨w.heap.size + 1 + 1 + 1 + 1 + 1 + 1 + 1 + 1 + 1 + 1, 0, none⟩) 1 1, .int .i64 20] 44)
  rw [← hW]
  clear hW
  have HX : Hid (ExHeap W w.heap.size) := Lib.hid ⟨a2, a3, a4, a6, a7, a8, a9, a10, a11⟩
  have HB := Lib.hid hb
  have H0 := Lib.hid a0
  have H1 := Lib.hid a1
  have hsz : w.heap.size + 12 ≤ W.heap.size := heap_lt a11
  have hok : FLOK ⟨⟨some ⟨w.heap.size + 1 + 1, 0, none⟩, 2, some ⟨w.heap.size + 1 + 1 + 1, 0, none⟩, 3, some ⟨w.heap.size + 1 + 1 + 1 + 1, 0, none⟩, 2⟩, some ⟨w.heap.size + 1 + 1 + 1 + 1 + 1 + 1, 0, none⟩, 3, some ⟨w.heap.size + 1 + 1 + 1 + 1 + 1 + 1 + 1 + 1 + 1 + 1 + 1, 0, none⟩, 4⟩ exF := ⟨⟨(fun e => by cases e), (fun e => by cases e), (fun e => by cases e)⟩, (fun e => by cases e), (fun e => by cases e)⟩
  have H28 := Lib.hid (fun W' (hb' : Below W.heap.size W W') => onDay_any _ exF ex_fn hok 5 W' (HX.out.fair.below hb'))
  have y0 := cell_of_heap (o := 0) a0 rfl
  have y1 := cell_of_heap (o := 1) a0 rfl
  have y2 := cell_of_heap (o := 2) a0 rfl
  have y3 := cell_of_heap (o := 3) a0 rfl
  have y4 := cell_of_heap (o := 4) a0 rfl
  have y5 := cell_of_heap (o := 5) a0 rfl
  have y6 := cell_of_heap (o := 6) a0 rfl
  have y7 := cell_of_heap (o := 7) a0 rfl
  clear hok hb a0 a1 a2 a3 a4 a5 a6 a7 a8 a9 a10 a11
  go_region_law
    (go_simp; go_at_call 45; refine (H28.out _ (by first | exact Below.refl _ _ | exact drew_below _)).mono ?_; rintro e w1 ⟨⟨⟨⟨Ak, ck, Ap, cp, Ab, cb⟩, A', c', A9, c9⟩, rfl, hcf, hq⟩, hb1⟩; have B1 : Hid (Below W.heap.size W w1) := Lib.hid (by first | exact hb1 | exact hb0to (drew_below _) hb1); have HCF := Lib.hid hcf; have HQ := Lib.hid hq; have k0 := (B1.out.block _ (heap_lt H0.out)).trans H0.out; have k1 := (B1.out.block _ (heap_lt H1.out)).trans H1.out; have K0 := Lib.hid k0; have K1 := Lib.hid k1; have y0 := cell_of_heap (o := 0) k0 rfl; have v0 := cell_of_heap (o := 0) k1 rfl; have y1 := cell_of_heap (o := 1) k0 rfl; have v1 := cell_of_heap (o := 1) k1 rfl; have y2 := cell_of_heap (o := 2) k0 rfl; have v2 := cell_of_heap (o := 2) k1 rfl; have y3 := cell_of_heap (o := 3) k0 rfl; have v3 := cell_of_heap (o := 3) k1 rfl; have y4 := cell_of_heap (o := 4) k0 rfl; have v4 := cell_of_heap (o := 4) k1 rfl; have y5 := cell_of_heap (o := 5) k0 rfl; have v5 := cell_of_heap (o := 5) k1 rfl; have y6 := cell_of_heap (o := 6) k0 rfl; have v6 := cell_of_heap (o := 6) k1 rfl; have y7 := cell_of_heap (o := 7) k0 rfl; have v7 := cell_of_heap (o := 7) k1 rfl; have yf := frozen_of_heap k0; have vf := frozen_of_heap k1; clear hcf hq hb1 k0 k1)
  all_goals
    go_wp2_with (fail)
    have hs1 := B1.out.size
    have e0 := set8_heap K0.out (.slice (some ⟨w.heap.size + 1 + 1, 0, none⟩) 2 2) (.int .i64 2) (.slice (some ⟨w.heap.size + 1 + 1 + 1, 0, none⟩) 3 3) (.slice (some ⟨w.heap.size + 1 + 1 + 1 + 1, 0, none⟩) 2 2) (.slice (some ⟨w.heap.size + 1 + 1 + 1 + 1 + 1 + 1, 0, none⟩) 3 3) (.int .i64 10) (.int .i64 3) (.slice (some ⟨w.heap.size + 1 + 1 + 1 + 1 + 1 + 1 + 1 + 1 + 1 + 1 + 1, 0, none⟩) 4 4)
    have e1 := (set8_block K0.out (.slice (some ⟨w.heap.size + 1 + 1, 0, none⟩) 2 2) (.int .i64 2) (.slice (some ⟨w.heap.size + 1 + 1 + 1, 0, none⟩) 3 3) (.slice (some ⟨w.heap.size + 1 + 1 + 1 + 1, 0, none⟩) 2 2) (.slice (some ⟨w.heap.size + 1 + 1 + 1 + 1 + 1 + 1, 0, none⟩) 3 3) (.int .i64 10) (.int .i64 3) (.slice (some ⟨w.heap.size + 1 + 1 + 1 + 1 + 1 + 1 + 1 + 1 + 1 + 1 + 1, 0, none⟩) 4 4) (heap_lt K1.out) (by omega)).trans K1.out
    have g1 := set8_heap e1 (.slice Ak (dayF exF 5).h.ks.length ck) (.int .i64 (dayF exF 5).h.fl) (.slice Ap (dayF exF 5).h.ps.length cp) (.slice Ab (dayF exF 5).h.bs.length cb) (.slice A' (dayF exF 5).pk.length c') (.int .i64 (dayF exF 5).day) (.int .i64 (dayF exF 5).nb) (.slice A9 (dayF exF 5).q.length c9)
    have g0 := (set8_block e1 (.slice Ak (dayF exF 5).h.ks.length ck) (.int .i64 (dayF exF 5).h.fl) (.slice Ap (dayF exF 5).h.ps.length cp) (.slice Ab (dayF exF 5).h.bs.length cb) (.slice A' (dayF exF 5).pk.length c') (.int .i64 (dayF exF 5).day) (.int .i64 (dayF exF 5).nb) (.slice A9 (dayF exF 5).q.length c9) (heap_lt e0) (by omega)).trans e0
    refine bodyPost_ret (results_two rfl rfl rfl (load29 (cell_of_heap (o := 0) g0 rfl) (cell_of_heap (o := 1) g0 rfl) (cell_of_heap (o := 2) g0 rfl) (cell_of_heap (o := 3) g0 rfl) (cell_of_heap (o := 4) g0 rfl) (cell_of_heap (o := 5) g0 rfl) (cell_of_heap (o := 6) g0 rfl) (cell_of_heap (o := 7) g0 rfl)) (load29 (cell_of_heap (o := 0) g1 rfl) (cell_of_heap (o := 1) g1 rfl) (cell_of_heap (o := 2) g1 rfl) (cell_of_heap (o := 3) g1 rfl) (cell_of_heap (o := 4) g1 rfl) (cell_of_heap (o := 5) g1 rfl) (cell_of_heap (o := 6) g1 rfl) (cell_of_heap (o := 7) g1 rfl))) rfl ⟨⟨⟨⟨some ⟨w.heap.size + 1 + 1, 0, none⟩, 2, some ⟨w.heap.size + 1 + 1 + 1, 0, none⟩, 3, some ⟨w.heap.size + 1 + 1 + 1 + 1, 0, none⟩, 2⟩, some ⟨w.heap.size + 1 + 1 + 1 + 1 + 1 + 1, 0, none⟩, 3, some ⟨w.heap.size + 1 + 1 + 1 + 1 + 1 + 1 + 1 + 1 + 1 + 1 + 1, 0, none⟩, 4⟩, ⟨⟨Ak, ck, Ap, cp, Ab, cb⟩, A', c', A9, c9⟩, rfl, ExHeap.fair ?_, (CopRet.fair (n := W.heap.size) ?_ ?_).1⟩, ?_⟩
    · refine HX.out.keep fun k h1 h2 => ?_
      rw [set8_block e1 _ _ _ _ _ _ _ _ (by simp only [World.size_setCell]; omega) (by omega), set8_block K0.out _ _ _ _ _ _ _ _ (by omega) (by omega)]
      exact B1.out.block k h2
    · exact (HCF.out.keepT (keepT_set8 K0.out (by decide) _ _ _ _ _ _ _ _) (keepT_set8 K0.out (by decide) _ _ _ _ _ _ _ _) (keepT_set8 K0.out (by decide) _ _ _ _ _ _ _ _)).keepT (keepT_set8 e1 (by decide) _ _ _ _ _ _ _ _) (keepT_set8 e1 (by decide) _ _ _ _ _ _ _ _) (keepT_set8 e1 (by decide) _ _ _ _ _ _ _ _)
    · exact (HQ.out.keepO (keepT_set8 K0.out (by decide) _ _ _ _ _ _ _ _) (keepT_set8 K0.out (by decide) _ _ _ _ _ _ _ _)).keepO (keepT_set8 e1 (by decide) _ _ _ _ _ _ _ _) (keepT_set8 e1 (by decide) _ _ _ _ _ _ _ _)
    · exact below_set8 (below_set8 (hb0to HB.out B1.out) (Nat.le_refl _) _ _ _ _ _ _ _ _) (by omega) _ _ _ _ _ _ _ _

open Go.RowKit

theorem exMost : mostRet exF = (45, 0) := by kernel_rfl
theorem exWin : winRet exF = ([1], 0) := by kernel_rfl
structure ExW (W : World) (s : Nat) (F G : FL) : Prop where
  f : FairAt W W.heap.size F exF
  g : FairAt W W.heap.size G (dayF exF 5)
  x : FBox W s F exF
  y : FBox W (s + 1) G (dayF exF 5)
theorem ExW.next {W W' : World} {s : Nat} {F G : FL} (H : ExW W s F G) (hb : Below W.heap.size W W') : ExW W' s F G := ⟨H.f.below hb, H.g.below hb, H.x.of (hb.block _ H.x.lt), H.y.of (hb.block _ H.y.lt)⟩
theorem ExW.c {W : World} {s : Nat} {F G : FL} (H : ExW W s F G) : (W.cell? ⟨s, 0, none⟩ = some (.slice F.L.Ak exF.h.ks.length F.L.ck) ∧ W.cell? ⟨s, 1, none⟩ = some (.int .i64 exF.h.fl) ∧ W.cell? ⟨s, 2, none⟩ = some (.slice F.L.Ap exF.h.ps.length F.L.cp) ∧ W.cell? ⟨s, 3, none⟩ = some (.slice F.L.Ab exF.h.bs.length F.L.cb) ∧ W.cell? ⟨s, 4, none⟩ = some (.slice F.Ap exF.pk.length F.cp) ∧ W.cell? ⟨s, 5, none⟩ = some (.int .i64 exF.day) ∧ W.cell? ⟨s, 6, none⟩ = some (.int .i64 exF.nb) ∧ W.cell? ⟨s, 7, none⟩ = some (.slice F.Aq exF.q.length F.cq)) ∧ W.cell? ⟨s + 1, 0, none⟩ = some (.slice G.L.Ak (dayF exF 5).h.ks.length G.L.ck) ∧ W.cell? ⟨s + 1, 1, none⟩ = some (.int .i64 (dayF exF 5).h.fl) ∧ W.cell? ⟨s + 1, 2, none⟩ = some (.slice G.L.Ap (dayF exF 5).h.ps.length G.L.cp) ∧ W.cell? ⟨s + 1, 3, none⟩ = some (.slice G.L.Ab (dayF exF 5).h.bs.length G.L.cb) ∧ W.cell? ⟨s + 1, 4, none⟩ = some (.slice G.Ap (dayF exF 5).pk.length G.cp) ∧ W.cell? ⟨s + 1, 5, none⟩ = some (.int .i64 (dayF exF 5).day) ∧ W.cell? ⟨s + 1, 6, none⟩ = some (.int .i64 (dayF exF 5).nb) ∧ W.cell? ⟨s + 1, 7, none⟩ = some (.slice G.Aq (dayF exF 5).q.length G.cq) := ⟨H.x.cells, H.y.cells⟩
theorem ExW.new {W : World} {F G : FL} (hF : FairAt W W.heap.size F exF) (hG : FairAt W W.heap.size G (dayF exF 5)) : ExW ((W.alloc (.cells (F.cells exF) 41)).alloc (.cells (G.cells (dayF exF 5)) 41)) W.heap.size F G := by
  have hb := hb0to (al_below W (.cells (F.cells exF) 41)) (al_below _ (.cells (G.cells (dayF exF 5)) 41))
  exact ⟨hF.below hb, hG.below hb, (FBox.new W F exF).of (Below.heap_alloc _ _ _ (by simp)), heap_new2 W _ _⟩
theorem exC42 {W : World} {s : Nat} {F G : FL} (H : ExW W s F G) : Calls Tryz.prog 24 #[F.enc exF] W fun e w' => (∃ A c, e = .returned (.tuple #[.slice A 1 c, .int .i64 0]) ∧ IntsAt w' w'.heap.size A [1]) ∧ Below W.heap.size W w' := by
  refine (Winners_any F _ ex_fn W H.f).mono ?_
  rintro e w' ⟨⟨v, rfl, hv⟩, hb⟩
  rw [exWin] at hv ⊢
  obtain ⟨A, c, rfl, -, -, hI⟩ := ints_slice hv
  exact ⟨⟨A, c, rfl, hI⟩, hb⟩
theorem exC40 {W : World} {s : Nat} {F G : FL} (H : ExW W s F G) : Calls Tryz.prog 12 #[F.enc exF] W fun e w' => e = .returned (.tuple #[.int .i64 45, .int .i64 0]) ∧ Below W.heap.size W w' := by
  refine (Most_any F _ ex_fn W H.f).mono ?_
  rintro e w' ⟨h, hb⟩
  unfold NumEnd at h
  rw [exMost] at h
  exact ⟨h, hb⟩
end Go.Proofs.YtmbcpmnigggbaabGreat
namespace Go.Proofs.YtmbcpmnigggbaabGreat
open Go.RowKit

open Go.RowKit

theorem ask_valid {f : Fair} (hv : validF f = true) : askF f true = 0 := by simp [askF, hv]
end Go.Proofs.YtmbcpmnigggbaabGreat
namespace Go.Proofs.YtmbcpmnigggbaabGreat
open Go.RowKit
/-- The empty fair with these bids. -/
def hF (P : Nat) (nb : Int) (q : List Bid) : Fair := ⟨(emptyF P nb).h, (emptyF P nb).pk, 0, nb, q⟩
theorem rd_hire (nb : Int) (q : List Bid) : ∀ P, P ≤ 4 → rdF (hF P nb q) = intsN (List.range P)
  | 0, _ => by kernel_rfl
  | 1, _ => by kernel_rfl
  | 2, _ => by kernel_rfl
  | 3, _ => by kernel_rfl
  | 4, _ => by kernel_rfl
  | n + 5, h => by omega
end Go.Proofs.YtmbcpmnigggbaabGreat
namespace Go.Proofs.YtmbcpmnigggbaabGreat
open Go.RowKit
theorem ints_fresh {W : World} {g : Nat} {x : Int} (h : W.heap[g]? = some (.cells #[.int .i64 x] 3)) : Ints W 0 (.slice (some ⟨g, 0, none⟩) 1 1) [x] :=
  ⟨rfl, .inr ⟨g, 1, #[.int .i64 x], rfl, Nat.zero_le _, h, by simp, by unfold maxLen; omega, by simp, by simp⟩⟩
/-- The fair at work: its box, whose bids grow. -/
structure HIn (W0 : World) (z : Nat) (L' : HL) (A' : Option Addr) (c' P : Nat) (nb : Int) (Aq : Option Addr) (cq : Nat) (q : List Bid) (W : World) : Prop where
  x : FBox W z ⟨L', A', c', Aq, cq⟩ (hF P nb q)
  c : CopF W W0.heap.size ⟨L', A', c', Aq, cq⟩ (hF P nb q)
  q : OwnsQ InnOwn W W0.heap.size (.slice Aq q.length cq) q
  hz : W0.heap.size ≤ z
  B : Below W0.heap.size W0 W
theorem HIn.next {W0 : World} {z : Nat} {L' : HL} {A' : Option Addr} {c' P : Nat} {nb : Int} {Aq : Option Addr} {cq : Nat} {q : List Bid} {W : World} {W' : World} (M : HIn W0 z L' A' c' P nb Aq cq q W) (hb : Below W.heap.size W W') : HIn W0 z L' A' c' P nb Aq cq q W' :=
  ⟨M.x.of (hb.block _ M.x.lt), M.c.below hb, M.q.belowO hb, M.hz, hb0to M.B hb⟩
theorem HIn.fair {W0 : World} {z : Nat} {L' : HL} {A' : Option Addr} {c' P : Nat} {nb : Int} {Aq : Option Addr} {cq : Nat} {q : List Bid} {W : World} (M : HIn W0 z L' A' c' P nb Aq cq q W) : FairAt W W.heap.size ⟨L', A', c', Aq, cq⟩ (hF P nb q) := (CopRet.fair M.c M.q).1
theorem HIn.app {W0 : World} {z : Nat} {L' : HL} {A' : Option Addr} {c' P : Nat} {nb : Int} {Aq : Option Addr} {cq : Nat} {q : List Bid} {W : World} {w5 : World} {A5 : Option Addr} {c5 : Nat} {bd : Bid} (M : HIn W0 z L' A' c' P nb Aq cq q W) (ho : OwnsQ InnOwn w5 W0.heap.size (.slice A5 (q.length + 1) c5) (q ++ [bd])) (hb : Below W0.heap.size W w5) (hk : ∀ t, t ≠ 44 → KeepT t W w5) :
    FBox w5 z ⟨L', A', c', Aq, cq⟩ (hF P nb q) ∧ HIn W0 z L' A' c' P nb A5 c5 (q ++ [bd]) (w5.setCell ⟨z, 7, none⟩ (.slice A5 (q.length + 1) c5)) := by
  have hl : (q ++ [bd]).length = q.length + 1 := by simp
  have hx : FBox w5 z ⟨L', A', c', Aq, cq⟩ (hF P nb q) := hk 41 (by decide) _ _ M.x
  have hs : ∀ t (u : Value), t ≠ 41 → KeepT t w5 (w5.setCell ⟨z, 7, none⟩ u) := fun t u ht => KeepT.set hx (Ne.symm ht)
  have k2 : ∀ t (u : Value), t ≠ 41 → t ≠ 44 → KeepT t W (w5.setCell ⟨z, 7, none⟩ u) := fun t u h1 h2 => (hk t h2).trans (hs t u h1)
  refine ⟨hx, ?_, ?_, ?_, M.hz, ?_⟩
  · have e := heap_set (o := 7) (.slice A5 (q.length + 1) c5) hx
    rw [← hl] at e ⊢
    exact e
  · exact ⟨⟨M.c.h.k.keepT (k2 _ _ (by decide) (by decide)), M.c.h.p.keepT (k2 _ _ (by decide) (by decide)), M.c.h.b.keepT (k2 _ _ (by decide) (by decide))⟩, M.c.p.keepT (k2 _ _ (by decide) (by decide))⟩
  · rw [hl]; exact ho.keepO (hs _ _ (by decide)) (hs _ _ (by decide))
  · exact (M.B.trans hb).setCell (p := ⟨z, 7, none⟩) M.hz _
theorem HIn.new {W0 w5 : World} {n5 : Nat} {L' : HL} {A' : Option Addr} {c' P : Nat} {nb : Int} (hc : CopF w5 n5 ⟨L', A', c', none, 0⟩ (emptyF P nb)) (h5 : W0.heap.size ≤ n5) (hB : Below W0.heap.size W0 w5) :
    HIn W0 w5.heap.size L' A' c' P nb none 0 [] (w5.alloc (.cells #[.slice L'.Ak (emptyF P nb).h.ks.length L'.ck, .int .i64 (emptyF P nb).h.fl, .slice L'.Ap (emptyF P nb).h.ps.length L'.cp, .slice L'.Ab (emptyF P nb).h.bs.length L'.cb, .slice A' (emptyF P nb).pk.length c', .int .i64 (emptyF P nb).day, .int .i64 (emptyF P nb).nb, .slice none (emptyF P nb).q.length 0] 41)) where
  x := FBox.new w5 ⟨L', A', c', none, 0⟩ (emptyF P nb)
  c := (hc.below (al_below _ _)).mono h5
  q := ⟨[], rfl, World.ownsRow_nil _ _ _ _, by simp⟩
  hz := hB.size
  B := hb0to hB (al_below _ _)
theorem hF_fn {P : Nat} {nb : Int} {q : List Bid} (hP : P ≤ 4) (hq : q.length ≤ 1000) (hb : ∀ b ∈ q, b.bar.length ≤ 1000) : FN (hF P nb q) :=
  ⟨⟨by simp [hF, emptyF], by simp [hF, emptyF]; omega, by simp [hF, emptyF]; omega⟩, by simp [hF, emptyF, intsN_len]; omega, hq, hb⟩
/-- The fair, laid, and its box. -/
structure FE (W0 : World) (z : Nat) (F : FL) (f : Fair) (W : World) : Prop where
  H : FairAt W W.heap.size F f
  x : FBox W z F f
  B : Below W0.heap.size W0 W
theorem FE.next {W0 : World} {z : Nat} {F : FL} {f : Fair} {W W' : World} (M : FE W0 z F f W) (hb : Below W.heap.size W W') : FE W0 z F f W' := ⟨M.H.below hb, M.x.of (hb.block _ M.x.lt), hb0to M.B hb⟩
end Go.Proofs.YtmbcpmnigggbaabGreat
namespace Go.Proofs.YtmbcpmnigggbaabGreat
/-! Bids that can all win together: the plain law of TopLots. -/
theorem brings_filter {q : List Bid} (hq : ∀ b ∈ q, 0 ≤ b.pay) (p : Nat → Bool) (l : List Nat) : bringsL q (l.filter p) ≤ bringsL q l := by
  have h1 := brings_split q p l
  have h2 := brings_nonneg hq (l.filter fun i => !p i)
  omega
theorem sale_filter {q : List Bid} {rd : List Int} (h8 : q.length ≤ 8) {l : List Nat} (hs : SaleL q rd l) : ∃ p : Nat → Bool, l = (List.range q.length).filter p := by
  obtain ⟨m, _, e⟩ := bits_all q.length h8 l hs.up fun i hi => hs.lt hi
  exact ⟨fun i => m.testBit i, e.symm⟩
theorem all_le {q : List Bid} {rd : List Int} (hq : ∀ b ∈ q, 0 ≤ b.pay) (h8 : q.length ≤ 8) {l : List Nat} (hs : SaleL q rd l) : bringsL q l ≤ bringsL q (List.range q.length) := by
  obtain ⟨p, rfl⟩ := sale_filter h8 hs
  exact brings_filter hq p _
theorem all_most {q : List Bid} {rd : List Int} (hq : ∀ b ∈ q, 0 ≤ b.pay) (h8 : q.length ≤ 8) (H : SaleL q rd (List.range q.length)) : mostV q rd = bringsL q (List.range q.length) := by
  have h := mostV_is (rd := rd) h8 hq
  have h1 := h.ge _ H trivial
  rcases h.at_ with ⟨e, h2⟩ | ⟨l, hl, _, e⟩
  · exact absurd trivial (h2 _ H)
  · have := all_le hq h8 hl
    omega
theorem all_pay {q : List Bid} {rd : List Int} (hq : ∀ b ∈ q, 0 ≤ b.pay) (h8 : q.length ≤ 8) (H : SaleL q rd (List.range q.length)) (v : Int) : payV q rd v = 0 := by
  have h0 := (payV_bd h8 hq v (rd := rd)).1
  rw [payV_eq h8 hq] at h0 ⊢
  have hw := (win_of_sets (rd := rd) h8 hq).2
  have hwm := hw.most.unique (mostV_is h8 hq)
  rw [all_most hq h8 H] at hwm
  have hn := noneV_is (rd := rd) (v := v) h8 hq
  have h1 := own_others q v (winL q rd)
  have h2 := own_others q v (List.range q.length)
  have h3 : ownL q v (winL q rd) ≤ ownL q v (List.range q.length) := by
    obtain ⟨p, e⟩ := sale_filter h8 hw.sale
    unfold ownL
    rw [e, List.filter_filter, show (fun a => ownP q v a && p a) = (fun a => p a && ownP q v a) from funext fun a => Bool.and_comm _ _, ← List.filter_filter]
    exact brings_filter hq _ _
  have h4 : noneV q rd v ≤ othersL q v (List.range q.length) := by
    rcases hn.at_ with ⟨e, _⟩ | ⟨l, hl, hno, e⟩
    · have := brings_nonneg hq ((List.range q.length).filter fun i => !ownP q v i)
      unfold othersL
      omega
    · have h5 := own_others q v l
      rw [own_none hno] at h5
      have h6 : othersL q v l ≤ othersL q v (List.range q.length) := by
        obtain ⟨p, e2⟩ := sale_filter h8 hl
        unfold othersL
        rw [e2, List.filter_filter, show (fun a => (!ownP q v a) && p a) = (fun a => p a && !ownP q v a) from funext fun a => Bool.and_comm _ _, ← List.filter_filter]
        exact brings_filter hq _ _
      omega
  omega
theorem all_paid {q : List Bid} {rd : List Int} (hq : ∀ b ∈ q, 0 ≤ b.pay) (h8 : q.length ≤ 8) (H : SaleL q rd (List.range q.length)) : ∀ n, paidTo q rd n = 0
  | 0 => rfl
  | n + 1 => by
    have h1 := all_paid hq h8 H n
    have h2 := all_pay hq h8 H (n : Int)
    simp only [paidTo]
    omega
/-- One bid more that cannot win beside any other one. -/
theorem one_more {q : List Bid} {rd : List Int} {b : Bid} (hq : ∀ b ∈ q, 0 ≤ b.pay) (hb : 0 ≤ b.pay) (h8 : q.length + 1 ≤ 8) (H : SaleL q rd (List.range q.length)) (hr : readyB rd b = true) (hcl : ∀ a ∈ q, ∃ x ∈ a.bar, x ∈ b.bar) :
    withV (q ++ [b]) rd q.length = b.pay ∧ outV (q ++ [b]) rd q.length = bringsL q (List.range q.length) := by
  have hq2 : ∀ a ∈ q ++ [b], 0 ≤ a.pay := fun a ha => by
    rcases List.mem_append.1 ha with h | h
    · exact hq a h
    · simp at h; subst h; exact hb
  have hlen : (q ++ [b]).length = q.length + 1 := by simp
  have hlt : q.length < (q ++ [b]).length := by omega
  have hx : (q ++ [b])[q.length]? = some b := by simp
  have hone : SaleL (q ++ [b]) rd [q.length] := by
    have := (sale_snoc (SaleL.nil (q ++ [b]) rd) (by simp) hx).2 ⟨hr, by simp⟩
    simpa using this
  have hpay : bringsL (q ++ [b]) [q.length] = b.pay := by
    rw [brings_cons, brings_nil, payAt_some hx]
    omega
  have hold : ∀ {l : List Nat}, SaleL (q ++ [b]) rd l → ¬ q.length ∈ l → SaleL q rd l ∧ bringsL (q ++ [b]) l = bringsL q l := fun {l} hs hn => by
    have hat : ∀ i ∈ l, i < q.length := fun i hi => by
      have h1 := hs.lt hi
      have : i ≠ q.length := fun e => hn (e ▸ hi)
      omega
    have hget : ∀ i ∈ l, (q ++ [b])[i]? = q[i]? := fun i hi => List.getElem?_append_left (hat i hi)
    refine ⟨⟨hs.up, fun i hi => ?_, fun i hi j hj hij a c ha hc => ?_⟩, ?_⟩
    · obtain ⟨a, h1, h2⟩ := hs.rdy i hi
      rw [hget i hi] at h1
      exact ⟨a, h1, h2⟩
    · exact hs.ap i hi j hj hij a c ((hget i hi).trans ha) ((hget j hj).trans hc)
    · unfold bringsL
      congr 1
      exact List.map_congr_left fun i hi => by unfold payAt; rw [hget i hi]
  constructor
  · have h := withV_is (rd := rd) (i := q.length) (by omega) hq2 hlt
    have h1 := h.ge _ hone (by simp)
    rcases h.at_ with ⟨e, h2⟩ | ⟨l, hl, hi, e⟩
    · exact absurd (by simp) (h2 _ hone)
    · have he : l = [q.length] := by
        have hall : ∀ i ∈ l, i = q.length := fun i hil => by
          refine Decidable.byContradiction fun hne => ?_
          have hlti := hl.lt hil
          obtain ⟨a, ha⟩ : ∃ a, q[i]? = some a := ⟨_, List.getElem?_eq_getElem (by omega)⟩
          obtain ⟨x, hx1, hx2⟩ := hcl a (List.mem_of_getElem? ha)
          have := (apart_iff.1 (hl.ap i hil q.length hi hne a b (by rw [List.getElem?_append_left (by omega)]; exact ha) hx)).2 x hx1
          exact this hx2
        have hnd := hl.nodup
        match l, hi, hall, hnd with
        | [x], _, ha, _ => rw [ha x (by simp)]
        | x :: y :: t, _, ha, hd =>
          have h1 := ha x (by simp)
          have h2 := ha y (by simp)
          rw [h1, h2] at hd
          simp at hd
      rw [he, hpay] at e
      exact e.symm
  · have h := outV_is (rd := rd) (i := q.length) (by omega) hq2 hlt
    have hs := (sale_more b H).1
    have hbr := (sale_more b H).2
    have h1 := h.ge _ hs (by simp)
    rcases h.at_ with ⟨e, h2⟩ | ⟨l, hl, hi, e⟩
    · exact absurd (by simp) (h2 _ hs)
    · obtain ⟨h3, h4⟩ := hold hl hi
      have := all_le hq (by omega) h3
      omega
/-! The bids of the parts that are sold. -/
def lotsQ (p : List Int) (k : Nat) : List Bid := (List.range k).map fun i : Nat => ⟨(i : Int), [(i : Int)], p.getD i 0⟩
theorem lotsQ_zero (p : List Int) : lotsQ p 0 = [] := rfl
theorem lotsQ_succ (p : List Int) (k : Nat) : lotsQ p (k + 1) = lotsQ p k ++ [⟨(k : Int), [(k : Int)], p.getD k 0⟩] := by simp [lotsQ, List.range_succ]
theorem lotsQ_len (p : List Int) (k : Nat) : (lotsQ p k).length = k := by simp [lotsQ]
theorem lotsQ_at (p : List Int) {k i : Nat} (h : i < k) : (lotsQ p k)[i]? = some ⟨(i : Int), [(i : Int)], p.getD i 0⟩ := by simp [lotsQ, h]
theorem mem_lotsQ {p : List Int} {k : Nat} {b : Bid} (h : b ∈ lotsQ p k) : ∃ i : Nat, i < k ∧ b = ⟨(i : Int), [(i : Int)], p.getD i 0⟩ := by
  obtain ⟨i, hi, rfl⟩ := List.mem_map.1 h
  exact ⟨i, List.mem_range.1 hi, rfl⟩
theorem lots_sale (p : List Int) {k : Nat} {rd : List Int} (hr : ∀ i : Nat, i < k → (i : Int) ∈ rd) : SaleL (lotsQ p k) rd (List.range (lotsQ p k).length) := by
  rw [lotsQ_len]
  refine ⟨List.pairwise_lt_range, fun i hi => ?_, fun i hi j hj hij a b ha hb => ?_⟩
  · have h := List.mem_range.1 hi
    refine ⟨_, lotsQ_at p h, ready_iff.2 fun n hn => ?_⟩
    simp at hn
    subst hn
    exact hr i h
  · rw [lotsQ_at p (List.mem_range.1 hi)] at ha
    rw [lotsQ_at p (List.mem_range.1 hj)] at hb
    cases ha
    cases hb
    refine apart_iff.2 ⟨fun e => hij (by have e' : (i : Int) = (j : Int) := e; omega), fun n hn1 hn2 => ?_⟩
    simp at hn1 hn2
    omega
def sumTo (p : List Int) (k : Nat) : Int := ((List.range k).map fun i => p.getD i 0).sum
theorem sumTo_succ (p : List Int) (k : Nat) : sumTo p (k + 1) = sumTo p k + p.getD k 0 := by simp [sumTo, List.range_succ]
theorem lots_brings (p : List Int) (k : Nat) : bringsL (lotsQ p k) (List.range (lotsQ p k).length) = sumTo p k := by
  rw [lotsQ_len]
  unfold bringsL sumTo
  congr 1
  exact List.map_congr_left fun i hi => by rw [payAt_some (lotsQ_at p (List.mem_range.1 hi))]
theorem sumTo_app (l : List Int) (x : Int) {k : Nat} (hk : k ≤ l.length) : sumTo (l ++ [x]) k = sumTo l k := by
  unfold sumTo
  congr 1
  exact List.map_congr_left fun i hi => by
    have := List.mem_range.1 hi
    rw [List.getD_eq_getElem?_getD, List.getElem?_append_left (by omega), List.getD_eq_getElem?_getD]
theorem lotsQ_app (l : List Int) (x : Int) {k : Nat} (hk : k ≤ l.length) : lotsQ (l ++ [x]) k = lotsQ l k := by
  unfold lotsQ
  exact List.map_congr_left fun i hi => by
    have := List.mem_range.1 hi
    rw [List.getD_eq_getElem?_getD, List.getElem?_append_left (by omega), List.getD_eq_getElem?_getD]
theorem sumTo_snoc (l : List Int) (x : Int) : sumTo (l ++ [x]) (l.length + 1) = sumTo l l.length + x := by
  rw [sumTo_succ, sumTo_app l x (Nat.le_refl _), List.getD_eq_getElem?_getD, List.getElem?_append_right (Nat.le_refl _)]
  simp
end Go.Proofs.YtmbcpmnigggbaabGreat
namespace Go.Proofs.YtmbcpmnigggbaabGreat
open Go.RowKit

/-! slices.Contains 108, crews 104 and its closure 107. -/
/-- What Index returns. -/
def IdxPost (l : List Int) (x : Int) (w : World) (e : Ending) (w' : World) : Prop := ∃ r : Int, e = .returned (.int .i64 r) ∧ decide (0 ≤ r) = decide (x ∈ l) ∧ w = w'
set_option maxRecDepth 100000 in
theorem index_any (l : List Int) (x : Int) (A : Option Addr) (c : Nat) (hl : l.length ≤ 1000) (w : World) (hI : IntsAt w w.heap.size A l) : Calls Tryz.prog 81 #[.slice A l.length c, .int .i64 x] w (IdxPost l x w) := by
  have HI := Lib.hid hI
  clear hI
  go_enter Tryz.func81, Tryz.ntmps81
  go_wp2_with (fail)
  go_loop [8] (fun i => ∃ k : Nat, k ≤ l.length ∧ i = .int .i64 k ∧ Hid (¬ x ∈ l.take k)) (fun i => l.length - (intOf i).toNat)
  case atStart => exact ⟨0, Nat.zero_le _, rfl, Lib.hid (by simp)⟩
  case round =>
    obtain ⟨k, hk, rfl, hno⟩ := hrel
    by_cases hlt : k < l.length
    · obtain ⟨j, hj⟩ : ∃ j, l[k]? = some j := ⟨_, List.getElem?_eq_getElem hlt⟩
      obtain ⟨bi, oi, eA, blt, d1⟩ := HI.out.at_ hj
      have HJ := Lib.hid hj
      subst eA
      clear hj
      by_cases hx : x = j
      · have hxb : (x == j) = true := by simpa using hx
        have HM := Lib.hid (show x ∈ l by rw [hx]; exact List.mem_of_getElem? HJ.out)
        clear hx
        go_wp2_with (fail)
        go_ret
        exact ⟨k, rfl, by rw [decide_eq_true HM.out]; exact decide_eq_true (by omega), rfl⟩
      · have hxb : (x == j) = false := by simpa using hx
        have HN := Lib.hid (show ¬ x ∈ l.take (k + 1) by
          rw [List.take_add_one, HJ.out]
          simp only [List.mem_append, Option.toList_some, List.mem_singleton, not_or]
          exact ⟨hno.out, hx⟩)
        clear hx
        go_wp2_with (fail)
        go_round
        case rel => exact ⟨k + 1, by omega, by go_num, HN⟩
        case measure => simp [intOf]; omega
    · obtain rfl : k = l.length := by omega
      have HN := Lib.hid (show ¬ x ∈ l by have := hno.out; rwa [List.take_length] at this)
      go_wp2_with (fail)
      go_ret
      exact ⟨-1, rfl, by rw [decide_eq_false HN.out]; rfl, rfl⟩
theorem contains_any (l : List Int) (x : Int) (A : Option Addr) (c : Nat) (hl : l.length ≤ 1000) (w : World) (hI : IntsAt w w.heap.size A l) : Calls Tryz.prog 55 #[.slice A l.length c, .int .i64 x] w fun e w' => e = .returned (.bool (decide (x ∈ l))) ∧ w = w' := by
  have H := Lib.hid (index_any l x A c hl w hI)
  clear hI
  go_enter Tryz.func55, Tryz.ntmps55
  go_wp2_with (go_at_call 81; refine H.out.mono ?_; rintro e w' ⟨r, rfl, hr, rfl⟩; have HR := Lib.hid hr; clear hr)
  go_ret
  exact ⟨by rw [← HR.out]; rfl, rfl⟩

end Go.Proofs.YtmbcpmnigggbaabGreat
namespace Go.Proofs.YtmbcpmnigggbaabGreat.Cu
/-! Cuts in plain words: a table, costs of weights, and the least cost of a parting as the program finds it. -/
structure CP where
  of : Int
  wl : Int
  wh : Int
  sl : Int
  sh : Int
  pe : Int
def far : Int := 1099511627776
def cat (c : List Int) (n : Nat) : Int := c.getD n far
def nothingL : List Int := 0 :: List.replicate 30 far
/-- The least of the costs of a weight in two parts, of which the first is one of the first k. -/
def convTo (c d : List Int) (n : Nat) : Nat → Int
  | 0 => far
  | k + 1 => if k ≤ n ∧ cat c k < far ∧ cat d (n - k) < far then min (convTo c d n k) (cat c k + cat d (n - k)) else convTo c d n k
def plusL (c d : List Int) : List Int := (List.range 31).map fun n => convTo c d n 31
def lostL (p : CP) : List Int := (List.range 31).map fun w : Nat => if p.sl ≤ (w : Int) ∧ (w : Int) ≤ p.sh then 0 else far
def canCut (t : List CP) (i : Nat) : Bool := t.any fun p => decide (p.of = (i : Int))
/-- The costs of a part with its pieces. -/
def baseL (t : List CP) (i : Nat) (p : CP) (pc : List Int) : List Int := if canCut t i then plusL pc (lostL p) else List.replicate 31 0
def ownL (cost : Nat → Int) (base : List Int) : List Int := (List.range 31).map fun w => if cost w < far ∧ cat base w < far then cat base w + cost w else far
def minL : List Int → Int
  | [] => 0
  | x :: xs => xs.foldl min x
/-- One part more, from the last one on: the costs of each part's pieces, and of all whole ones; none: there is no parting. -/
def stepC (t : List CP) (cost : Nat → Nat → Int) (i : Nat) (p : CP) : Option (List (List Int) × Int) → Option (List (List Int) × Int)
  | none => none
  | some (ps, all) =>
    let own := ownL (cost i) (baseL t i p (ps.getD i []))
    if p.of ≠ -1 then some (ps.set p.of.toNat (plusL (ps.getD p.of.toNat []) own), all)
    else if far ≤ minL own then none else some (ps, all + minL own)
def runC (t : List CP) (cost : Nat → Nat → Int) : Nat → Option (List (List Int) × Int)
  | 0 => some (List.replicate t.length nothingL, 0)
  | k + 1 => match t[t.length - 1 - k]? with
    | none => runC t cost k
    | some p => stepC t cost (t.length - 1 - k) p (runC t cost k)
def leastF (t : List CP) (cost : Nat → Nat → Int) : Int := match runC t cost t.length with
  | none => far
  | some (_, all) => all
theorem plusL_len (c d : List Int) : (plusL c d).length = 31 := by simp [plusL]
theorem nothingL_len : nothingL.length = 31 := rfl
theorem lostL_len (p : CP) : (lostL p).length = 31 := by simp [lostL]
theorem ownL_len (cost : Nat → Int) (b : List Int) : (ownL cost b).length = 31 := by simp [ownL]
theorem cat_some {c : List Int} {n : Nat} {x : Int} (h : c[n]? = some x) : cat c n = x := by unfold cat; rw [List.getD_eq_getElem?_getD, h]; rfl
theorem cat_at {c : List Int} {n : Nat} (h : n < c.length) : c[n]? = some (cat c n) := by
  unfold cat
  rw [List.getD_eq_getElem?_getD, List.getElem?_eq_getElem h]
  rfl
theorem plusL_at (c d : List Int) {n : Nat} (h : n < 31) : (plusL c d)[n]? = some (convTo c d n 31) := by simp [plusL, h]
theorem conv_skip {c d : List Int} {n k : Nat} (h : n < k) : convTo c d n (k + 1) = convTo c d n k := by
  rw [convTo, if_neg (by omega)]
theorem conv_yes {c d : List Int} {v w : Nat} (h1 : cat c v < far) (h2 : cat d w < far) : convTo c d (v + w) (v + 1) = min (convTo c d (v + w) v) (cat c v + cat d w) := by
  rw [convTo, Nat.add_sub_cancel_left, if_pos ⟨by omega, h1, h2⟩]
theorem conv_no {c d : List Int} {v w : Nat} (h : ¬ (cat c v < far ∧ cat d w < far)) : convTo c d (v + w) (v + 1) = convTo c d (v + w) v := by
  rw [convTo, Nat.add_sub_cancel_left, if_neg (fun e => h ⟨e.2.1, e.2.2⟩)]
/-- Costs are far, or within a bound. -/
def Fin (b : Int) (c : List Int) : Prop := c.length = 31 ∧ ∀ (n : Nat) (x : Int), c[n]? = some x → x = far ∨ (-b ≤ x ∧ x ≤ b)
theorem conv_fin {a b : Int} {c d : List Int} (hc : Fin a c) (hd : Fin b d) (hab : a + b < far) (n : Nat) : ∀ k, convTo c d n k = far ∨ (-(a + b) ≤ convTo c d n k ∧ convTo c d n k ≤ a + b)
  | 0 => .inl rfl
  | k + 1 => by
    have ih := conv_fin hc hd hab n k
    rw [convTo]
    split
    · rename_i h
      have h1 : cat c k = far ∨ (-a ≤ cat c k ∧ cat c k ≤ a) := by
        by_cases hk : k < c.length
        · exact hc.2 k _ (cat_at hk)
        · left; unfold cat; rw [List.getD_eq_getElem?_getD, List.getElem?_eq_none (by omega)]; rfl
      have h2 : cat d (n - k) = far ∨ (-b ≤ cat d (n - k) ∧ cat d (n - k) ≤ b) := by
        by_cases hk : n - k < d.length
        · exact hd.2 _ _ (cat_at hk)
        · left; unfold cat; rw [List.getD_eq_getElem?_getD, List.getElem?_eq_none (by omega)]; rfl
      omega
    · exact ih
theorem plus_fin {a b : Int} {c d : List Int} (hc : Fin a c) (hd : Fin b d) (hab : a + b < far) : Fin (a + b) (plusL c d) := by
  refine ⟨plusL_len c d, fun n x hx => ?_⟩
  have hn : n < 31 := by have := (List.getElem?_eq_some_iff.1 hx).1; rwa [plusL_len] at this
  rw [plusL_at c d hn] at hx
  cases hx
  exact conv_fin hc hd hab n 31
theorem Fin.mono {a b : Int} {c : List Int} (h : Fin a c) (hab : a ≤ b) : Fin b c := ⟨h.1, fun n x hx => by
  rcases h.2 n x hx with h | h
  · exact .inl h
  · exact .inr (by omega)⟩
theorem nothing_fin : Fin 0 nothingL := ⟨rfl, fun n x hx => by
  match n, hx with
  | 0, hx => simp [nothingL] at hx; subst hx; exact .inr (by omega)
  | n + 1, hx =>
    unfold nothingL at hx
    rw [List.getElem?_cons_succ] at hx
    exact .inl (List.eq_of_mem_replicate (List.mem_of_getElem? hx))⟩
end Go.Proofs.YtmbcpmnigggbaabGreat.Cu
namespace Go.Proofs.YtmbcpmnigggbaabGreat.Cu
open Go.RowKit
def vals (l : List Int) : List Value := l.map (Value.int .i64)
/-- A block that holds costs. -/
def CB (W : World) (b : Nat) (l : List Int) : Prop := W.heap[b]? = some (.cells (vals l).toArray 124 (0, 0))
theorem CB.lt {W : World} {b : Nat} {l : List Int} (h : CB W b l) : b < W.heap.size := heap_lt h
theorem CB.cell {W : World} {b n : Nat} {l : List Int} {x : Int} (h : CB W b l) (hx : l[n]? = some x) : W.cell? ⟨b, n, none⟩ = some (.int .i64 x) := cell_of_heap (o := n) h (by simp [vals, hx])
theorem CB.frozen {W : World} {b : Nat} {l : List Int} (h : CB W b l) (o : Nat) : W.frozen? ⟨b, o, none⟩ = false := frozen_of_heap h o
theorem CB.of {W W' : World} {b : Nat} {l : List Int} (h : CB W b l) (e : W'.heap[b]? = W.heap[b]?) : CB W' b l := e.trans h
theorem CB.next {W W' : World} {b : Nat} {l : List Int} (h : CB W b l) (hb : Below W.heap.size W W') : CB W' b l := h.of (hb.block _ h.lt)
theorem CB.set {W : World} {b : Nat} {l : List Int} (h : CB W b l) (n : Nat) (x : Int) : CB (W.setCell ⟨b, n, none⟩ (.int .i64 x)) b (l.set n x) := by
  unfold CB
  rw [heap_set (o := n) (.int .i64 x) h]
  simp [vals]
theorem CB.other {W : World} {b z o : Nat} {l : List Int} {u : Value} (h : CB W b l) (hn : b ≠ z) : CB (W.setCell ⟨z, o, none⟩ u) b l := h.of (set_other_heap h.lt hn)
theorem CB.range {W : World} {b : Nat} {l : List Int} (h : CB W b l) : W.rangeAt b 0 (vals l) := fun j v hj => by
  simp [World.cell?, show W.heap[b]? = _ from h, hj]
theorem CB.there {W : World} {b : Nat} {l : List Int} (h : CB W b l) : W.there b 0 l.length := fun j hj => by
  have hj' : j < (vals l).length := by simpa [vals] using hj
  exact ⟨by simp [World.cell?, show W.heap[b]? = _ from h, hj'], by simp [World.frozen?, show W.heap[b]? = _ from h]⟩
theorem vals_one (l : List Int) : (vals l).toArray.all (·.oneCell') = true := by
  rw [Array.all_eq_true']
  intro v hv
  simp [vals] at hv
  obtain ⟨x, _, rfl⟩ := hv
  rfl
theorem info226 {l : List Int} (hl : l.length = 31) : (Tryz.prog.info? 124).map (·.size) = some (vals l).length := by rw [vals, List.length_map, hl]; kernel_rfl
theorem info226' {l : List Int} (hl : l.length = 31) : (Tryz.prog.info? 124).map (·.size) = some (vals l).toArray.size := by rw [List.size_toArray]; exact info226 hl
/-- Many cells of a block stored one behind the other. -/
theorem setCells_heap (b : Nat) (t : TypeId) : ∀ (vs : List Value) (o : Nat) (pre post : List Value) (W : World), post.length = vs.length → ∀ suf : List Value, W.heap[b]? = some (.cells (pre ++ post ++ suf).toArray t (0, 0)) → pre.length = o → (W.setCells b o vs).heap[b]? = some (.cells (pre ++ vs ++ suf).toArray t (0, 0))
  | [], o, pre, post, W, hl, suf, h, _ => by
    have : post = [] := List.length_eq_zero_iff.1 hl
    subst this
    exact h
  | v :: vs, o, pre, post, W, hl, suf, h, ho => by
    cases post with
    | nil => simp at hl
    | cons p post =>
      rw [World.setCells]
      have h1 := heap_set (o := o) v h
      have e : (pre ++ (p :: post) ++ suf).toArray.setIfInBounds o v = ((pre ++ [v]) ++ post ++ suf).toArray := by
        subst ho
        simp
      rw [e] at h1
      have := setCells_heap b t vs (o + 1) (pre ++ [v]) post _ (by simpa using hl) suf h1 (by simp [ho])
      simpa using this
theorem CB.put {W : World} {b : Nat} {l l' : List Int} (h : CB W b l) (hl : l'.length = l.length) : CB (W.setCells b 0 (vals l')) b l' := by
  have := setCells_heap b 124 (vals l') 0 [] (vals l) W (by simp [vals, hl]) [] (by have h' : W.heap[b]? = some (.cells (vals l).toArray 124 (0, 0)) := h; simpa using h') rfl
  have e : (W.setCells b 0 (vals l')).heap[b]? = some (.cells (vals l').toArray 124 (0, 0)) := by simpa using this
  exact e
theorem setCells_other (b z : Nat) (hn : b ≠ z) : ∀ (vs : List Value) (o : Nat) (W : World), b < W.heap.size → (W.setCells z o vs).heap[b]? = W.heap[b]?
  | [], _, _, _ => rfl
  | v :: vs, o, W, h => by
    rw [World.setCells, setCells_other b z hn vs (o + 1) _ (by simpa using h)]
    exact set_other_heap h hn
theorem below_setCells {n : Nat} {w : World} {z : Nat} (hz : n ≤ z) : ∀ (vs : List Value) (o : Nat) (W : World), Below n w W → Below n w (W.setCells z o vs)
  | [], _, _, h => h
  | v :: vs, o, W, h => by
    rw [World.setCells]
    exact below_setCells hz vs (o + 1) _ (h.setCell (p := ⟨z, o, none⟩) hz v)
theorem CB.far_put {W : World} {b z : Nat} {l : List Int} (h : CB W b l) (hn : b ≠ z) (vs : List Value) (o : Nat) : CB (W.setCells z o vs) b l := h.of (setCells_other b z hn vs o W h.lt)
/-- A whole array is loaded. -/
theorem wpl_loadC {ops : Array Oper} {rest : List Oper} {o : Oper} {a : Act} {w : World} {Q : Exit → Act → World → Prop} (hgd : o.guard = none) (x : Operand) (ho : o.op = .load 124 x) (b : Nat)
    (hx : a.eval x = .pointer (some ⟨b, 0, none⟩)) (l : List Int) (hl : l.length = 31) (hC : CB w b l) (h : wpList Tryz.prog ops Q rest (a.put o.dst (.agg (vals l).toArray)) w) : wpList Tryz.prog ops Q (o :: rest) a w :=
  wpList_load_mid hgd 124 x ho b 0 hx (vals l) _ hC.range Tryz.underlying124 rfl (info226 hl) h
/-- A whole array is stored. -/
theorem wpl_storeC {ops : Array Oper} {rest : List Oper} {o : Oper} {a : Act} {w : World} {Q : Exit → Act → World → Prop} (hgd : o.guard = none) (x y : Operand) (ho : o.op = .store 124 x y) (b : Nat)
    (hx : a.eval x = .pointer (some ⟨b, 0, none⟩)) (l l' : List Int) (hy : a.eval y = .agg (vals l').toArray) (hl : l.length = 31) (hl' : l'.length = 31) (hC : CB w b l)
    (h : wpList Tryz.prog ops Q rest (a.put o.dst undef) (w.setCells b 0 (vals l'))) : wpList Tryz.prog ops Q (o :: rest) a w :=
  wpList_store_mid hgd 124 x y ho b 0 (vals l').toArray hx hy (by
    have := hC.there
    rw [hl] at this
    have e : (vals l').toArray.size = 31 := by simp [vals, hl']
    rw [e]; exact this) (info226' hl') (vals_one l') (by rw [List.toList_toArray]; exact h)
theorem loadC {W : World} {b : Nat} {l : List Int} (hl : l.length = 31) (hC : CB W b l) : (Instr.loadAt 124 (.pointer (some ⟨b, 0, none⟩))).run Tryz.prog W = .ok (.agg (vals l).toArray) W :=
  run_loadAt_mid W b 0 124 (vals l) _ hC.range Tryz.underlying124 rfl (info226 hl)
theorem CB.new (W : World) (l : List Int) : CB (W.alloc (.cells (vals l).toArray 124)) W.heap.size l := World.alloc_heap_new W _

end Go.Proofs.YtmbcpmnigggbaabGreat.Cu
namespace Go.Proofs.YtmbcpmnigggbaabGreat.Cu
open Go.RowKit
theorem minL_snoc (l : List Int) (x : Int) (h : l ≠ []) : minL (l ++ [x]) = min (minL l) x := by
  cases l with
  | nil => exact absurd rfl h
  | cons y ys => simp [minL]
theorem minL_next {l : List Int} {k : Nat} {x : Int} (hk : 0 < k) (h : l[k]? = some x) : minL (l.take (k + 1)) = min (minL (l.take k)) x := by
  have hlt := (List.getElem?_eq_some_iff.1 h).1
  rw [List.take_add_one, h]
  refine minL_snoc _ _ (fun e => ?_)
  have h2 := congrArg List.length e
  rw [List.length_take, List.length_nil] at h2
  omega
set_option maxRecDepth 100000 in
set_option maxHeartbeats 4000000 in
theorem min_any (b : Nat) (l : List Int) (hl : l.length = 31) (w : World) (hC : CB w b l) : Calls Tryz.prog 92 #[.slice (some ⟨b, 0, none⟩) 31 31] w fun e w' => e = .returned (.int .i64 (minL l)) ∧ w = w' := by
  obtain ⟨x0, hx0⟩ : ∃ x, l[0]? = some x := ⟨_, List.getElem?_eq_getElem (by omega)⟩
  have e0 := hC.cell hx0
  have HC := Lib.hid hC
  have H0 := Lib.hid (show x0 = minL (l.take 1) by
    cases l with
    | nil => simp at hl
    | cons y ys =>
      simp at hx0
      subst hx0
      simp [minL])
  clear hx0 hC
  go_enter Tryz.func92, Tryz.ntmps92
  go_wp2
  go_loopw [3, 4] (fun m i wr => ∃ k : Nat, 1 ≤ k ∧ k ≤ 31 ∧ i = .int .i64 k ∧ (∃ y : Int, m = .int .i64 y ∧ Hid (y = minL (l.take k))) ∧ w = wr) (fun _ i _ => 31 - (intOf i).toNat)
  case atStart => exact ⟨1, Nat.le_refl _, by omega, rfl, ⟨x0, rfl, H0⟩, rfl⟩
  case round =>
    obtain ⟨k, h1, hk, rfl, ⟨y, rfl, hy⟩, rfl⟩ := hrel
    by_cases hlt : k < 31
    · obtain ⟨x, hx⟩ : ∃ x, l[k]? = some x := ⟨_, List.getElem?_eq_getElem (by omega)⟩
      have e1 := HC.out.cell hx
      have hd : decide ((k : Int) < 31) = true := decide_eq_true (by omega)
      have hki : (k : Int) < 31 := by omega
      have HN := Lib.hid (show (if x < y then x else y) = minL (l.take (k + 1)) by
        rw [minL_next h1 hx, ← hy.out]
        split <;> omega)
      clear hx
      go_wp2
      go_roundw
      case rel => exact ⟨k + 1, by omega, by omega, by go_num, ⟨_, rfl, HN⟩, by trivial⟩
      case measure => simp [intOf]; omega
    · obtain rfl : k = 31 := by omega
      have e : y = minL l := by rw [hy.out, List.take_of_length_le (by omega)]
      subst e
      go_wp2
      go_ret
      exact ⟨rfl, rfl⟩

end Go.Proofs.YtmbcpmnigggbaabGreat.Cu
namespace Go.Proofs.YtmbcpmnigggbaabGreat.Cu
open Go.RowKit
abbrev encP (p : CP) : Value := .agg #[.int .i64 p.of, .int .i64 p.wl, .int .i64 p.wh, .int .i64 p.sl, .int .i64 p.sh, .int .i64 p.pe]
/-- A table in memory. -/
def TableAt (W : World) (B : Nat) (A : Option Addr) (t : List CP) : Prop :=
  t = [] ∨ ∃ b off, A = some ⟨b, off, none⟩ ∧ b < B ∧ ∀ (i : Nat) p, t[i]? = some p → W.cell? ⟨b, off + i * 6, none⟩ = some (.int .i64 p.of) ∧ W.cell? ⟨b, off + i * 6 + 1, none⟩ = some (.int .i64 p.wl) ∧ W.cell? ⟨b, off + i * 6 + 2, none⟩ = some (.int .i64 p.wh) ∧ W.cell? ⟨b, off + i * 6 + 3, none⟩ = some (.int .i64 p.sl) ∧ W.cell? ⟨b, off + i * 6 + 4, none⟩ = some (.int .i64 p.sh) ∧ W.cell? ⟨b, off + i * 6 + 5, none⟩ = some (.int .i64 p.pe)
theorem TableAt.keep {W W' : World} {B B' : Nat} {A : Option Addr} {t : List CP} (h : TableAt W B A t) (hB : B ≤ B') (hk : ∀ b o, b < B → W'.cell? ⟨b, o, none⟩ = W.cell? ⟨b, o, none⟩) : TableAt W' B' A t := by
  rcases h with h | ⟨b, off, hA, hb, hc⟩
  · exact .inl h
  · exact .inr ⟨b, off, hA, by omega, fun i p hp => by rw [hk _ _ hb, hk _ _ hb, hk _ _ hb, hk _ _ hb, hk _ _ hb, hk _ _ hb]; exact hc i p hp⟩
theorem TableAt.lt {W W' : World} {A : Option Addr} {t : List CP} (h : TableAt W W.heap.size A t) (hb : Below W.heap.size W W') : TableAt W' W'.heap.size A t :=
  h.keep hb.size fun _ _ hlt => hb.cell (p := ⟨_, _, none⟩) hlt
theorem TableAt.at_ {W : World} {B : Nat} {A : Option Addr} {t : List CP} (h : TableAt W B A t) {k : Nat} {p : CP} (hx : t[k]? = some p) : ∃ b off, A = some ⟨b, off, none⟩ ∧ b < B ∧
    W.cell? ⟨b, off + k * 6, none⟩ = some (.int .i64 p.of) ∧ W.cell? ⟨b, off + k * 6 + 1, none⟩ = some (.int .i64 p.wl) ∧ W.cell? ⟨b, off + k * 6 + 2, none⟩ = some (.int .i64 p.wh) ∧ W.cell? ⟨b, off + k * 6 + 3, none⟩ = some (.int .i64 p.sl) ∧ W.cell? ⟨b, off + k * 6 + 4, none⟩ = some (.int .i64 p.sh) ∧ W.cell? ⟨b, off + k * 6 + 5, none⟩ = some (.int .i64 p.pe) := by
  rcases h with h | ⟨b, off, hA, hb, hc⟩
  · subst h; simp at hx
  · exact ⟨b, off, hA, hb, hc k p hx⟩
def IdxP (p : CP → Bool) (l : List CP) (r : Int) : Prop := decide (0 ≤ r) = l.any p
set_option maxRecDepth 100000 in
set_option maxHeartbeats 4000000 in
theorem idxC_any (gf pb c : Nat) (A : Option Addr) (l : List CP) (hl : l.length ≤ 1000) (p : CP → Bool) (w : World) (hP : TableAt w w.heap.size A l) (eg : ∀ args w, (callFunc gf args).run Tryz.prog w = .ok (.enter gf args) w)
    (hf : ∀ (x : CP) (W : World), x ∈ l → Below w.heap.size w W → Calls Tryz.prog gf #[encP x, .pointer (some ⟨pb, 0, none⟩)] W fun e w' => e = .returned (.bool (p x)) ∧ Below W.heap.size W w') :
    Calls Tryz.prog 94 #[.slice A l.length c, .func (.func gf) #[] #[.pointer (some ⟨pb, 0, none⟩)]] w fun e w' => ∃ r, e = .returned (.int .i64 r) ∧ IdxP p l r ∧ Below w.heap.size w w' := by
  have HF := Lib.hid hf
  have HPn := Lib.hid hP
  clear hf hP
  go_enter Tryz.func94, Tryz.ntmps94
  go_wp2
  go_loopw [5, 8] (fun _ i wr => ∃ k : Nat, k ≤ l.length ∧ i = .int .i64 k ∧ Hid (∀ x ∈ l.take k, p x = false) ∧ Below w.heap.size w wr) (fun _ i _ => l.length - (intOf i).toNat)
  case atStart => exact ⟨0, Nat.zero_le _, rfl, Lib.hid (fun j hj => by simp at hj), Below.refl _ _⟩
  case round =>
    obtain ⟨k, hk, rfl, HK, hb⟩ := hrel
    by_cases hlt : k < l.length
    · obtain ⟨x, hx⟩ : ∃ x, l[k]? = some x := ⟨_, List.getElem?_eq_getElem hlt⟩
      obtain ⟨b, off, rfl, hbb, c1, c2, c3, c4, c5, c6⟩ := HPn.out.at_ hx
      have d1 := below_cell hb c1
      have d2 := below_cell hb c2
      have d3 := below_cell hb c3
      have d4 := below_cell hb c4
      have d5 := below_cell hb c5
      have d6 := below_cell hb c6
      have hmem : x ∈ l := List.mem_of_getElem? hx
      have htk : l.take (k + 1) = l.take k ++ [x] := by rw [List.take_add_one, hx]; rfl
      have HT := Lib.hid htk
      clear hx c1 c2 c3 c4 c5 c6 htk
      cases hp : p x
      all_goals
        have hc := HF.out x wr hmem hb
        rw [hp] at hc
        have HC := Lib.hid hc
        have HP := Lib.hid hp
        clear hc hp
        go_wp2_with (refine HC.out.mono ?_; rintro e w1 ⟨rfl, hb1⟩)
      · go_roundw
        case rel => exact ⟨k + 1, by omega, by go_num, Lib.hid (fun y hy => by
            rw [HT.out, List.mem_append] at hy
            rcases hy with hy | hy
            · exact HK.out y hy
            · rw [List.mem_singleton.1 hy]; exact HP.out), hb.trans (hb1.mono hb.size)⟩
        case measure => simp [intOf]; omega
      · go_ret
        refine ⟨k, rfl, ?_, hb.trans (hb1.mono hb.size)⟩
        rw [IdxP, List.any_eq_true.2 ⟨x, hmem, HP.out⟩]
        simp
    · obtain rfl : k = l.length := by omega
      go_wp2
      go_ret
      refine ⟨-1, rfl, ?_, hb⟩
      have : l.any p = false := by
        rw [List.any_eq_false]
        intro y hy
        rw [HK.out y (by rw [List.take_length]; exact hy)]
        simp
      rw [IdxP, this]
      rfl
theorem hasC_any (gf pb c : Nat) (A : Option Addr) (l : List CP) (hl : l.length ≤ 1000) (p : CP → Bool) (w : World) (hP : TableAt w w.heap.size A l) (eg : ∀ args w, (callFunc gf args).run Tryz.prog w = .ok (.enter gf args) w)
    (hf : ∀ (x : CP) (W : World), x ∈ l → Below w.heap.size w W → Calls Tryz.prog gf #[encP x, .pointer (some ⟨pb, 0, none⟩)] W fun e w' => e = .returned (.bool (p x)) ∧ Below W.heap.size W w') :
    Calls Tryz.prog 79 #[.slice A l.length c, .func (.func gf) #[] #[.pointer (some ⟨pb, 0, none⟩)]] w fun e w' => e = .returned (.bool (l.any p)) ∧ Below w.heap.size w w' := by
  have H := Lib.hid (idxC_any gf pb c A l hl p w hP eg hf)
  clear hf hP eg
  go_enter Tryz.func79, Tryz.ntmps79
  go_wp2_with (go_at_call 94; refine H.out.mono ?_; rintro e w1 ⟨r, rfl, hr, hb1⟩; have HR := Lib.hid hr; clear hr)
  go_ret
  exact ⟨by rw [← HR.out]; rfl, hb1⟩

set_option maxRecDepth 100000 in
set_option maxHeartbeats 4000000 in
theorem cut1_any (p : CP) (g : Nat) (i : Int) (w : World) (hg : w.cell? ⟨g, 0, none⟩ = some (.int .i64 i)) :
    Calls Tryz.prog 80 #[encP p, .pointer (some ⟨g, 0, none⟩)] w fun e w' => e = .returned (.bool (decide (p.of = i))) ∧ Below w.heap.size w w' := by
  have hg2 := below_cell (al_below w (.cells #[.int .i64 p.of, .int .i64 p.wl, .int .i64 p.wh, .int .i64 p.sl, .int .i64 p.sh, .int .i64 p.pe] 34)) hg
  go_enter Tryz.func80, Tryz.ntmps80
  go_wp2
  go_ret
  exact ⟨rfl, al_below _ _⟩
set_option maxRecDepth 100000 in
set_option maxHeartbeats 4000000 in
theorem canCut_any (A : Option Addr) (c : Nat) (t : List CP) (hl : t.length ≤ 1000) (k : Nat) (w : World) (hT : TableAt w w.heap.size A t) :
    Calls Tryz.prog 54 #[.slice A t.length c, .int .i64 k] w fun e w' => e = .returned (.bool (canCut t k)) ∧ Below w.heap.size w w' := by
  have hb := al_below w (.cells #[.int .i64 (k : Int)] 3)
  have HB := Lib.hid hb
  have hx := heap_new1 w (.cells #[.int .i64 (k : Int)] 3)
  have H := Lib.hid (hasC_any 80 w.heap.size c A t hl (fun p => decide (p.of = (k : Int))) _ (hT.lt hb) (enters_of Tryz.func80 (by kernel_rfl) rfl) (fun x W _ hW => cut1_any x w.heap.size k W (below_cell hW (cell_of_heap (o := 0) hx rfl))))
  clear hT hx hb
  go_enter Tryz.func54, Tryz.ntmps54
  go_wp2_with (go_at_call 79; refine H.out.mono ?_; rintro e w1 ⟨rfl, hb1⟩; have HB1 := Lib.hid hb1; clear hb1)
  go_ret
  exact ⟨rfl, hb0to HB.out HB1.out⟩

end Go.Proofs.YtmbcpmnigggbaabGreat.Cu
namespace Go.Proofs.YtmbcpmnigggbaabGreat.Cu
open Go.RowKit
attribute [local go_sem] Oper.semAt_some
/-- The parts of a table, from the last one on, k of them. -/
def backTo (t : List CP) (k : Nat) : List (CP × Nat) := t.zipIdx.reverse.take k
def backL (t : List CP) : List (CP × Nat) := t.zipIdx.reverse
theorem back_at {t : List CP} {k : Nat} (h : k < t.length) : ∃ p, t[t.length - 1 - k]? = some p ∧ (backL t)[k]? = some (p, t.length - 1 - k) := by
  have h1 : t.length - 1 - k < t.length := by omega
  refine ⟨t[t.length - 1 - k], List.getElem?_eq_getElem h1, ?_⟩
  unfold backL
  rw [List.getElem?_reverse (by simpa using h), List.length_zipIdx, List.getElem?_zipIdx, List.getElem?_eq_getElem h1]
  simp
theorem back_succ {t : List CP} {k : Nat} {p : CP} (h : (backL t)[k]? = some (p, t.length - 1 - k)) : backTo t (k + 1) = backTo t k ++ [(p, t.length - 1 - k)] := by
  unfold backTo
  rw [List.take_add_one, show t.zipIdx.reverse[k]? = _ from h]
  rfl
theorem back_pre (t : List CP) (k : Nat) : backTo t k <+: backL t := List.take_prefix _ _
theorem back_all (t : List CP) : backTo t t.length = backL t := by
  unfold backTo backL
  rw [List.take_of_length_le (by simp)]
def SeesB (_ : Nat) (x : CP × Nat) (args : Array Value) (_ : World) : Prop := args = #[.int .i64 (x.2 : Int), encP x.1]
set_option maxRecDepth 100000 in
set_option maxHeartbeats 4000000 in
theorem back_makes (n : Nat) (A : Option Addr) (c : Nat) (t : List CP) (hl : t.length ≤ 1000) (g : Nat) (w0 w : World) (hT : TableAt w0 w0.heap.size A t) (hg : w.heap[g]? = some (.cells #[.slice A t.length c] 72 (0, 0))) (hb0 : Below w0.heap.size w0 w) (S : Nat → Prop) (hgS : ¬ S g) (hS : ∀ k, S k → w0.heap.size ≤ k ∧ k < w.heap.size) :
    SeqMakes Fence.wide n Tryz.prog 101 #[] #[.pointer (some ⟨g, 0, none⟩)] S SeesB (backL t) w := by
  intro l J Jx W hbW hJ hJx hY h0
  have HSK := Lib.hid (show ∀ k, (S k ∨ Seg w.heap.size W.heap.size k) → w0.heap.size ≤ k from fun k hk => by
    rcases hk with hk | hk
    · exact (hS k hk).1
    · have := hk.1; have := hb0.size; omega)
  have HT := Lib.hid hT
  have hgl := heap_lt hg
  have HGW := Lib.hid ((hbW.block g hgl).trans hg)
  have HKG := Lib.hid (show ∀ X Y : World, w.heap.size ≤ X.heap.size → KpB (fun k => S k ∨ Seg w.heap.size W.heap.size k) X.heap.size X Y → Y.heap[g]? = X.heap[g]? from fun X Y hX hk => hk.block g (by omega) (fun hs => hs.elim hgS (fun hs => by have := hs.1; omega)))
  have HSW := Lib.hid hbW.size
  have hbw := hb0to hb0 hbW
  have HBW := Lib.hid hbw
  have HJ := Lib.hid hJ
  have HY := Lib.hid hY
  have H0 := Lib.hid h0
  have g1 := cell_of_heap (o := 0) HGW.out rfl
  have hw1 : IntKind.i64.wrap ((t.length : Int) - 1) = (t.length : Int) - 1 := IntWalk.i64_in _ (by omega)
  clear hT hg hb0 hbw hJ hJx hY h0 hS hbW hgS hgl
  refine callsIn_of_wp Tryz.func101 rfl trivial ?_ rfl
  simp only [Tryz.ntmps101, List.size_toArray, List.length_cons, List.length_nil, Nat.reduceAdd, Nat.reduceSub, Array.replicate_succ, Array.replicate_zero, List.push_toArray, List.append_toArray, List.nil_append, List.cons_append]
  gi_wp2_with (fail)
  gi_loopw [3] (fun i wr => ∃ k : Nat, k ≤ t.length ∧ i = .int .i64 ((t.length : Int) - 1 - (k : Int)) ∧ Hid (J (backTo t k) wr) ∧ Hid (Below w0.heap.size w0 wr) ∧ Hid (W.heap.size ≤ wr.heap.size) ∧ Hid (wr.heap[g]? = some (.cells #[.slice A t.length c] 72 (0, 0)))) (fun i _ => (intOf i + 1).toNat)
  case atStart => exact ⟨0, Nat.zero_le _, by simp, Lib.hid H0.out, HBW, Lib.hid (Nat.le_refl _), HGW⟩
  case round =>
    obtain ⟨k, hk, rfl, hJk, hb, hsz, hgr⟩ := hrel
    have g1 := cell_of_heap (o := 0) hgr.out rfl
    by_cases hlt : k < t.length
    · obtain ⟨p, hp, hbk⟩ := back_at hlt
      have HT2 := Lib.hid (back_succ hbk)
      have HPR := Lib.hid (back_pre t (k + 1))
      obtain ⟨b1, o1, rfl, hbb, d1, d2, d3, d4, d5, d6⟩ := HT.out.at_ hp
      have e1 := below_cell hb.out d1
      have e2 := below_cell hb.out d2
      have e3 := below_cell hb.out d3
      have e4 := below_cell hb.out d4
      have e5 := below_cell hb.out d5
      have e6 := below_cell hb.out d6
      have hi : ((t.length : Int) - 1 - (k : Int)) = ((t.length - 1 - k : Nat) : Int) := by omega
      have HI := Lib.hid hi
      have hY2 := HY.out (backTo t k) (p, t.length - 1 - k) #[.int .i64 ((t.length - 1 - k : Nat) : Int), encP p] wr hsz.out hJk.out rfl (by rw [← HT2.out]; exact HPR.out)
      rw [← HT2.out] at hY2
      obtain ⟨fn, tmps, assign, body, hy, hR⟩ := hY2
      have HR := Lib.hid hR
      rw [hi]
      have hil : t.length - 1 - k < t.length := by omega
      have hge : decide ((0 : Int) ≤ ((t.length - 1 - k : Nat) : Int)) = true := decide_eq_true (by omega)
      have hwi : IntKind.i64.wrap (((t.length - 1 - k : Nat) : Int) - 1) = ((t.length - 1 - k : Nat) : Int) - 1 := IntWalk.i64_in _ (by omega)
      clear hR hi hp hbk d1 d2 d3 d4 d5 d6
      gi_wp2_with (fail)
      refine ⟨(fun h => by cases h), HR.out.mono ?_⟩
      clear HR hy
      rintro e X' ⟨hk2, (⟨rfl, hj2⟩ | ⟨rfl, hj2⟩)⟩
      · have HJ2 := Lib.hid hj2
        have HK2 := Lib.hid hk2
        clear hj2 hk2
        gi_wp2_with (fail)
        go_roundw
        case rel => exact ⟨k + 1, by omega, by rw [show ((t.length : Int) - 1 - ((k + 1 : Nat) : Int)) = ((t.length - 1 - k : Nat) : Int) - 1 by omega], HJ2, Lib.hid (hb.out.trans (HK2.out.belowOf hb.out.size HSK.out)), Lib.hid (Nat.le_trans hsz.out HK2.out.size), Lib.hid ((HKG.out _ _ (Nat.le_trans HSW.out hsz.out) HK2.out).trans hgr.out)⟩
        case measure => first | (simp [intOf]; done) | (simp [intOf]; omega)
      · have HJ2 := Lib.hid hj2
        have HK2 := Lib.hid hk2
        clear hj2 hk2
        gi_wp2_with (fail)
        refine bodyPost_ret (results_none rfl _ _ _) rfl ?_
        exact ⟨⟨_, rfl⟩, Nat.le_trans hsz.out HK2.out.size, .inr ⟨_, HPR.out, HJ2.out⟩⟩
    · obtain rfl : k = t.length := by omega
      have HJN := Lib.hid hJk.out
      rw [back_all] at HJN
      have hge : decide ((0 : Int) ≤ (t.length : Int) - 1 - (t.length : Int)) = false := decide_eq_false (by omega)
      have hm1 : (t.length : Int) - 1 - (t.length : Int) = -1 := by omega
      rw [hm1]
      gi_wp2_with (fail)
      go_end0
      exact ⟨⟨_, rfl⟩, hsz.out, .inl HJN.out⟩
theorem back_any (A : Option Addr) (c n : Nat) (w : World) : Calls Tryz.prog 90 #[.slice A n c] w fun e w' => e = .returned (.func (.func 101) #[] #[.pointer (some ⟨w.heap.size, 0, none⟩)]) ∧ w' = w.alloc (.cells #[.slice A n c] 72) := by
  go_enter Tryz.func90, Tryz.ntmps90
  go_wp2
  go_ret
  exact ⟨rfl, rfl⟩

end Go.Proofs.YtmbcpmnigggbaabGreat.Cu
namespace Go.Proofs.YtmbcpmnigggbaabGreat.Cu
open Go.RowKit
def fillL (k : Nat) : List Int := List.replicate k far ++ List.replicate (31 - k) 0
theorem fill_len {k : Nat} (h : k ≤ 31) : (fillL k).length = 31 := by simp [fillL]; omega
theorem fill_next {k : Nat} (h : k < 31) : (fillL k).set k far = fillL (k + 1) := by
  apply List.ext_getElem?
  intro n
  rw [List.getElem?_set, fill_len (by omega)]
  unfold fillL
  simp only [List.getElem?_append, List.getElem?_replicate, List.length_replicate]
  by_cases h1 : k = n
  · subst h1
    simp [h]
  · by_cases h2 : n < k
    · simp [h1, h2, Nat.lt_succ_of_lt h2]
    · have h3 : ¬ n < k + 1 := by omega
      simp only [h1, h2, h3, if_false]
      by_cases h4 : n < 31
      · rw [if_pos (by omega), if_pos (by omega)]
      · rw [if_neg (by omega), if_neg (by omega)]
theorem fill_end : (fillL 31).set 0 0 = nothingL := rfl
theorem CB.zero (W : World) : CB (W.alloc (.cells #[.int .i64 0, .int .i64 0, .int .i64 0, .int .i64 0, .int .i64 0, .int .i64 0, .int .i64 0, .int .i64 0, .int .i64 0, .int .i64 0, .int .i64 0, .int .i64 0, .int .i64 0, .int .i64 0, .int .i64 0, .int .i64 0, .int .i64 0, .int .i64 0, .int .i64 0, .int .i64 0, .int .i64 0, .int .i64 0, .int .i64 0, .int .i64 0, .int .i64 0, .int .i64 0, .int .i64 0, .int .i64 0, .int .i64 0, .int .i64 0, .int .i64 0] 124)) W.heap.size (List.replicate 31 0) := World.alloc_heap_new W _
set_option maxRecDepth 100000 in
set_option maxHeartbeats 4000000 in
theorem nothing_any (w : World) : Calls Tryz.prog 89 #[] w fun e w' => e = .returned (.agg (vals nothingL).toArray) ∧ Below w.heap.size w w' := by
  have HZ := Lib.hid (CB.zero w)
  have HB := Lib.hid (al_below w (.cells #[.int .i64 0, .int .i64 0, .int .i64 0, .int .i64 0, .int .i64 0, .int .i64 0, .int .i64 0, .int .i64 0, .int .i64 0, .int .i64 0, .int .i64 0, .int .i64 0, .int .i64 0, .int .i64 0, .int .i64 0, .int .i64 0, .int .i64 0, .int .i64 0, .int .i64 0, .int .i64 0, .int .i64 0, .int .i64 0, .int .i64 0, .int .i64 0, .int .i64 0, .int .i64 0, .int .i64 0, .int .i64 0, .int .i64 0, .int .i64 0, .int .i64 0] 124))
  go_enter Tryz.func89, Tryz.ntmps89
  go_wp2
  go_loopw [2] (fun i wr => ∃ k : Nat, k ≤ 31 ∧ i = .int .i64 k ∧ Hid (CB wr w.heap.size (fillL k)) ∧ Hid (Below w.heap.size w wr)) (fun i _ => 31 - (intOf i).toNat)
  case atStart => exact ⟨0, Nat.zero_le _, rfl, HZ, HB⟩
  case round =>
    obtain ⟨k, hk, rfl, M, B⟩ := hrel
    by_cases hlt : k < 31
    · have hx : (fillL k)[k]? = some 0 := by
        unfold fillL
        rw [List.getElem?_append_right (by simp), List.length_replicate, Nat.sub_self, List.getElem?_replicate, if_pos (by omega)]
      have c0 := M.out.cell hx
      have cf := M.out.frozen
      have hd : decide ((k : Int) < 31) = true := decide_eq_true (by omega)
      clear hx
      go_wp2
      go_roundw
      case rel => exact ⟨k + 1, by omega, by go_num, Lib.hid (by rw [← fill_next hlt]; exact M.out.set k far), Lib.hid (B.out.setCell (p := ⟨w.heap.size, k, none⟩) (Nat.le_refl _) _)⟩
      case measure => simp [intOf]; omega
    · obtain rfl : k = 31 := by omega
      have c0 := M.out.cell (n := 0) (x := far) rfl
      have cf := M.out.frozen
      have M2 := Lib.hid (show CB (wr.setCell ⟨w.heap.size, 0, none⟩ (.int .i64 0)) w.heap.size nothingL by rw [← fill_end]; exact M.out.set 0 0)
      have B2 := Lib.hid (B.out.setCell (p := ⟨w.heap.size, 0, none⟩) (Nat.le_refl _) (.int .i64 0))
      go_wp2_with (first
        | (refine wpl_loadC (by rfl) (.tmp 0) (by rfl) w.heap.size (by rfl) nothingL rfl M2.out ?_)
        | (refine wpl_storeC (by rfl) (.tmp 0) (.tmp 9) (by rfl) w.heap.size (by rfl) nothingL nothingL (by rfl) rfl rfl M2.out ?_))
      refine bodyPost_ret (results_cell rfl rfl (loadC rfl (M2.out.put rfl))) rfl ⟨rfl, below_setCells (Nat.le_refl _) _ _ _ B2.out⟩
/-- The sums so far: the first part's weights below k are done, and of k those with j weights of the second. -/
def outV (c d : List Int) (k j : Nat) : List Int := (List.range 31).map fun n => if k ≤ n ∧ n < k + j then convTo c d n (k + 1) else convTo c d n k
theorem outV_len (c d : List Int) (k j : Nat) : (outV c d k j).length = 31 := by simp [outV]
theorem outV_start (c d : List Int) : List.replicate 31 far = outV c d 0 0 := by
  apply List.ext_getElem?
  intro n
  by_cases hn : n < 31
  · rw [List.getElem?_replicate, if_pos hn]
    simp only [outV, List.getElem?_map, List.getElem?_range hn, Option.map_some]
    rw [if_neg (by omega)]
    rfl
  · rw [List.getElem?_eq_none (by rw [List.length_replicate]; omega), List.getElem?_eq_none (by rw [outV_len]; omega)]
theorem outV_row (c d : List Int) {k : Nat} (hk : k < 31) : outV c d k (31 - k) = outV c d (k + 1) 0 := by
  unfold outV
  refine List.map_congr_left fun n hn => ?_
  have hn' := List.mem_range.1 hn
  rw [if_neg (show ¬ (k + 1 ≤ n ∧ n < k + 1 + 0) by omega)]
  by_cases h : k ≤ n
  · rw [if_pos ⟨h, by omega⟩]
  · rw [if_neg (fun e => h e.1), conv_skip (by omega)]
theorem outV_end (c d : List Int) : outV c d 31 0 = plusL c d := by
  unfold outV plusL
  refine List.map_congr_left fun n hn => ?_
  have hn' := List.mem_range.1 hn
  rw [if_neg (by omega)]
theorem outV_at (c d : List Int) {k j : Nat} (h : k + j < 31) : (outV c d k j)[k + j]? = some (convTo c d (k + j) k) := by
  simp only [outV, List.getElem?_map, List.getElem?_range h, Option.map_some]
  rw [if_neg (by omega)]
theorem outV_yes {c d : List Int} {k j : Nat} (h : k + j < 31) : (outV c d k j).set (k + j) (convTo c d (k + j) (k + 1)) = outV c d k (j + 1) := by
  apply List.ext_getElem?
  intro n
  rw [List.getElem?_set, outV_len]
  by_cases hn : n < 31
  · by_cases e : k + j = n
    · subst e
      simp only [if_true, h, outV, List.getElem?_map, List.getElem?_range h, Option.map_some]
      rw [if_pos (by omega)]
    · simp only [if_neg e, outV, List.getElem?_map, List.getElem?_range hn, Option.map_some]
      congr 1
      by_cases h2 : k ≤ n ∧ n < k + j
      · rw [if_pos h2, if_pos ⟨h2.1, by omega⟩]
      · rw [if_neg h2, if_neg (by omega)]
  · rw [if_neg (by omega), List.getElem?_eq_none (by rw [outV_len]; omega), List.getElem?_eq_none (by rw [outV_len]; omega)]
theorem outV_no {c d : List Int} {k j : Nat} (h : k + j < 31) (e : convTo c d (k + j) (k + 1) = convTo c d (k + j) k) : outV c d k (j + 1) = outV c d k j := by
  rw [← outV_yes h, e]
  apply List.ext_getElem?
  intro n
  rw [List.getElem?_set, outV_len]
  by_cases e2 : k + j = n
  · subst e2
    rw [if_pos rfl, if_pos h, outV_at c d h]
  · rw [if_neg e2]
theorem slice31 (W : World) (b : Nat) {k : Nat} (hk : k ≤ 31) : (Instr.sliceAt 124 (.pointer (some ⟨b, 0, none⟩)) none (some (.int .i64 (31 - (k : Int)))) none).run Tryz.prog W = .ok (.slice (some ⟨b, 0, none⟩) (31 - k) 31) W := by
  have e : Tryz.prog.arrayLen 124 = 31 := by kernel_rfl
  have e3 : Tryz.prog.elem 124 = 3 := by kernel_rfl
  have es : (sizeOf (Tryz.prog.elem 124)).run Tryz.prog W = .ok 1 W := by
    obtain ⟨i0, hi, hz0, hz1, hz2⟩ := info_parts info3'
    rw [e3]
    simp [sizeOf, typeInfo, hi, hz1]
  rw [run_sliceAt_array_h W 124 ⟨b, 0, none⟩ (by rw [e, e3]; exact Tryz.underlying124) .i64 (31 - (k : Int)) (by omega) (by rw [e]; omega), es]
  simp [slicedAt, e, show (31 - (k : Int)).toNat = 31 - k by omega, Addr.add_mid]
structure PIn (w : World) (z : Nat) (c d out : List Int) (W : World) : Prop where
  c : CB W w.heap.size c
  d : CB W (w.heap.size + 1) d
  r : CB W (w.heap.size + 2) (List.replicate 31 0)
  o : CB W z out
  hz : w.heap.size + 2 < z
  B : Below w.heap.size w W
theorem PIn.set {w : World} {z : Nat} {c d out : List Int} {W : World} (M : PIn w z c d out W) (n : Nat) (x : Int) : PIn w z c d (out.set n x) (W.setCell ⟨z, n, none⟩ (.int .i64 x)) :=
  ⟨M.c.other (by have := M.hz; omega), M.d.other (by have := M.hz; omega), M.r.other (by have := M.hz; omega), M.o.set n x, M.hz, M.B.setCell (p := ⟨z, n, none⟩) (by have := M.hz; show w.heap.size ≤ z; omega) _⟩
theorem PIn.drew {w : World} {z : Nat} {c d out : List Int} {W : World} (M : PIn w z c d out W) : PIn w z c d out W.drew := ⟨M.c, M.d, M.r, M.o, M.hz, M.B.drew⟩
set_option maxRecDepth 100000 in
set_option maxHeartbeats 4000000 in
theorem plus_any (c d : List Int) (a1 a2 : Int) (hc : Fin a1 c) (hd : Fin a2 d) (ha : a1 + a2 < far) (w : World) : Calls Tryz.prog 91 #[.agg (vals c).toArray, .agg (vals d).toArray] w fun e w' => e = .returned (.agg (vals (plusL c d)).toArray) ∧ Below w.heap.size w w' := by
  obtain ⟨W0, hW0⟩ : ∃ W0, ((w.alloc (.cells (vals c).toArray 124)).alloc (.cells (vals d).toArray 124)).alloc (.cells #[.int .i64 0, .int .i64 0, .int .i64 0, .int .i64 0, .int .i64 0, .int .i64 0, .int .i64 0, .int .i64 0, .int .i64 0, .int .i64 0, .int .i64 0, .int .i64 0, .int .i64 0, .int .i64 0, .int .i64 0, .int .i64 0, .int .i64 0, .int .i64 0, .int .i64 0, .int .i64 0, .int .i64 0, .int .i64 0, .int .i64 0, .int .i64 0, .int .i64 0, .int .i64 0, .int .i64 0, .int .i64 0, .int .i64 0, .int .i64 0, .int .i64 0] 124) = W0 := ⟨_, rfl⟩
  have hb0 : Below w.heap.size w W0 := by rw [← hW0]; exact hb0to (hb0to (al_below _ _) (al_below _ _)) (al_below _ _)
  have hC : CB W0 w.heap.size c := by rw [← hW0]; exact heap_keep (heap_keep (CB.new w c))
  have hD : CB W0 (w.heap.size + 1) d := by rw [← hW0]; exact heap_keep (heap_new2 w _ _)
  have hR : CB W0 (w.heap.size + 2) (List.replicate 31 0) := by rw [← hW0]; exact heap_new3 w _ _ _
  have HW0 := Lib.hid hW0
  have HC := Lib.hid hC
  have HD := Lib.hid hD
  have HR := Lib.hid hR
  have HB := Lib.hid hb0
  have HFC := Lib.hid hc
  have HFD := Lib.hid hd
  have HN := Lib.hid (nothing_any W0)
  have hs0 : w.heap.size + 2 < W0.heap.size := hR.lt
  clear hW0 hb0 hC hD hR hc hd
  go_enter Tryz.func91, Tryz.ntmps91
  go_upto_region 1 with (fail)
  have e := HW0.out
  rw [e]
  clear e
  go_upto_region 2 with (first
    | (go_at_call 89; refine HN.out.mono ?_; rintro e w1 ⟨rfl, hb⟩; have HB1 := Lib.hid hb; have HZ := Lib.hid (CB.zero w1); clear hb)
    | (refine wpl_storeC (by rfl) (.tmp 5) (.tmp 8) (by rfl) w1.heap.size (by rfl) (List.replicate 31 0) nothingL (by rfl) rfl rfl HZ.out ?_))
  obtain ⟨W2, hW2⟩ : ∃ x, (w1.alloc (.cells #[.int .i64 0, .int .i64 0, .int .i64 0, .int .i64 0, .int .i64 0, .int .i64 0, .int .i64 0, .int .i64 0, .int .i64 0, .int .i64 0, .int .i64 0, .int .i64 0, .int .i64 0, .int .i64 0, .int .i64 0, .int .i64 0, .int .i64 0, .int .i64 0, .int .i64 0, .int .i64 0, .int .i64 0, .int .i64 0, .int .i64 0, .int .i64 0, .int .i64 0, .int .i64 0, .int .i64 0, .int .i64 0, .int .i64 0, .int .i64 0, .int .i64 0] 124)).setCells w1.heap.size 0 (vals nothingL) = x := ⟨_, rfl⟩
  have M := Lib.hid (show PIn w w1.heap.size c d nothingL W2 by
    rw [← hW2]
    have hbA := hb0to HB1.out (al_below w1 (.cells #[.int .i64 0, .int .i64 0, .int .i64 0, .int .i64 0, .int .i64 0, .int .i64 0, .int .i64 0, .int .i64 0, .int .i64 0, .int .i64 0, .int .i64 0, .int .i64 0, .int .i64 0, .int .i64 0, .int .i64 0, .int .i64 0, .int .i64 0, .int .i64 0, .int .i64 0, .int .i64 0, .int .i64 0, .int .i64 0, .int .i64 0, .int .i64 0, .int .i64 0, .int .i64 0, .int .i64 0, .int .i64 0, .int .i64 0, .int .i64 0, .int .i64 0] 124))
    have hs := HB1.out.size
    exact ⟨(HC.out.next hbA).far_put (by have := HC.out.lt; omega) _ _, (HD.out.next hbA).far_put (by have := HD.out.lt; omega) _ _, (HR.out.next hbA).far_put (by have := HR.out.lt; omega) _ _, HZ.out.put rfl, by omega, below_setCells (by omega) _ _ _ (hb0to HB.out hbA)⟩)
  rw [hW2]
  clear hW2 HZ HB1 HN HC HD HR HB
  have c0 := M.out.o.cell (n := 0) (x := 0) rfl
  have cf := M.out.o.frozen
  have M2 := Lib.hid (M.out.set 0 far)
  go_upto_region 3 with (fail)
  obtain ⟨W3, hW3⟩ : ∃ x, W2.setCell ⟨w1.heap.size, 0, none⟩ (.int .i64 1099511627776) = x := ⟨_, rfl⟩
  have M3 := Lib.hid (show PIn w w1.heap.size c d (outV c d 0 0) W3 by rw [← hW3, ← outV_start]; exact M2.out)
  rw [hW3]
  clear hW3 c0 cf M M2
  go_wp2
  go_loopw [10] (fun i wr => ∃ k : Nat, k ≤ 31 ∧ i = .int .i64 k ∧ Hid (PIn w w1.heap.size c d (outV c d k 0) wr)) (fun i _ => 31 - (intOf i).toNat)
  case atStart => exact ⟨0, Nat.zero_le _, rfl, M3⟩
  case round =>
    obtain ⟨k, hk, rfl, M⟩ := hrel
    by_cases hlt : k < 31
    · have hd1 : decide ((k : Int) < 31) = true := decide_eq_true (by omega)
      have hsl := slice31 wr (w.heap.size + 1) hk
      go_wp2
      go_loopw [17] (fun i wr => ∃ j : Nat, j ≤ 31 - k ∧ i = .int .i64 j ∧ Hid (PIn w w1.heap.size c d (outV c d k j) wr)) (fun i _ => 31 - k - (intOf i).toNat)
      case atStart => exact ⟨0, Nat.zero_le _, rfl, M⟩
      case round =>
        obtain ⟨j, hj, rfl, M⟩ := hrel
        by_cases hlj : j < 31 - k
        · have hkj : k + j < 31 := by omega
          have hd2 : decide ((j : Int) < ((31 - k : Nat) : Int)) = true := decide_eq_true (by omega)
          obtain ⟨x, hx⟩ : ∃ x, cat c k = x := ⟨_, rfl⟩
          obtain ⟨y, hy⟩ : ∃ y, cat d j = y := ⟨_, rfl⟩
          have cx := M.out.c.cell (n := k) (x := x) (by rw [← hx]; exact cat_at (by rw [HFC.out.1]; exact hlt))
          have cy := M.out.d.cell (n := j) (x := y) (by rw [← hy]; exact cat_at (by rw [HFD.out.1]; omega))
          have co := M.out.o.cell (outV_at c d hkj)
          have cf := M.out.o.frozen
          have hbx : x = far ∨ (-a1 ≤ x ∧ x ≤ a1) := HFC.out.2 k x (by rw [← hx]; exact cat_at (by rw [HFC.out.1]; exact hlt))
          have hby : y = far ∨ (-a2 ≤ y ∧ y ≤ a2) := HFD.out.2 j y (by rw [← hy]; exact cat_at (by rw [HFD.out.1]; omega))
          by_cases h1 : x < far
          · have g1 : decide (x < 1099511627776) = true := decide_eq_true h1
            by_cases h2 : y < far
            · have g2 : decide (y < 1099511627776) = true := decide_eq_true h2
              have HE := Lib.hid (show convTo c d (k + j) (k + 1) = min (convTo c d (k + j) k) (x + y) by rw [conv_yes (by rw [hx]; exact h1) (by rw [hy]; exact h2), hx, hy])
              have HS := Lib.hid (outV_yes (c := c) (d := d) hkj)
              obtain ⟨o, ho⟩ : ∃ o, convTo c d (k + j) k = o := ⟨_, rfl⟩
              rw [ho] at co HE
              have hxx : -a1 ≤ x ∧ x ≤ a1 := by unfold far at *; omega
              have hyy : -a2 ≤ y ∧ y ≤ a2 := by unfold far at *; omega
              have hwx : IntKind.i64.wrap (x + y) = x + y := IntWalk.i64_in _ (by unfold far at ha; omega)
              have hwk : IntKind.i64.wrap ((k : Int) + (j : Int)) = (k : Int) + (j : Int) := IntWalk.i64_in _ (by omega)
              have hk0 : (0 : Int) ≤ (k : Int) + (j : Int) := by omega
              have hk1 : (k : Int) + (j : Int) < 31 := by omega
              have hkn : ((k : Int) + (j : Int)).toNat = k + j := by omega
              have hki : (k : Int) < 31 := by omega
              have hji : (j : Int) < 31 := by omega
              clear hx hy hbx hby ho hxx hyy
              go_upto_region 10 with (fail)
              go_still_tail 17, (by kernel_rfl)
              change wpList _ _ _ _ _ wr.drew
              obtain ⟨m, hm⟩ : ∃ m, (if x + y < o then x + y else o) = m := ⟨_, rfl⟩
              rw [hm]
              have HM := Lib.hid (show convTo c d (k + j) (k + 1) = m by rw [HE.out, ← hm]; split <;> omega)
              clear hm
              go_wp2
              go_roundw
              case rel => exact ⟨j + 1, by omega, by go_num, Lib.hid (by rw [← HS.out, HM.out]; first | exact M.out.drew.set (k + j) m | exact (M.out.set (k + j) m).drew)⟩
              case measure => simp [intOf]; omega
            · have g2 : decide (y < 1099511627776) = false := decide_eq_false h2
              have HE := Lib.hid (show convTo c d (k + j) (k + 1) = convTo c d (k + j) k from conv_no (fun e => h2 (by rw [← hy]; exact e.2)))
              clear hx hy hbx hby
              go_wp2
              go_roundw
              case rel => exact ⟨j + 1, by omega, by go_num, Lib.hid (by rw [outV_no hkj HE.out]; exact M.out)⟩
              case measure => simp [intOf]; omega
          · have g1 : decide (x < 1099511627776) = false := decide_eq_false h1
            have HE := Lib.hid (show convTo c d (k + j) (k + 1) = convTo c d (k + j) k from conv_no (fun e => h1 (by rw [← hx]; exact e.1)))
            clear hx hy hbx hby
            go_wp2
            go_roundw
            case rel => exact ⟨j + 1, by omega, by go_num, Lib.hid (by rw [outV_no hkj HE.out]; exact M.out)⟩
            case measure => simp [intOf]; omega
        · obtain rfl : j = 31 - k := by omega
          have hd2 : decide (((31 - k : Nat) : Int) < ((31 - k : Nat) : Int)) = false := decide_eq_false (by omega)
          go_wp2
          go_roundw
          case rel => exact ⟨k + 1, by omega, by go_num, Lib.hid (by rw [← outV_row c d hlt]; exact M.out)⟩
          case measure => simp [intOf]; omega
    · obtain rfl : k = 31 := by omega
      rw [outV_end] at M
      have hpl := plusL_len c d
      go_wp2_with (first
        | (refine wpl_loadC (by rfl) (.tmp 5) (by rfl) w1.heap.size (by rfl) (plusL c d) hpl M.out.o ?_)
        | (refine wpl_storeC (by rfl) (.tmp 4) (.tmp 49) (by rfl) (w.heap.size + 1 + 1) (by rfl) (List.replicate 31 0) (plusL c d) (by rfl) rfl hpl M.out.r ?_))
      refine bodyPost_ret (results_cell rfl rfl (loadC hpl (M.out.r.put (by rw [hpl]; rfl)))) rfl ⟨rfl, below_setCells (by omega) _ _ _ M.out.B⟩

end Go.Proofs.YtmbcpmnigggbaabGreat.Cu
