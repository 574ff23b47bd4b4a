import Derived.Test.YtmbcpmnigggbaaaGreatRS
import Derived.Test.YtmbcpmnigggbaaaGreatFK
import Derived.Maps.OwnOps
import Derived.Maps.OwnSet
import Derived.Maps.Own
import Derived.Maps.Views
import Derived.Test.YtmbcpmnigggbaaaGreatRA
import Derived.Test.YtmbcpmnigggbaaaGreatRI
namespace Go.Proofs.YtmbcpmnigggbaaaGreat
open Go.RowKit

/-! OnDay 28. -/
/-- A copy: what a function that copies returns. -/
def CopRet (f : Fair) (n : Nat) (w' : World) (e : Ending) : Prop := ∃ F', e = .returned (F'.enc f) ∧ CopF w' n F' f ∧ OwnsQ InnOwn w' n (.slice F'.Aq f.q.length F'.cq) f.q
theorem CopRet.fair {f : Fair} {n : Nat} {w' : World} {F' : FL} (h : CopF w' n F' f) (hq : OwnsQ InnOwn w' n (.slice F'.Aq f.q.length F'.cq) f.q) : FairAt w' w'.heap.size F' f ∧ FLOK F' f := by
  obtain ⟨A, c, e, h1, h2, h3⟩ := hq.layO
  injection e with e1 e2 e3
  have hp := ints_at h.p
  refine ⟨⟨h.h.house, hp.1.at_, ?_⟩, ⟨h.h.ok, hp.2.1, ?_⟩⟩
  · rw [e1]; exact h2
  · rw [e1, e3]; exact h1
def dayF (f : Fair) (d : Int) : Fair := { f with day := d }
open Go.RowKit

theorem OwnsQ.at_ {W : World} {n c : Nat} {A : Option Addr} {q : List Bid} {i : Nat} {x : Bid} (h : OwnsQ InnOwn W n (.slice A q.length c) q) (hx : q[i]? = some x) :
    ∃ g A' c', A = some ⟨g, 0, none⟩ ∧ g < W.heap.size ∧ n ≤ g ∧ W.cell? ⟨g, i * 3, none⟩ = some (.int .i64 x.who) ∧ W.cell? ⟨g, i * 3 + 1, none⟩ = some (.slice A' x.bar.length c') ∧ W.cell? ⟨g, i * 3 + 2, none⟩ = some (.int .i64 x.pay) ∧ ∃ cur, W.heap[g]? = some (.cells cur 63 (0, 0)) := by
  obtain ⟨A8, c8, eA, -, hBA, hlo⟩ := h.layO
  injection eA with e1 e2 e3
  subst e1
  obtain ⟨rows, e, h1, _⟩ := h
  rcases h1.2 with ⟨e0, h0⟩ | ⟨g, cap, cur, e0, k1, k2, _⟩
  · have : rows = [] := List.length_eq_zero_iff.1 h0
    subst this
    simp at e
    subst e
    simp at hx
  · injection e0 with j1 j2 j3
    subst j1
    obtain ⟨bk, ok, A', c', eB, hbk, x1, x2, x3, _, _⟩ := hBA.at_ hx
    injection eB with eB
    injection eB with q1 q2 q3
    subst q1 q2
    rw [Nat.zero_add] at x1 x2 x3
    exact ⟨_, A', c', rfl, hbk, k1, x1, x2, x3, cur, k2⟩
end Go.Proofs.YtmbcpmnigggbaaaGreat
namespace Go.Proofs.YtmbcpmnigggbaaaGreat
open Go.RowKit

/-- What is known: a map of the call's own, from what is ready to what the best sales bring. -/
def KnownM (W : World) (b n : Nat) (g : Nat → Int) : Prop :=
  ∃ D : DataW Unit, W.ownsMap Tryz.prog 106 (plainElem Tryz.prog 3) b n D ∧ Maps.IsMap D ∧ ∀ u : Nat, u < 16 → Maps.has D (.int .i64 (u : Int)) = true → D.atKey (.int .i64 (u : Int)) (.lit (.int .i64 0)) = .lit (.int .i64 (g u))
theorem KnownM.grown {W W' : World} {b n : Nat} {g : Nat → Int} {row : Option Nat} (h : KnownM W b n g) (hg : W.grownBy W' row) (hr : some b ≠ row) : KnownM W' b n g := by
  obtain ⟨D, h1, h2, h3⟩ := h
  exact ⟨D, h1.kept hg hr, h2, h3⟩
theorem KnownM.lt {W : World} {b n : Nat} {g : Nat → Int} (h : KnownM W b n g) : b < W.heap.size := by obtain ⟨D, h1, _⟩ := h; exact h1.lt
theorem KnownM.below {W W' : World} {b n : Nat} {g : Nat → Int} (h : KnownM W b n g) (hb : Below W.heap.size W W') : KnownM W' b n g :=
  h.grown (row := none) ⟨hb.os, hb.tape, hb.output, hb.size, fun i hi _ => hb.block i hi⟩ (by simp)
theorem KnownM.set {W : World} {b n k : Nat} {g : Nat → Int} (h : KnownM W b n g) (hne : b ≠ k) (o : Nat) (v : Value) : KnownM (W.setCell ⟨k, o, none⟩ v) b n g := by
  obtain ⟨D, h1, h2, h3⟩ := h
  exact ⟨D, h1.setCell hne v, h2, h3⟩
theorem OBox.notMap {W : World} {b : Nat} {F : FL} {f : Fair} {v : Value} {u mb : Nat} (h : OBox W b F f v u) (hm : ∃ es ck, W.heap[mb]? = some (.map es ck)) : b ≠ mb := fun e => by
  obtain ⟨es, ck, hm⟩ := hm
  subst e
  rw [show W.heap[b]? = _ from h] at hm
  cases hm
theorem LotsAt.kept {W W' : World} {B B' : Nat} {A : Option Addr} {q : List Bid} (h : LotsAt W B A q) (hB : B ≤ B') (hk : ∀ g o v, A = some g → W.cell? ⟨g.block, o, none⟩ = some v → W'.cell? ⟨g.block, o, none⟩ = some v) : LotsAt W' B' A q := by
  rcases h with h | ⟨b, off, e, hb, h⟩
  · exact .inl h
  · refine .inr ⟨b, off, e, by omega, fun i x hx => ?_⟩
    obtain ⟨m, hm, h1, h2, h3⟩ := h i x hx
    exact ⟨m, hm, hk _ _ _ e h1, hk _ _ _ e h2, hk _ _ _ e h3⟩
/-- What is ready is written anew. -/
theorem OpenAt.set {W : World} {b : Nat} {F : FL} {f : Fair} {rd rd' : List Int} (h : OpenAt W b F f rd) {u : Nat} (hu : MaskOf rd' u) : OpenAt (W.setCell ⟨b, 9, none⟩ (.int .i64 (u : Int))) b F f rd' := by
  obtain ⟨A, c, u0, h1, h2, h3⟩ := h.ex
  have hz : (W.setCell ⟨b, 9, none⟩ (.int .i64 (u : Int))).heap.size = W.heap.size := by simp [World.setCell]
  have hne := h.ne A c u0 h1
  refine ⟨⟨A, c, u, h1.set9 u, h2.kept (Nat.le_of_eq hz.symm) fun g o v e hc => ?_, hu⟩, fun A' c' u' hO g e => ?_⟩
  · rw [World.cell?_of_block (set_other_heap (cell_lt hc) (hne g e))]; exact hc
  · have e2 := (h1.set9 u).uniq hO
    cases e2
    exact hne g e
theorem OpenAt.grown {W W' : World} {b mb : Nat} {F : FL} {f : Fair} {rd : List Int} (h : OpenAt W b F f rd) (hg : W.grownBy W' (some mb)) (hm : ∃ es ck, W.heap[mb]? = some (.map es ck)) : OpenAt W' b F f rd := by
  obtain ⟨A, c, u0, h1, h2, h3⟩ := h.ex
  have hb := h1.notMap hm
  have hO : W'.heap[b]? = W.heap[b]? := hg.block b h1.lt (fun e => hb (Option.some.inj e))
  refine ⟨⟨A, c, u0, h1.of hO, h2.kept hg.size fun g o v e hc => ?_, h3⟩, fun A' c' u' hO' => h.ne A' c' u' (hO'.of hO.symm)⟩
  have hgm : g.block ≠ mb := fun e2 => by
    obtain ⟨es, ck, hm⟩ := hm
    rw [← e2] at hm
    unfold World.cell? at hc
    simp only [hm] at hc
    cases hc
  exact (World.cell?_of_block (a := ⟨g.block, o, none⟩) (hg.block g.block (cell_lt (a := ⟨g.block, o, none⟩) hc) (fun e => hgm (Option.some.inj e)))).trans hc
section
variable {w : World} {ops : Array Oper} {rest : List Oper} {o : Oper} {a : Act} {Q : Exit → Act → World → Prop}
end
open Go.RowKit

end Go.Proofs.YtmbcpmnigggbaaaGreat
namespace Go.Proofs.YtmbcpmnigggbaaaGreat
open Go.RowKit

/-! Example 65. -/
def exH : House := ⟨[(3, 10), (5, 4)], 2, [(0, 10), (0, 15), (1, 8)], [40, 20]⟩
def exF : Fair := ⟨exH, [0, 0, 1], 10, 3, [⟨0, [0], 30⟩, ⟨1, [0, 1], 45⟩, ⟨2, [1], 12⟩, ⟨0, [1], 20⟩]⟩
theorem pairs_lay {W : World} {g : Nat} {t : TypeId} {ns : List (Int × Int)} (h : W.heap[g]? = some (.cells (pairCells ns).toArray t (0, 0))) : PairsAt W W.heap.size (some ⟨g, 0, none⟩) ns := by
  refine .inr ⟨g, 0, rfl, heap_lt h, fun i x hx => ?_⟩
  obtain ⟨d1, d2⟩ := pairCells_at ns i x hx
  have hk : ∀ j v, (pairCells ns)[j]? = some v → W.cell? ⟨g, j, none⟩ = some v := fun j v hj => by simp [World.cell?, h, hj]
  rw [Nat.zero_add]
  exact ⟨hk _ _ d1, hk _ _ d2⟩
theorem ints_lay {W : World} {g : Nat} {t : TypeId} {l : List Int} (h : W.heap[g]? = some (.cells (l.map (Value.int .i64)).toArray t (0, 0))) : IntsAt W W.heap.size (some ⟨g, 0, none⟩) l := by
  refine .inr ⟨g, 0, rfl, heap_lt h, fun i x hx => ?_⟩
  rw [Nat.zero_add]
  simp [World.cell?, h, hx]
/-- The example's slices. -/
structure ExHeap (W : World) (n : Nat) : Prop where
  a2 : W.heap[n + 1 + 1]? = some (.cells #[.int .i64 3, .int .i64 10, .int .i64 5, .int .i64 4] 96)
  a3 : W.heap[n + 1 + 1 + 1]? = some (.cells #[.int .i64 0, .int .i64 10, .int .i64 0, .int .i64 15, .int .i64 1, .int .i64 8] 98)
  a4 : W.heap[n + 1 + 1 + 1 + 1]? = some (.cells #[.int .i64 40, .int .i64 20] 3)
  a6 : W.heap[n + 1 + 1 + 1 + 1 + 1 + 1]? = some (.cells #[.int .i64 0, .int .i64 0, .int .i64 1] 3)
  a7 : W.heap[n + 1 + 1 + 1 + 1 + 1 + 1 + 1]? = some (.cells #[.int .i64 0] 3)
  a8 : W.heap[n + 1 + 1 + 1 + 1 + 1 + 1 + 1 + 1]? = some (.cells #[.int .i64 0, .int .i64 1] 3)
  a9 : W.heap[n + 1 + 1 + 1 + 1 + 1 + 1 + 1 + 1 + 1]? = some (.cells #[.int .i64 1] 3)
  a10 : W.heap[n + 1 + 1 + 1 + 1 + 1 + 1 + 1 + 1 + 1 + 1]? = some (.cells #[.int .i64 1] 3)
  a11 : W.heap[n + 1 + 1 + 1 + 1 + 1 + 1 + 1 + 1 + 1 + 1 + 1]? = some (.cells #[.int .i64 0, .slice (some ⟨n + 1 + 1 + 1 + 1 + 1 + 1 + 1, 0, none⟩) 1 1, .int .i64 30, .int .i64 1, .slice (some ⟨n + 1 + 1 + 1 + 1 + 1 + 1 + 1 + 1, 0, none⟩) 2 2, .int .i64 45, .int .i64 2, .slice (some ⟨n + 1 + 1 + 1 + 1 + 1 + 1 + 1 + 1 + 1, 0, none⟩) 1 1, .int .i64 12, .int .i64 0, .slice (some ⟨n + 1 + 1 + 1 + 1 + 1 + 1 + 1 + 1 + 1 + 1, 0, none⟩) 1 1, .int .i64 20] 63)
theorem ExHeap.keep {W W' : World} {n : Nat} (h : ExHeap W n) (hk : ∀ k, n + 2 ≤ k → k < W.heap.size → W'.heap[k]? = W.heap[k]?) : ExHeap W' n :=
  ⟨(hk _ (by omega) (heap_lt h.a2)).trans h.a2, (hk _ (by omega) (heap_lt h.a3)).trans h.a3, (hk _ (by omega) (heap_lt h.a4)).trans h.a4, (hk _ (by omega) (heap_lt h.a6)).trans h.a6, (hk _ (by omega) (heap_lt h.a7)).trans h.a7, (hk _ (by omega) (heap_lt h.a8)).trans h.a8, (hk _ (by omega) (heap_lt h.a9)).trans h.a9, (hk _ (by omega) (heap_lt h.a10)).trans h.a10, (hk _ (by omega) (heap_lt h.a11)).trans h.a11⟩
theorem ExHeap.fair {W : World} {n : Nat} (h : ExHeap W n) : FairAt W W.heap.size ⟨⟨some ⟨n + 1 + 1, 0, none⟩, 2, some ⟨n + 1 + 1 + 1, 0, none⟩, 3, some ⟨n + 1 + 1 + 1 + 1, 0, none⟩, 2⟩, some ⟨n + 1 + 1 + 1 + 1 + 1 + 1, 0, none⟩, 3, some ⟨n + 1 + 1 + 1 + 1 + 1 + 1 + 1 + 1 + 1 + 1 + 1, 0, none⟩, 4⟩ exF := by
  refine ⟨⟨pairs_lay (ns := exH.ks) h.a2, pairs_lay (ns := exH.ps) h.a3, ints_lay (l := exH.bs) h.a4⟩, ints_lay (l := exF.pk) h.a6, .inr ⟨_, 0, rfl, heap_lt h.a11, fun i x hx => ?_⟩⟩
  match i, hx with
  | 0, hx =>
    simp only [exF, List.getElem?_cons_succ, List.getElem?_cons_zero, Option.some.injEq] at hx
    subst hx
    exact ⟨cell_of_heap h.a11 rfl, cell_of_heap h.a11 rfl, _, _, cell_of_heap h.a11 rfl, (fun e => by cases e), ints_lay h.a7⟩
  | 1, hx =>
    simp only [exF, List.getElem?_cons_succ, List.getElem?_cons_zero, Option.some.injEq] at hx
    subst hx
    exact ⟨cell_of_heap h.a11 rfl, cell_of_heap h.a11 rfl, _, _, cell_of_heap h.a11 rfl, (fun e => by cases e), ints_lay h.a8⟩
  | 2, hx =>
    simp only [exF, List.getElem?_cons_succ, List.getElem?_cons_zero, Option.some.injEq] at hx
    subst hx
    exact ⟨cell_of_heap h.a11 rfl, cell_of_heap h.a11 rfl, _, _, cell_of_heap h.a11 rfl, (fun e => by cases e), ints_lay h.a9⟩
  | 3, hx =>
    simp only [exF, List.getElem?_cons_succ, List.getElem?_cons_zero, Option.some.injEq] at hx
    subst hx
    exact ⟨cell_of_heap h.a11 rfl, cell_of_heap h.a11 rfl, _, _, cell_of_heap h.a11 rfl, (fun e => by cases e), ints_lay h.a10⟩
  | i + 4, hx => simp [exF] at hx
open Go.RowKit

structure ExW (W : World) (s : Nat) (F G : FL) : Prop where
  f : FairAt W W.heap.size F exF
  g : FairAt W W.heap.size G (dayF exF 5)
  x : FBox W s F exF
  y : FBox W (s + 1) G (dayF exF 5)
theorem ExW.next {W W' : World} {s : Nat} {F G : FL} (H : ExW W s F G) (hb : Below W.heap.size W W') : ExW W' s F G := ⟨H.f.below hb, H.g.below hb, H.x.of (hb.block _ H.x.lt), H.y.of (hb.block _ H.y.lt)⟩
theorem ExW.c {W : World} {s : Nat} {F G : FL} (H : ExW W s F G) : (W.cell? ⟨s, 0, none⟩ = some (.slice F.L.Ak exF.h.ks.length F.L.ck) ∧ W.cell? ⟨s, 1, none⟩ = some (.int .i64 exF.h.fl) ∧ W.cell? ⟨s, 2, none⟩ = some (.slice F.L.Ap exF.h.ps.length F.L.cp) ∧ W.cell? ⟨s, 3, none⟩ = some (.slice F.L.Ab exF.h.bs.length F.L.cb) ∧ W.cell? ⟨s, 4, none⟩ = some (.slice F.Ap exF.pk.length F.cp) ∧ W.cell? ⟨s, 5, none⟩ = some (.int .i64 exF.day) ∧ W.cell? ⟨s, 6, none⟩ = some (.int .i64 exF.nb) ∧ W.cell? ⟨s, 7, none⟩ = some (.slice F.Aq exF.q.length F.cq)) ∧ W.cell? ⟨s + 1, 0, none⟩ = some (.slice G.L.Ak (dayF exF 5).h.ks.length G.L.ck) ∧ W.cell? ⟨s + 1, 1, none⟩ = some (.int .i64 (dayF exF 5).h.fl) ∧ W.cell? ⟨s + 1, 2, none⟩ = some (.slice G.L.Ap (dayF exF 5).h.ps.length G.L.cp) ∧ W.cell? ⟨s + 1, 3, none⟩ = some (.slice G.L.Ab (dayF exF 5).h.bs.length G.L.cb) ∧ W.cell? ⟨s + 1, 4, none⟩ = some (.slice G.Ap (dayF exF 5).pk.length G.cp) ∧ W.cell? ⟨s + 1, 5, none⟩ = some (.int .i64 (dayF exF 5).day) ∧ W.cell? ⟨s + 1, 6, none⟩ = some (.int .i64 (dayF exF 5).nb) ∧ W.cell? ⟨s + 1, 7, none⟩ = some (.slice G.Aq (dayF exF 5).q.length G.cq) := ⟨H.x.cells, H.y.cells⟩
theorem ExW.new {W : World} {F G : FL} (hF : FairAt W W.heap.size F exF) (hG : FairAt W W.heap.size G (dayF exF 5)) : ExW ((W.alloc (.cells (F.cells exF) 32)).alloc (.cells (G.cells (dayF exF 5)) 32)) W.heap.size F G := by
  have hb := hb0to (al_below W (.cells (F.cells exF) 32)) (al_below _ (.cells (G.cells (dayF exF 5)) 32))
  exact ⟨hF.below hb, hG.below hb, (FBox.new W F exF).of (Below.heap_alloc _ _ _ (by simp)), heap_new2 W _ _⟩
end Go.Proofs.YtmbcpmnigggbaaaGreat
namespace Go.Proofs.YtmbcpmnigggbaaaGreat
open Go.RowKit

/-! The law's words: Huge 39, ready 16, most 25, winners 20, won 21. -/
def hugeF (f : Fair) : Bool := hugeB f.h || (decide (40 < f.pk.length) || (decide (40 < f.q.length) || f.q.any fun b => decide (40 < b.bar.length)))
theorem hugeF_no {f : Fair} (h : hugeF f = false) : hugeB f.h = false ∧ f.pk.length ≤ 40 ∧ f.q.length ≤ 40 ∧ ∀ b ∈ f.q, b.bar.length ≤ 40 := by
  simp only [hugeF, Bool.or_eq_false_iff, decide_eq_false_iff_not, List.any_eq_false, decide_eq_true_eq] at h
  exact ⟨h.1, by omega, by omega, fun b hb => by have := h.2.2.2 b hb; omega⟩
theorem hugeF_fn {f : Fair} (h : hugeF f = false) : FN f := by
  obtain ⟨h1, h2, h3, h4⟩ := hugeF_no h
  obtain ⟨k1, k2, k3⟩ := huge_no h1
  exact ⟨⟨by omega, by omega, by omega⟩, by omega, by omega, fun b hb => by have := h4 b hb; omega⟩
theorem hugeF_yes {f : Fair} {k : Nat} {b : Bid} (hb : f.q[k]? = some b) (h : 40 < b.bar.length) : hugeF f = true := by
  have : (f.q.any fun b => decide (40 < b.bar.length)) = true := List.any_eq_true.2 ⟨b, List.mem_of_getElem? hb, by simpa using h⟩
  simp [hugeF, this]
theorem hugeF_all {f : Fair} (h1 : hugeB f.h = false) (h2 : f.pk.length ≤ 40) (h3 : f.q.length ≤ 40) (h : ∀ j x, j < f.q.length → f.q[j]? = some x → x.bar.length ≤ 40) : hugeF f = false := by
  simp only [hugeF, h1, Bool.false_or, Bool.or_eq_false_iff, decide_eq_false_iff_not, List.any_eq_false, decide_eq_true_eq]
  refine ⟨by omega, by omega, fun b hb => ?_⟩
  obtain ⟨j, hj⟩ := List.getElem?_of_mem hb
  have := h j b (List.getElem?_eq_some_iff.1 hj).1 hj
  omega
set_option maxRecDepth 100000 in
set_option maxHeartbeats 4000000 in
theorem hugeF_any (F : FL) (f : Fair) (w : World) (hF : FairAt w w.heap.size F f) : Calls Tryz.prog 14 #[F.enc f] w fun e w' => e = .returned (.bool (hugeF f)) ∧ Below w.heap.size w w' := by
  have hbw := al_below w (.cells #[.slice F.L.Ak f.h.ks.length F.L.ck, .int .i64 f.h.fl, .slice F.L.Ap f.h.ps.length F.L.cp, .slice F.L.Ab f.h.bs.length F.L.cb, .slice F.Ap f.pk.length F.cp, .int .i64 f.day, .int .i64 f.nb, .slice F.Aq f.q.length F.cq] 32)
  have HB := Lib.hid (FBox.new w F f)
  obtain ⟨c0, c1, c2, c3, c4, c5, c6, c7⟩ := (FBox.new w F f).cells
  obtain ⟨W0, hW0⟩ : ∃ W0, w.alloc (.cells #[.slice F.L.Ak f.h.ks.length F.L.ck, .int .i64 f.h.fl, .slice F.L.Ap f.h.ps.length F.L.cp, .slice F.L.Ab f.h.bs.length F.L.cb, .slice F.Ap f.pk.length F.cp, .int .i64 f.day, .int .i64 f.nb, .slice F.Aq f.q.length F.cq] 32) = W0 := ⟨_, rfl⟩
  rw [hW0] at hbw HB c0 c1 c2 c3 c4 c5 c6 c7
  have HBW := Lib.hid hbw
  have HW0 := Lib.hid hW0
  have HF := Lib.hid (hF.below hbw)
  clear hbw hW0 hF
  have H76 := Lib.hid (fun W => huge_any F.L f.h W)
  obtain ⟨L, Ap, cp, Aq, cq⟩ := F
  cases h1 : hugeB f.h
  · rw [h1] at H76
    by_cases p1 : 40 < f.pk.length
    · have hv : hugeF f = true := by simp [hugeF, p1]
      rw [hv]; clear hv
      go_enter Tryz.func14, Tryz.ntmps14
      go_upto_region 1 with (fail)
      have e := HW0.out
      rw [e]
      clear e
      go_wp2_with (go_at_call 31; refine (H76.out W0).mono ?_; rintro e w1 ⟨rfl, hb1⟩; have B1 := Lib.hid hb1; obtain ⟨c0, c1, c2, c3, c4, c5, c6, c7⟩ := (HB.out.of (hb1.block _ HB.out.lt)).cells; clear hb1)
      go_ret
      exact ⟨congrArg (fun b => Ending.returned (.bool b)) (by first | rfl | (simp; done) | (simp; omega)), hb0to HBW.out B1.out⟩
    · have p2 : f.pk.length ≤ 40 := by omega
      by_cases q1 : 40 < f.q.length
      · have hv : hugeF f = true := by simp [hugeF, q1]
        rw [hv]; clear hv p1
        go_enter Tryz.func14, Tryz.ntmps14
        go_upto_region 1 with (fail)
        have e := HW0.out
        rw [e]
        clear e
        go_wp2_with (go_at_call 31; refine (H76.out W0).mono ?_; rintro e w1 ⟨rfl, hb1⟩; have B1 := Lib.hid hb1; obtain ⟨c0, c1, c2, c3, c4, c5, c6, c7⟩ := (HB.out.of (hb1.block _ HB.out.lt)).cells; clear hb1)
        go_ret
        exact ⟨congrArg (fun b => Ending.returned (.bool b)) (by first | rfl | (simp; done) | (simp; omega)), hb0to HBW.out B1.out⟩
      · have q2 : f.q.length ≤ 40 := by omega
        clear p1 q1
        go_enter Tryz.func14, Tryz.ntmps14
        go_upto_region 1 with (fail)
        have e := HW0.out
        rw [e]
        clear e
        go_wp2_with (go_at_call 31; refine (H76.out W0).mono ?_; rintro e w1 ⟨rfl, hb1⟩; have B1 := Lib.hid hb1; obtain ⟨c0, c1, c2, c3, c4, c5, c6, c7⟩ := (HB.out.of (hb1.block _ HB.out.lt)).cells; clear hb1)
        go_loopw [3] (fun i wr => ∃ k : Nat, k ≤ f.q.length ∧ i = .int .i64 k ∧ Hid (∀ j x, j < k → f.q[j]? = some x → x.bar.length ≤ 40) ∧ Hid (Below W0.heap.size W0 wr)) (fun i _ => f.q.length - (intOf i).toNat)
        case atStart => exact ⟨0, Nat.zero_le _, rfl, Lib.hid (fun j x h => absurd h (by omega)), B1⟩
        case round =>
          obtain ⟨k, hk, rfl, hall, hb⟩ := hrel
          obtain ⟨c0, c1, c2, c3, c4, c5, c6, c7⟩ := (HB.out.of (hb.out.block _ HB.out.lt)).cells
          by_cases hlt : k < f.q.length
          · obtain ⟨x, hx⟩ : ∃ x, f.q[k]? = some x := ⟨_, List.getElem?_eq_getElem hlt⟩
            obtain ⟨bk, ok, A', c', rfl, hbk, d1, d2, d3, hA', hI⟩ := HF.out.q.at_ hx
            have e2 := below_cell hb.out d2
            have HX := Lib.hid hx
            clear d1 d2 d3 hA' hI hx
            by_cases hbar : 40 < x.bar.length
            · have hv : hugeF f = true := hugeF_yes HX.out hbar
              have HV := Lib.hid hv
              clear hv
              go_wp2_with (fail)
              go_ret
              exact ⟨(congrArg (fun b => Ending.returned (.bool b)) HV.out).symm, hb0to HBW.out hb.out⟩
            · have hbar2 : x.bar.length ≤ 40 := by omega
              go_wp2_with (fail)
              go_roundw
              case rel => exact ⟨k + 1, by omega, by go_num, Lib.hid (fun j y hj hy => by
                  rcases Nat.lt_succ_iff_lt_or_eq.1 hj with h | rfl
                  · exact hall.out j y h hy
                  · have := HX.out; rw [hy] at this; cases this; exact hbar2), hb⟩
              case measure => simp [intOf]; omega
          · obtain rfl : k = f.q.length := by omega
            have hv : hugeF f = false := hugeF_all h1 p2 q2 hall.out
            have HV := Lib.hid hv
            clear hv
            go_wp2_with (fail)
            go_ret
            exact ⟨(congrArg (fun b => Ending.returned (.bool b)) HV.out).symm, hb0to HBW.out hb.out⟩
  · rw [h1] at H76
    have hv : hugeF f = true := by simp [hugeF, h1]
    rw [hv]; clear hv
    go_enter Tryz.func14, Tryz.ntmps14
    go_upto_region 1 with (fail)
    have e := HW0.out
    rw [e]
    clear e
    go_wp2_with (go_at_call 31; refine (H76.out W0).mono ?_; rintro e w1 ⟨rfl, hb1⟩; have B1 := Lib.hid hb1; obtain ⟨c0, c1, c2, c3, c4, c5, c6, c7⟩ := (HB.out.of (hb1.block _ HB.out.lt)).cells; clear hb1)
    go_ret
    exact ⟨rfl, hb0to HBW.out B1.out⟩
open Go.RowKit

/-! most 25, winners 20, won 21. -/
/-- What the best sales of a valid fair bring. -/
def mW (f : Fair) : Int := mostV f.q (rdF f)
def wL (f : Fair) : List Nat := winL f.q (rdF f)
theorem FOK.pos' {f : Fair} (h : FOK f) : ∀ b ∈ f.q, 0 ≤ b.pay := fun b hb => (h.pay b hb).1
theorem mW_bd {f : Fair} (h : FOK f) : 0 ≤ mW f ∧ mW f ≤ 792 := by
  have h1 := mostTo_bd h.ql h.pay allM (setsL f.q (rdF f))
  have h2 := (mostV_is (rd := rdF f) h.ql h.pos').all_nonneg
  unfold mW
  unfold mostV at h2 ⊢
  omega
theorem wL_win {f : Fair} (h : FOK f) : WinIs f.q (rdF f) (wL f) := (win_of_sets h.ql h.pos').2
end Go.Proofs.YtmbcpmnigggbaaaGreat
namespace Go.Proofs.YtmbcpmnigggbaaaGreat
open Go.RowKit

/-! SalesPaid. -/
/-- What a law keeps: its fair and the fair's box. -/
structure FIn (W : World) (b : Nat) (F : FL) (f : Fair) : Prop where
  H : FairAt W W.heap.size F f
  x : FBox W b F f
theorem FIn.next {W W' : World} {b : Nat} {F : FL} {f : Fair} (h : FIn W b F f) (hb : Below W.heap.size W W') : FIn W' b F f := ⟨h.H.below hb, h.x.of (hb.block _ h.x.lt)⟩
theorem paid_le {f : Fair} (h : FOK f) : 0 ≤ paidTo f.q (rdF f) f.nb.toNat ∧ paidTo f.q (rdF f) f.nb.toNat ≤ mW f := by
  have h1 := paidTo_bd h.ql h.pos' (rd := rdF f) f.nb.toNat
  have h2 : ownTo f.q (wL f) f.nb.toNat = bringsL f.q (wL f) := ownTo_all fun i hi => by
    obtain ⟨b, hb, _⟩ := (wL_win h).sale.rdy i hi
    have := h.who b (List.mem_of_getElem? hb)
    have := h.n0
    exact ⟨b, hb, by omega, by omega⟩
  have h3 : mW f = bringsL f.q (wL f) := mostV_win h.ql h.pos'
  have h4 : ownTo f.q (winL f.q (rdF f)) f.nb.toNat = ownTo f.q (wL f) f.nb.toNat := rfl
  omega
end Go.Proofs.YtmbcpmnigggbaaaGreat
namespace Go.Proofs.YtmbcpmnigggbaaaGreat
open Go.RowKit

open Go.RowKit

end Go.Proofs.YtmbcpmnigggbaaaGreat
namespace Go.Proofs.YtmbcpmnigggbaaaGreat
open Go.RowKit

/-! Without. -/
def withoutF (f : Fair) (v : Int) : Fair := { f with q := keptQ v f.q }
theorem without_valid {f : Fair} (hv : validF f = true) (v : Int) : validF (withoutF f v) = true := by
  unfold validF at hv ⊢
  simp only [Bool.and_eq_true] at hv ⊢
  obtain ⟨h1, h2, h3⟩ := hv
  refine ⟨h1, ?_, ?_⟩
  · unfold numsOK at h2 ⊢
    simp only [Bool.and_eq_true, inR_true, decide_eq_true_eq] at h2 ⊢
    exact ⟨h2.1, h2.2.1, Nat.le_trans (List.length_filter_le _ _) h2.2.2⟩
  · rw [List.all_eq_true] at h3 ⊢
    intro x hx
    exact h3 x (List.mem_filter.1 hx).1
theorem without_fn {f : Fair} (hn : FN f) (v : Int) : FN (withoutF f v) := ⟨hn.h, hn.p, Nat.le_trans (List.length_filter_le _ _) hn.q, fun x hx => hn.b x (List.mem_filter.1 hx).1⟩
theorem without_most {f : Fair} (hv : validF f = true) (v : Int) : mW (withoutF f v) = noneV f.q (rdF f) v := by
  have hf := FOK.of hv
  have hg := FOK.of (without_valid hv v)
  exact (without_is (mostV_is (rd := rdF f) hg.ql hg.pos')).unique (noneV_is hf.ql hf.pos')
end Go.Proofs.YtmbcpmnigggbaaaGreat
namespace Go.Proofs.YtmbcpmnigggbaaaGreat
open Go.RowKit

/-! Two fairs that a law makes in one statement. -/
theorem copF_of {W W' : World} (h : ∀ t : TypeId, t ≠ 32 → KeepT t W W') {n : Nat} {F : FL} {f : Fair} (H : CopF W n F f) : CopF W' n F f := H.keepT (h _ (by decide)) (h _ (by decide)) (h _ (by decide))
theorem ownsQ_of {W W' : World} (h : ∀ t : TypeId, t ≠ 32 → KeepT t W W') {n : Nat} {v : Value} {q : List Bid} (H : OwnsQ InnOwn W n v q) : OwnsQ InnOwn W' n v q := H.keepO (h _ (by decide)) (h _ (by decide))
/-- The blocks of other types than a fair's are kept. -/
def K29 (W W' : World) : Prop := ∀ t : TypeId, t ≠ 32 → KeepT t W W'
theorem K29.refl (W : World) : K29 W W := fun _ _ _ _ e => e
theorem K29.drew {W W' : World} (h : K29 W W') : K29 W W'.drew := h
theorem K29.alloc {W W' : World} (h : K29 W W') (o : Obj) : K29 W (W'.alloc o) := fun t ht => (h t ht).trans (.below (al_below _ _))
theorem K29.set8 {W W' : World} (h : K29 W W') {z : Nat} (hz : ∃ arr, W'.heap[z]? = some (.cells arr 32 (0, 0))) (x0 x1 x2 x3 x4 x5 x6 x7 : Value) : K29 W ((((((((W'.setCell ⟨z, 0, none⟩ x0).setCell ⟨z, 1, none⟩ x1).setCell ⟨z, 2, none⟩ x2).setCell ⟨z, 3, none⟩ x3).setCell ⟨z, 4, none⟩ x4).setCell ⟨z, 5, none⟩ x5).setCell ⟨z, 6, none⟩ x6).setCell ⟨z, 7, none⟩ x7) := fun t ht => by
  obtain ⟨arr, hz⟩ := hz
  exact (h t ht).trans (keepT_set8 hz (fun e => ht e.symm) _ _ _ _ _ _ _ _)
theorem drew_at {W : World} {z : Nat} {o : Obj} (h : W.heap[z]? = some o) : W.drew.heap[z]? = some o := h
theorem alB {w W : World} (h : Below w.heap.size w W) (o : Obj) : Below w.heap.size w (W.alloc o) := hb0to h (al_below _ _)
/-- Two fairs, each in a variable of its own, and apart. -/
structure Two (W : World) (g1 g2 : Fair) (z1 z2 n2 : Nat) (F1 F2 : FL) (wx : World) : Prop where
  x1 : FBox wx z1 F1 g1
  x2 : FBox wx z2 F2 g2
  c1 : CopF wx W.heap.size F1 g1
  q1 : OwnsQ InnOwn wx W.heap.size (.slice F1.Aq g1.q.length F1.cq) g1.q
  c2 : CopF wx n2 F2 g2
  q2 : OwnsQ InnOwn wx n2 (.slice F2.Aq g2.q.length F2.cq) g2.q
  lt : ∀ g, F1.Aq = some g → g.block < n2
  n2 : W.heap.size ≤ n2
  l1 : W.heap.size ≤ z1
  l2 : W.heap.size ≤ z2
  ne : z1 ≠ z2
  B : Below W.heap.size W wx
theorem Two.of {W w8 wx : World} {g1 g2 : Fair} {z1 z2 n2 : Nat} {F1 F2 : FL} (hc1 : CopF w8 W.heap.size F1 g1) (hq1 : OwnsQ InnOwn w8 W.heap.size (.slice F1.Aq g1.q.length F1.cq) g1.q) (hc2 : CopF w8 n2 F2 g2) (hq2 : OwnsQ InnOwn w8 n2 (.slice F2.Aq g2.q.length F2.cq) g2.q)
    (hlt : ∀ g, F1.Aq = some g → g.block < n2) (hn : W.heap.size ≤ n2) (hk : K29 w8 wx) (h1 : FBox wx z1 F1 g1) (h2 : FBox wx z2 F2 g2) (l1 : W.heap.size ≤ z1) (l2 : W.heap.size ≤ z2) (ne : z1 ≠ z2) (hb : Below W.heap.size W wx) : Two W g1 g2 z1 z2 n2 F1 F2 wx :=
  ⟨h1, h2, copF_of hk hc1, ownsQ_of hk hq1, copF_of hk hc2, ownsQ_of hk hq2, hlt, hn, l1, l2, ne, hb⟩
theorem OwnsQ.lt {I : World → Value → List Int → Prop} {W : World} {n : Nat} {A : Option Addr} {m c : Nat} {q : List Bid} (h : OwnsQ I W n (.slice A m c) q) : ∀ g, A = some g → g.block < W.heap.size := fun g e => by
  obtain ⟨rows, _, h1, _⟩ := h
  rcases h1.2 with ⟨e0, _⟩ | ⟨g', cap, cur, e0, _, hg, _⟩
  · injection e0 with e1; rw [e1] at e; cases e
  · injection e0 with e1; rw [e1] at e; cases e; exact heap_lt hg

end Go.Proofs.YtmbcpmnigggbaaaGreat
