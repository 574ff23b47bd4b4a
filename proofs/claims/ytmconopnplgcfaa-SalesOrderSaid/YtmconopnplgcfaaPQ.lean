import Derived.Test.YtmconopnplgcfaaPP
import Derived.Test.YtmconopnplgcfaaPO
namespace Go.Proofs.Ytmconopnplgcfaa
open Go.RowKit

/-! Two copies whose bids are written. -/
theorem OwnsQ.setOther {W : World} {n m c g o : Nat} {A : Option Addr} {q : List Bid} {cur : Array Value} {u : Value} (h : OwnsQ InnOwn W n (.slice A m c) q) (hA : ∀ a, A = some a → a.block ≠ g) (hg : W.heap[g]? = some (.cells cur 38 (0, 0))) : OwnsQ InnOwn (W.setCell ⟨g, o, none⟩ u) n (.slice A m c) q := by
  obtain ⟨rows, e, h1, h2⟩ := h
  refine ⟨rows, e, ⟨h1.1, ?_⟩, fun r hr => Ints.keepT (h2 r hr) (KeepT.set hg (by decide))⟩
  rcases h1.2 with h3 | ⟨b, cap, cu, e3, hb2, hgg, h4⟩
  · exact .inl h3
  · have hne : b ≠ g := hA ⟨b, 0, none⟩ (by injection e3)
    exact .inr ⟨b, cap, cu, e3, hb2, (set_other_heap (heap_lt hgg) hne).trans hgg, h4⟩
theorem OwnsQ.setRow {W : World} {n g c : Nat} {q : List Bid} {i : Nat} (h : OwnsQ InnOwn W n (.slice (some ⟨g, 0, none⟩) q.length c) q) (hi : i < q.length) (y : Bid) {u : Value} (hu : InnOwn W u y.bar) :
    OwnsQ InnOwn (((W.setCell ⟨g, i * 3, none⟩ (.int .i64 y.who)).setCell ⟨g, i * 3 + 1, none⟩ u).setCell ⟨g, i * 3 + 2, none⟩ (.int .i64 y.pay)) n (.slice (some ⟨g, 0, none⟩) q.length c) (q.set i y) := by
  obtain ⟨rows, rfl, h1, h2⟩ := h
  rw [List.length_map] at h1 hi ⊢
  obtain ⟨hl, hd⟩ := h1
  have hg : ∃ cur, W.heap[g]? = some (.cells cur 38 (0, 0)) ∧ n ≤ g ∧ rows.length ≤ c ∧ c ≤ maxLen ∧ cur.size = c * 3 ∧ cur.toList.take (rows.length * 3) = rowCells rows := by
    rcases hd with ⟨e, _⟩ | ⟨g', cap, cur, e, k1, k2, k3, k4, k5, k6⟩
    · cases e
    · cases e; exact ⟨cur, k2, k1, k3, k4, k5, k6⟩
  obtain ⟨cur, k2, k1, k3, k4, k5, k6⟩ := hg
  have s1 := heap_set (.int .i64 y.who) (o := i * 3) k2
  have s2 := heap_set u (o := i * 3 + 1) s1
  have s3 := heap_set (.int .i64 y.pay) (o := i * 3 + 2) s2
  refine ⟨rows.set i (y, u), by rw [List.map_set], ⟨?_, ?_⟩, fun r' hr' => ?_⟩
  · rw [List.length_set, rowCells_set _ _ _ hi]; simpa using hl
  · rw [List.length_set]
    refine .inr ⟨g, c, _, rfl, k1, s3, k3, k4, by simpa using k5, ?_⟩
    rw [rowCells_set _ _ _ hi, ← k6]
    simp only [Array.toList_setIfInBounds, List.take_set]
  · have hk : KeepT 3 W (((W.setCell ⟨g, i * 3, none⟩ (.int .i64 y.who)).setCell ⟨g, i * 3 + 1, none⟩ u).setCell ⟨g, i * 3 + 2, none⟩ (.int .i64 y.pay)) := ((KeepT.set k2 (by decide)).trans (KeepT.set s1 (by decide))).trans (KeepT.set s2 (by decide))
    rcases List.mem_or_eq_of_mem_set hr' with hm | rfl
    · exact Ints.keepT (h2 r' hm) hk
    · exact Ints.keepT hu hk
structure OrM (Wb : World) (f : Fair) (q1 q2 : List Bid) (z1 z2 n2 : Nat) (F1 F2 : FL) (W : World) : Prop where
  x1 : CBox W z1 F1 f (.slice F1.Aq f.q.length F1.cq)
  x2 : CBox W z2 F2 f (.slice F2.Aq f.q.length F2.cq)
  c1 : CopF W Wb.heap.size F1 f
  c2 : CopF W n2 F2 f
  o1 : OwnsQ InnOwn W Wb.heap.size (.slice F1.Aq q1.length F1.cq) q1
  o2 : OwnsQ InnOwn W n2 (.slice F2.Aq q2.length F2.cq) q2
  e1 : q1.length = f.q.length
  e2 : q2.length = f.q.length
  lt : ∀ g, F1.Aq = some g → g.block < n2
  q2b : ∀ g, F2.Aq = some g → n2 ≤ g.block
  n2 : Wb.heap.size ≤ n2
  l1 : Wb.heap.size ≤ z1
  l2 : Wb.heap.size ≤ z2
  ne : z1 ≠ z2
  B : Below Wb.heap.size Wb W
theorem OrM.next {Wb W W' : World} {f : Fair} {q1 q2 : List Bid} {z1 z2 n2 : Nat} {F1 F2 : FL} (h : OrM Wb f q1 q2 z1 z2 n2 F1 F2 W) (hb : Below W.heap.size W W') : OrM Wb f q1 q2 z1 z2 n2 F1 F2 W' :=
  ⟨h.x1.of (hb.block _ h.x1.lt), h.x2.of (hb.block _ h.x2.lt), h.c1.below hb, h.c2.below hb, h.o1.belowO hb, h.o2.belowO hb, h.e1, h.e2, h.lt, h.q2b, h.n2, h.l1, h.l2, h.ne, hb0to h.B hb⟩
theorem OwnsQ.ge {I : World → Value → List Int → Prop} {W : World} {n : Nat} {A : Option Addr} {m c : Nat} {q : List Bid} (h : OwnsQ I W n (.slice A m c) q) : ∀ g, A = some g → n ≤ g.block := fun g e => by
  obtain ⟨rows, _, h1, _⟩ := h
  rcases h1.2 with ⟨e0, _⟩ | ⟨g', cap, cur, e0, hn, hg, _⟩
  · injection e0 with e1; rw [e1] at e; cases e
  · injection e0 with e1; rw [e1] at e; cases e; exact hn
theorem OrM.of {Wb W : World} {f : Fair} {z1 z2 n2 : Nat} {F1 F2 : FL} (h : Two Wb f f z1 z2 n2 F1 F2 W) : OrM Wb f f.q f.q z1 z2 n2 F1 F2 W :=
  ⟨h.x1, h.x2, h.c1, h.c2, h.q1, h.q2, rfl, rfl, h.lt, h.q2.ge, h.n2, h.l1, h.l2, h.ne, h.B⟩
theorem OrM.fair1 {Wb W : World} {f : Fair} {q1 q2 : List Bid} {z1 z2 n2 : Nat} {F1 F2 : FL} (h : OrM Wb f q1 q2 z1 z2 n2 F1 F2 W) : FIn W z1 F1 { f with q := q1 } := by
  have hc : CopF W Wb.heap.size F1 { f with q := q1 } := ⟨h.c1.h, h.c1.p⟩
  refine ⟨(CopRet.fair hc h.o1).1, ?_⟩
  unfold FBox
  show W.heap[z1]? = some (.cells #[_, _, _, _, _, _, _, .slice F1.Aq q1.length F1.cq] 29)
  rw [h.e1]
  exact h.x1
theorem OrM.fair2 {Wb W : World} {f : Fair} {q1 q2 : List Bid} {z1 z2 n2 : Nat} {F1 F2 : FL} (h : OrM Wb f q1 q2 z1 z2 n2 F1 F2 W) : FIn W z2 F2 { f with q := q2 } := by
  have hc : CopF W n2 F2 { f with q := q2 } := ⟨h.c2.h, h.c2.p⟩
  refine ⟨(CopRet.fair hc h.o2).1, ?_⟩
  unfold FBox
  show W.heap[z2]? = some (.cells #[_, _, _, _, _, _, _, .slice F2.Aq q2.length F2.cq] 29)
  rw [h.e2]
  exact h.x2
theorem OrM.set1 {Wb W : World} {f : Fair} {q1 q2 : List Bid} {z1 z2 n2 : Nat} {F1 F2 : FL} (h : OrM Wb f q1 q2 z1 z2 n2 F1 F2 W) {i : Nat} (hi : i < f.q.length) : ∃ g, F1.Aq = some ⟨g, 0, none⟩ ∧ Wb.heap.size ≤ g ∧ g < W.heap.size ∧ g ≠ z1 ∧ g ≠ z2 ∧ (∀ o, W.frozen? ⟨g, o, none⟩ = false) ∧ (∃ a b c, W.cell? ⟨g, i * 3, none⟩ = some a ∧ W.cell? ⟨g, i * 3 + 1, none⟩ = some b ∧ W.cell? ⟨g, i * 3 + 2, none⟩ = some c) ∧
    ∀ (y : Bid) (u : Value), InnOwn W u y.bar → OrM Wb f (q1.set i y) q2 z1 z2 n2 F1 F2 (((W.setCell ⟨g, i * 3, none⟩ (.int .i64 y.who)).setCell ⟨g, i * 3 + 1, none⟩ u).setCell ⟨g, i * 3 + 2, none⟩ (.int .i64 y.pay)) := by
  obtain ⟨x, hx⟩ : ∃ x, q1[i]? = some x := ⟨_, List.getElem?_eq_getElem (by rw [h.e1]; exact hi)⟩
  obtain ⟨g, A', c', eA, hlt, hng, d1, d2, d3, cur, hg⟩ := h.o1.at_ hx
  have hz1 : g ≠ z1 := fun e => by
    have h1 : W.heap[z1]? = _ := h.x1
    rw [← e, hg] at h1
    cases h1
  have hz2 : g ≠ z2 := fun e => by
    have h1 : W.heap[z2]? = _ := h.x2
    rw [← e, hg] at h1
    cases h1
  have hwb : Wb.heap.size ≤ g := by have h1 := h.n2; omega
  refine ⟨g, eA, hwb, hlt, hz1, hz2, frozen_of_heap hg, ⟨_, _, _, d1, d2, d3⟩, fun y u hu => ?_⟩
  have s1 := heap_set (.int .i64 y.who) (o := i * 3) hg
  have s2 := heap_set u (o := i * 3 + 1) s1
  have hk : ∀ t : TypeId, (38 : TypeId) ≠ t → KeepT t W (((W.setCell ⟨g, i * 3, none⟩ (.int .i64 y.who)).setCell ⟨g, i * 3 + 1, none⟩ u).setCell ⟨g, i * 3 + 2, none⟩ (.int .i64 y.pay)) := fun t ht => ((KeepT.set hg ht).trans (KeepT.set s1 ht)).trans (KeepT.set s2 ht)
  have hq := h.o1
  rw [eA] at hq
  have hq' := OwnsQ.setRow hq (show i < q1.length by rw [h.e1]; exact hi) y hu
  have hA : ∀ a, F2.Aq = some a → a.block ≠ g := fun a ha => by
    have h1 := h.q2b a ha; have h2 := h.lt _ eA; simp only at h2; omega
  have ho := ((h.o2.setOther (o := i * 3) (u := .int .i64 y.who) hA hg).setOther (o := i * 3 + 1) (u := u) hA s1).setOther (o := i * 3 + 2) (u := .int .i64 y.pay) hA s2
  refine ⟨h.x1.of ?_, h.x2.of ?_, h.c1.keepT (hk _ (by decide)) (hk _ (by decide)) (hk _ (by decide)), h.c2.keepT (hk _ (by decide)) (hk _ (by decide)) (hk _ (by decide)), ?_, ?_, ?_, ?_, h.lt, h.q2b, h.n2, h.l1, h.l2, h.ne, ((h.B.setCell (p := ⟨g, i * 3, none⟩) hwb _).setCell (p := ⟨g, i * 3 + 1, none⟩) hwb _).setCell (p := ⟨g, i * 3 + 2, none⟩) hwb _⟩
  · have hl := h.x1.lt
    exact (set_other_heap (by simp only [World.size_setCell]; exact hl) (Ne.symm hz1)).trans ((set_other_heap (by simp only [World.size_setCell]; exact hl) (Ne.symm hz1)).trans (set_other_heap hl (Ne.symm hz1)))
  · have hl := h.x2.lt
    exact (set_other_heap (by simp only [World.size_setCell]; exact hl) (Ne.symm hz2)).trans ((set_other_heap (by simp only [World.size_setCell]; exact hl) (Ne.symm hz2)).trans (set_other_heap hl (Ne.symm hz2)))
  · rw [eA, List.length_set]; exact hq'
  · exact ho
  · rw [List.length_set]; exact h.e1
  · exact h.e2
theorem OrM.set2 {Wb W : World} {f : Fair} {q1 q2 : List Bid} {z1 z2 n2 : Nat} {F1 F2 : FL} (h : OrM Wb f q1 q2 z1 z2 n2 F1 F2 W) {i : Nat} (hi : i < f.q.length) : ∃ g, F2.Aq = some ⟨g, 0, none⟩ ∧ Wb.heap.size ≤ g ∧ g < W.heap.size ∧ g ≠ z1 ∧ g ≠ z2 ∧ (∀ o, W.frozen? ⟨g, o, none⟩ = false) ∧ (∃ a b c, W.cell? ⟨g, i * 3, none⟩ = some a ∧ W.cell? ⟨g, i * 3 + 1, none⟩ = some b ∧ W.cell? ⟨g, i * 3 + 2, none⟩ = some c) ∧
    ∀ (y : Bid) (u : Value), InnOwn W u y.bar → OrM Wb f q1 (q2.set i y) z1 z2 n2 F1 F2 (((W.setCell ⟨g, i * 3, none⟩ (.int .i64 y.who)).setCell ⟨g, i * 3 + 1, none⟩ u).setCell ⟨g, i * 3 + 2, none⟩ (.int .i64 y.pay)) := by
  obtain ⟨x, hx⟩ : ∃ x, q2[i]? = some x := ⟨_, List.getElem?_eq_getElem (by rw [h.e2]; exact hi)⟩
  obtain ⟨g, A', c', eA, hlt, hng, d1, d2, d3, cur, hg⟩ := h.o2.at_ hx
  have hz1 : g ≠ z1 := fun e => by
    have h1 : W.heap[z1]? = _ := h.x1
    rw [← e, hg] at h1
    cases h1
  have hz2 : g ≠ z2 := fun e => by
    have h1 : W.heap[z2]? = _ := h.x2
    rw [← e, hg] at h1
    cases h1
  have hwb : Wb.heap.size ≤ g := by have h1 := h.n2; omega
  refine ⟨g, eA, hwb, hlt, hz1, hz2, frozen_of_heap hg, ⟨_, _, _, d1, d2, d3⟩, fun y u hu => ?_⟩
  have s1 := heap_set (.int .i64 y.who) (o := i * 3) hg
  have s2 := heap_set u (o := i * 3 + 1) s1
  have hk : ∀ t : TypeId, (38 : TypeId) ≠ t → KeepT t W (((W.setCell ⟨g, i * 3, none⟩ (.int .i64 y.who)).setCell ⟨g, i * 3 + 1, none⟩ u).setCell ⟨g, i * 3 + 2, none⟩ (.int .i64 y.pay)) := fun t ht => ((KeepT.set hg ht).trans (KeepT.set s1 ht)).trans (KeepT.set s2 ht)
  have hq := h.o2
  rw [eA] at hq
  have hq' := OwnsQ.setRow hq (show i < q2.length by rw [h.e2]; exact hi) y hu
  have hA : ∀ a, F1.Aq = some a → a.block ≠ g := fun a ha => by
    have h1 := h.lt a ha; omega
  have ho := ((h.o1.setOther (o := i * 3) (u := .int .i64 y.who) hA hg).setOther (o := i * 3 + 1) (u := u) hA s1).setOther (o := i * 3 + 2) (u := .int .i64 y.pay) hA s2
  refine ⟨h.x1.of ?_, h.x2.of ?_, h.c1.keepT (hk _ (by decide)) (hk _ (by decide)) (hk _ (by decide)), h.c2.keepT (hk _ (by decide)) (hk _ (by decide)) (hk _ (by decide)), ?_, ?_, ?_, ?_, h.lt, h.q2b, h.n2, h.l1, h.l2, h.ne, ((h.B.setCell (p := ⟨g, i * 3, none⟩) hwb _).setCell (p := ⟨g, i * 3 + 1, none⟩) hwb _).setCell (p := ⟨g, i * 3 + 2, none⟩) hwb _⟩
  · have hl := h.x1.lt
    exact (set_other_heap (by simp only [World.size_setCell]; exact hl) (Ne.symm hz1)).trans ((set_other_heap (by simp only [World.size_setCell]; exact hl) (Ne.symm hz1)).trans (set_other_heap hl (Ne.symm hz1)))
  · have hl := h.x2.lt
    exact (set_other_heap (by simp only [World.size_setCell]; exact hl) (Ne.symm hz2)).trans ((set_other_heap (by simp only [World.size_setCell]; exact hl) (Ne.symm hz2)).trans (set_other_heap hl (Ne.symm hz2)))
  · exact ho
  · rw [eA, List.length_set]; exact hq'
  · exact h.e1
  · rw [List.length_set]; exact h.e2

end Go.Proofs.Ytmconopnplgcfaa
