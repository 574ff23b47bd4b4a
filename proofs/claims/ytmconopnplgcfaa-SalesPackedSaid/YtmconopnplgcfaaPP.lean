import Derived.Test.YtmconopnplgcfaaPN
namespace Go.Proofs.Ytmconopnplgcfaa
open Go.RowKit

/-! Two fairs that a law makes in one statement. -/
theorem copF_of {W W' : World} (h : ∀ t : TypeId, t ≠ 29 → KeepT t W W') {n : Nat} {F : FL} {f : Fair} (H : CopF W n F f) : CopF W' n F f := H.keepT (h _ (by decide)) (h _ (by decide)) (h _ (by decide))
theorem ownsQ_of {W W' : World} (h : ∀ t : TypeId, t ≠ 29 → KeepT t W W') {n : Nat} {v : Value} {q : List Bid} (H : OwnsQ InnOwn W n v q) : OwnsQ InnOwn W' n v q := H.keepO (h _ (by decide)) (h _ (by decide))
def objPut (o : Nat) (u : Value) : Obj → Obj
  | .cells c e z => .cells (c.setIfInBounds o u) e z
  | x => x
theorem at_set (W : World) (b o : Nat) (u : Value) (k : Nat) : (W.setCell ⟨b, o, none⟩ u).heap[k]? = if b = k then (W.heap[k]?).map (objPut o u) else W.heap[k]? := by
  simp only [World.setCell]
  rw [Array.getElem?_modify]
  split
  · cases W.heap[k]? with
    | none => rfl
    | some x => cases x <;> rfl
  · rfl
theorem at_al (W : World) (o : Obj) (k : Nat) : (W.alloc o).heap[k]? = if k = W.heap.size then some o else W.heap[k]? := by
  by_cases h : k = W.heap.size
  · subst h; rw [if_pos rfl]; exact heap_new1 W o
  · rw [if_neg h]
    by_cases hk : k < W.heap.size
    · exact Below.heap_alloc _ _ _ hk
    · have h1 : W.heap[k]? = none := Array.getElem?_eq_none (by omega)
      rw [h1]
      refine Array.getElem?_eq_none ?_
      simp
      omega
theorem at_drew (W : World) : W.drew.heap = W.heap := rfl
/-- The blocks of other types than a fair's are kept. -/
def K29 (W W' : World) : Prop := ∀ t : TypeId, t ≠ 29 → KeepT t W W'
theorem K29.refl (W : World) : K29 W W := fun _ _ _ _ e => e
theorem K29.drew {W W' : World} (h : K29 W W') : K29 W W'.drew := h
theorem K29.alloc {W W' : World} (h : K29 W W') (o : Obj) : K29 W (W'.alloc o) := fun t ht => (h t ht).trans (.below (al_below _ _))
theorem K29.set8 {W W' : World} (h : K29 W W') {z : Nat} (hz : ∃ arr, W'.heap[z]? = some (.cells arr 29 (0, 0))) (x0 x1 x2 x3 x4 x5 x6 x7 : Value) : K29 W ((((((((W'.setCell ⟨z, 0, none⟩ x0).setCell ⟨z, 1, none⟩ x1).setCell ⟨z, 2, none⟩ x2).setCell ⟨z, 3, none⟩ x3).setCell ⟨z, 4, none⟩ x4).setCell ⟨z, 5, none⟩ x5).setCell ⟨z, 6, none⟩ x6).setCell ⟨z, 7, none⟩ x7) := fun t ht => by
  obtain ⟨arr, hz⟩ := hz
  exact (h t ht).trans (keepT_set8 hz (fun e => ht e.symm) _ _ _ _ _ _ _ _)
theorem below_s8 {n : Nat} {w W : World} (h : Below n w W) {z : Nat} (hz : n ≤ z) (x0 x1 x2 x3 x4 x5 x6 x7 : Value) : Below n w ((((((((W.setCell ⟨z, 0, none⟩ x0).setCell ⟨z, 1, none⟩ x1).setCell ⟨z, 2, none⟩ x2).setCell ⟨z, 3, none⟩ x3).setCell ⟨z, 4, none⟩ x4).setCell ⟨z, 5, none⟩ x5).setCell ⟨z, 6, none⟩ x6).setCell ⟨z, 7, none⟩ x7) := below_set8 h hz _ _ _ _ _ _ _ _
theorem drew_at {W : World} {z : Nat} {o : Obj} (h : W.heap[z]? = some o) : W.drew.heap[z]? = some o := h
theorem set8_same {W : World} {b : Nat} {x0 x1 x2 x3 x4 x5 x6 x7 : Value} (h : W.heap[b]? = some (.cells #[.slice none 0 0, .int .i64 0, .slice none 0 0, .slice none 0 0, .slice none 0 0, .int .i64 0, .int .i64 0, .slice none 0 0] 29 (0, 0))) : ((((((((W.setCell ⟨b, 0, none⟩ x0).setCell ⟨b, 1, none⟩ x1).setCell ⟨b, 2, none⟩ x2).setCell ⟨b, 3, none⟩ x3).setCell ⟨b, 4, none⟩ x4).setCell ⟨b, 5, none⟩ x5).setCell ⟨b, 6, none⟩ x6).setCell ⟨b, 7, none⟩ x7).heap[b]? = some (.cells #[x0, x1, x2, x3, x4, x5, x6, x7] 29 (0, 0)) := set8_heap h _ _ _ _ _ _ _ _
theorem set8_other {W : World} {b z : Nat} {o : Obj} {x0 x1 x2 x3 x4 x5 x6 x7 : Value} (h : W.heap[z]? = some o) (hn : ¬ z = b) : ((((((((W.setCell ⟨b, 0, none⟩ x0).setCell ⟨b, 1, none⟩ x1).setCell ⟨b, 2, none⟩ x2).setCell ⟨b, 3, none⟩ x3).setCell ⟨b, 4, none⟩ x4).setCell ⟨b, 5, none⟩ x5).setCell ⟨b, 6, none⟩ x6).setCell ⟨b, 7, none⟩ x7).heap[z]? = some o := by
  have hl := heap_lt h
  have s (W : World) (o : Nat) (u : Value) : (W.setCell ⟨b, o, none⟩ u).heap.size = W.heap.size := World.size_setCell _ _ _
  refine (set_other_heap (by simp only [s]; exact hl) hn).trans ((set_other_heap (by simp only [s]; exact hl) hn).trans ((set_other_heap (by simp only [s]; exact hl) hn).trans ((set_other_heap (by simp only [s]; exact hl) hn).trans ((set_other_heap (by simp only [s]; exact hl) hn).trans ((set_other_heap (by simp only [s]; exact hl) hn).trans ((set_other_heap (by simp only [s]; exact hl) hn).trans ((set_other_heap hl hn).trans h)))))))
theorem set8_new {W : World} {b : Nat} {o : Obj} {x0 x1 x2 x3 x4 x5 x6 x7 : Value} : (((((((((W.setCell ⟨b, 0, none⟩ x0).setCell ⟨b, 1, none⟩ x1).setCell ⟨b, 2, none⟩ x2).setCell ⟨b, 3, none⟩ x3).setCell ⟨b, 4, none⟩ x4).setCell ⟨b, 5, none⟩ x5).setCell ⟨b, 6, none⟩ x6).setCell ⟨b, 7, none⟩ x7).alloc o).heap[W.heap.size]? = some o := by
  have h := heap_new1 ((((((((W.setCell ⟨b, 0, none⟩ x0).setCell ⟨b, 1, none⟩ x1).setCell ⟨b, 2, none⟩ x2).setCell ⟨b, 3, none⟩ x3).setCell ⟨b, 4, none⟩ x4).setCell ⟨b, 5, none⟩ x5).setCell ⟨b, 6, none⟩ x6).setCell ⟨b, 7, none⟩ x7) o
  simp only [World.size_setCell] at h
  exact h
theorem K29.set8z {W W' : World} (h : K29 W W') {z : Nat} {x0 x1 x2 x3 x4 x5 x6 x7 : Value} (hz : W'.heap[z]? = some (.cells #[.slice none 0 0, .int .i64 0, .slice none 0 0, .slice none 0 0, .slice none 0 0, .int .i64 0, .int .i64 0, .slice none 0 0] 29 (0, 0))) : K29 W ((((((((W'.setCell ⟨z, 0, none⟩ x0).setCell ⟨z, 1, none⟩ x1).setCell ⟨z, 2, none⟩ x2).setCell ⟨z, 3, none⟩ x3).setCell ⟨z, 4, none⟩ x4).setCell ⟨z, 5, none⟩ x5).setCell ⟨z, 6, none⟩ x6).setCell ⟨z, 7, none⟩ x7) := K29.set8 h ⟨_, hz⟩ _ _ _ _ _ _ _ _
theorem alB {w W : World} (h : Below w.heap.size w W) (o : Obj) : Below w.heap.size w (W.alloc o) := hb0to h (al_below _ _)
theorem chainB {w X W : World} (_ : Below X.heap.size X W) (h : Below w.heap.size w X) : Below w.heap.size w X := h
theorem chainK {w X W : World} (_ : Below X.heap.size X W) (h : K29 w X) : K29 w X := h
theorem chainL {w X W : World} (_ : Below X.heap.size X W) (h : w.heap.size ≤ X.heap.size) : w.heap.size ≤ X.heap.size := h
/-- Two fairs, each in a variable of its own, and apart. -/
structure Two (W : World) (g1 g2 : Fair) (z1 z2 n2 : Nat) (F1 F2 : FL) (wx : World) : Prop where
  x1 : FBox wx z1 F1 g1
  x2 : FBox wx z2 F2 g2
  c1 : CopF wx W.heap.size F1 g1
  q1 : OwnsQ InnOwn wx W.heap.size (.slice F1.Aq g1.q.length F1.cq) g1.q
  c2 : CopF wx n2 F2 g2
  q2 : OwnsQ InnOwn wx n2 (.slice F2.Aq g2.q.length F2.cq) g2.q
  lt : ∀ g, F1.Aq = some g → g.block < n2
  n2 : W.heap.size ≤ n2
  l1 : W.heap.size ≤ z1
  l2 : W.heap.size ≤ z2
  ne : z1 ≠ z2
  B : Below W.heap.size W wx
def NewF2 (W : World) (g1 g2 : Fair) (s1 s2 : Value) (wx : World) : Prop := ∃ z1 z2 n2 F1 F2, s1 = .pointer (some ⟨z1, 0, none⟩) ∧ s2 = .pointer (some ⟨z2, 0, none⟩) ∧ Two W g1 g2 z1 z2 n2 F1 F2 wx
theorem Two.of {W w8 wx : World} {g1 g2 : Fair} {z1 z2 n2 : Nat} {F1 F2 : FL} (hc1 : CopF w8 W.heap.size F1 g1) (hq1 : OwnsQ InnOwn w8 W.heap.size (.slice F1.Aq g1.q.length F1.cq) g1.q) (hc2 : CopF w8 n2 F2 g2) (hq2 : OwnsQ InnOwn w8 n2 (.slice F2.Aq g2.q.length F2.cq) g2.q)
    (hlt : ∀ g, F1.Aq = some g → g.block < n2) (hn : W.heap.size ≤ n2) (hk : K29 w8 wx) (h1 : FBox wx z1 F1 g1) (h2 : FBox wx z2 F2 g2) (l1 : W.heap.size ≤ z1) (l2 : W.heap.size ≤ z2) (ne : z1 ≠ z2) (hb : Below W.heap.size W wx) : Two W g1 g2 z1 z2 n2 F1 F2 wx :=
  ⟨h1, h2, copF_of hk hc1, ownsQ_of hk hq1, copF_of hk hc2, ownsQ_of hk hq2, hlt, hn, l1, l2, ne, hb⟩
theorem OwnsQ.lt {I : World → Value → List Int → Prop} {W : World} {n : Nat} {A : Option Addr} {m c : Nat} {q : List Bid} (h : OwnsQ I W n (.slice A m c) q) : ∀ g, A = some g → g.block < W.heap.size := fun g e => by
  obtain ⟨rows, _, h1, _⟩ := h
  rcases h1.2 with ⟨e0, _⟩ | ⟨g', cap, cur, e0, _, hg, _⟩
  · injection e0 with e1; rw [e1] at e; cases e
  · injection e0 with e1; rw [e1] at e; cases e; exact heap_lt hg

end Go.Proofs.Ytmconopnplgcfaa
