import Derived.Test.YtgemmmdcpbajoaaVV
namespace Go.Proofs.Ytgemmmdcpbajoaa
open Go.RowKit

/-! SaltOrder. -/
structure TurnM (w W : World) (L : HL) (h : House) (a b c d : Int) : Prop where
  B : Below w.heap.size w W
  x : HBox W w.heap.size L h
  y : W.heap[w.heap.size + 1]? = some (.cells #[.int .i64 a, .int .i64 b, .int .i64 c, .int .i64 d] 57 (0, 0))
  H : HouseAt w w.heap.size L h
theorem TurnM.house {w W : World} {L : HL} {h : House} {a b c d : Int} (M : TurnM w W L h a b c d) : HouseAt W W.heap.size L h := M.H.below M.B
theorem TurnM.lt {w W : World} {L : HL} {h : House} {a b c d : Int} (M : TurnM w W L h a b c d) : w.heap.size + 1 < W.heap.size := heap_lt M.y
theorem TurnM.next {w W W' : World} {L : HL} {h : House} {a b c d : Int} (M : TurnM w W L h a b c d) (hb : Below W.heap.size W W') : TurnM w W' L h a b c d :=
  ⟨hb0to M.B hb, M.x.of (hb.block _ M.x.lt), (hb.block _ M.lt).trans M.y, M.H⟩
theorem TurnM.set {w W : World} {L : HL} {h : House} {a b c d : Int} (M : TurnM w W L h a b c d) {g o : Nat} {u : Value} (hg : w.heap.size + 2 ≤ g) : TurnM w (W.setCell ⟨g, o, none⟩ u) L h a b c d :=
  ⟨M.B.setCell (p := ⟨g, o, none⟩) (by show w.heap.size ≤ g; omega) u, M.x.of (set_other_heap M.x.lt (by omega)), (set_other_heap M.lt (by omega)).trans M.y, M.H⟩
theorem TurnM.c {w W : World} {L : HL} {h : House} {a b c d : Int} (M : TurnM w W L h a b c d) : (W.cell? ⟨w.heap.size, 0, none⟩ = some (.slice L.Ak h.ks.length L.ck) ∧ W.cell? ⟨w.heap.size, 1, none⟩ = some (.int .i64 h.fl) ∧ W.cell? ⟨w.heap.size, 2, none⟩ = some (.slice L.Ap h.ps.length L.cp) ∧ W.cell? ⟨w.heap.size, 3, none⟩ = some (.slice L.Ab h.bs.length L.cb)) ∧
    (W.cell? ⟨w.heap.size + 1, 0, none⟩ = some (.int .i64 a) ∧ W.cell? ⟨w.heap.size + 1, 1, none⟩ = some (.int .i64 b) ∧ W.cell? ⟨w.heap.size + 1, 2, none⟩ = some (.int .i64 c) ∧ W.cell? ⟨w.heap.size + 1, 3, none⟩ = some (.int .i64 d)) :=
  ⟨M.x.cells, by simp [World.cell?, M.y]⟩
theorem TurnM.new {w : World} {L : HL} {h : House} (a b c d : Int) (hH : HouseAt w w.heap.size L h) : ∃ W0, (w.alloc (.cells #[.slice L.Ak h.ks.length L.ck, .int .i64 h.fl, .slice L.Ap h.ps.length L.cp, .slice L.Ab h.bs.length L.cb] 26)).alloc (.cells #[.int .i64 a, .int .i64 b, .int .i64 c, .int .i64 d] 57) = W0 ∧ TurnM w W0 L h a b c d := by
  refine ⟨_, rfl, (((Below.refl _ w).alloc (Nat.le_refl _) _).alloc (by simp) _), (HBox.new w L h).of (Below.heap_alloc _ _ _ (by simp)), ?_, hH⟩
  have := World.alloc_heap_new (w.alloc (.cells #[.slice L.Ak h.ks.length L.ck, .int .i64 h.fl, .slice L.Ap h.ps.length L.cp, .slice L.Ab h.bs.length L.cb] 26)) (.cells #[.int .i64 a, .int .i64 b, .int .i64 c, .int .i64 d] 57)
  rwa [World.size_alloc] at this
/-- The copy, in a box of its own. -/
structure TurnO (W : World) (s bo : Nat) (Lo : HL) (o : House) : Prop where
  z : HBox W bo Lo o
  C : ∃ n0 n1 n2, Copied W n0 n1 n2 Lo o ∧ s ≤ n0
theorem TurnO.next {W W' : World} {s bo : Nat} {Lo : HL} {o : House} (H : TurnO W s bo Lo o) (hb : Below W.heap.size W W') : TurnO W' s bo Lo o := by
  obtain ⟨n0, n1, n2, hC, hs⟩ := H.C
  exact ⟨H.z.of (hb.block _ H.z.lt), n0, n1, n2, hC.below hb, hs⟩
theorem TurnO.house {W : World} {s bo : Nat} {Lo : HL} {o : House} (H : TurnO W s bo Lo o) : HouseAt W W.heap.size Lo o := by
  obtain ⟨n0, n1, n2, hC, hs⟩ := H.C
  exact hC.house
theorem TurnO.cap {W : World} {s bo : Nat} {Lo : HL} {o : House} (H : TurnO W s bo Lo o) : o.bs.length ≤ Lo.cb ∧ (Lo.Ab = none → Lo.cb = 0) ∧ Lo.cb ≤ 9223372036854775807 := by
  obtain ⟨n0, n1, n2, hC, hs⟩ := H.C
  exact hC.cap3
theorem TurnO.new {W : World} {s n0 n1 n2 : Nat} {Lo : HL} {o : House} (C : Copied W n0 n1 n2 Lo o) (hs : s ≤ n0) : TurnO (W.alloc (.cells #[.slice Lo.Ak o.ks.length Lo.ck, .int .i64 o.fl, .slice Lo.Ap o.ps.length Lo.cp, .slice Lo.Ab o.bs.length Lo.cb] 26)) s W.heap.size Lo o :=
  ⟨HBox.new W Lo o, n0, n1, n2, C.below ((Below.refl _ W).alloc (Nat.le_refl _) _), hs⟩
theorem TurnO.putB {W : World} {s bo : Nat} {Lo : HL} {o : House} (H : TurnO W s bo Lo o) {i : Nat} (hi : i < o.bs.length) : ∃ g, Lo.Ab = some ⟨g, 0, none⟩ ∧ s ≤ g ∧ g ≠ bo ∧ W.frozen? ⟨g, i, none⟩ = false ∧ (∃ y, W.cell? ⟨g, i, none⟩ = some (.int .i64 y)) ∧ ∀ x, TurnO (W.setCell ⟨g, i, none⟩ (.int .i64 x)) s bo Lo { o with bs := o.bs.set i x } := by
  obtain ⟨n0, n1, n2, hC, hs⟩ := H.C
  have hb := hC.b
  obtain ⟨g, cap, cur, eA, _, _, hg, _⟩ := ints_some hb (by intro e; rw [e] at hi; simp at hi)
  have hb2 : Ints W n2 (.slice (some ⟨g, 0, none⟩) o.bs.length Lo.cb) o.bs := by rw [eA] at hb; exact hb
  obtain ⟨_, f1, f2⟩ := hb2.setAt hi 0
  have h1 := hC.n01
  have h2 := hC.n12
  have hne : g ≠ bo := box_ne hb2 H.z (by decide) g rfl
  refine ⟨g, eA, by omega, hne, f1, f2, fun x => ⟨?_, n0, n1, n2, hC.setB eA hi x, hs⟩⟩
  have := H.z.of (set_other_heap (o := i) (u := .int .i64 x) H.z.lt hne.symm)
  unfold HBox at this ⊢
  simp only [List.length_set]
  exact this
theorem TurnO.putP {W : World} {s bo : Nat} {Lo : HL} {o : House} (H : TurnO W s bo Lo o) {i : Nat} (hi : i < o.ps.length) : ∃ g, Lo.Ap = some ⟨g, 0, none⟩ ∧ s ≤ g ∧ g ≠ bo ∧ (∀ q, W.frozen? ⟨g, q, none⟩ = false) ∧ (∃ y z, W.cell? ⟨g, i * 2, none⟩ = some (.int .i64 y) ∧ W.cell? ⟨g, i * 2 + 1, none⟩ = some (.int .i64 z)) ∧ ∀ x : Int × Int, TurnO ((W.setCell ⟨g, i * 2, none⟩ (.int .i64 x.1)).setCell ⟨g, i * 2 + 1, none⟩ (.int .i64 x.2)) s bo Lo { o with ps := o.ps.set i x } := by
  obtain ⟨n0, n1, n2, hC, hs⟩ := H.C
  have hp := hC.p
  obtain ⟨g, eA, hg⟩ : ∃ g, Lo.Ap = some ⟨g, 0, none⟩ ∧ n1 ≤ g := by
    rcases hp.2 with ⟨_, h0⟩ | ⟨g, cap, cur, e, hb, _⟩
    · omega
    · refine ⟨g, ?_, hb⟩
      cases hh : Lo.Ap <;> rw [hh] at e <;> cases e
      rfl
  have hp2 : OwnsP W 38 n1 (.slice (some ⟨g, 0, none⟩) o.ps.length Lo.cp) o.ps := by rw [eA] at hp; exact hp
  obtain ⟨_, f1, f2⟩ := OwnsP.setAt hp2 hi (0, 0)
  have h1 := hC.n01
  have hne : g ≠ bo := box_ne hp2 H.z (by decide) g rfl
  refine ⟨g, eA, by omega, hne, f1, f2, fun x => ⟨?_, n0, n1, n2, hC.setP eA hi x, hs⟩⟩
  have := (H.z.of (set_other_heap (o := i * 2) (u := .int .i64 x.1) H.z.lt hne.symm))
  have := this.of (set_other_heap (o := i * 2 + 1) (u := .int .i64 x.2) this.lt hne.symm)
  unfold HBox at this ⊢
  simp only [List.length_set]
  exact this
theorem rem_idx {n k : Nat} {x : Int} (hn : k < n) : ((k : Int) + x) % (n : Int) = ((if k + (x % n).toNat < n then k + (x % n).toNat else k + (x % n).toNat - n : Nat) : Int) := by
  have h0 : (0 : Int) < n := by omega
  have h1 := Int.emod_nonneg x (show (n : Int) ≠ 0 by omega)
  have h2 := Int.emod_lt_of_pos x h0
  have h3 : ((k : Int) + x) % n = ((k : Int) + x % n) % n := by rw [Int.add_emod_emod]
  rw [h3]
  split
  · rw [Int.emod_eq_of_lt (by omega) (by omega)]; omega
  · have : ((k : Int) + x % n) % n = ((k : Int) + x % n - n) % n := by rw [Int.sub_emod_right]
    rw [this, Int.emod_eq_of_lt (by omega) (by omega)]; omega
end Go.Proofs.Ytgemmmdcpbajoaa
