import Derived.Test.YtgjpllmmpclgaaaM9
namespace Go.Proofs.Ytgjpllmmpclgaaa
open Go.RowKit

/-! Stronger 38: a copy, one boat of which is written anew. -/
theorem owns_keepV {W W' : World} {base e size n base' e' size' n' : Nat} {v v' : Value} {xs xs' : List Value} (h : W.ownsRow base e size v n xs) (h' : W.ownsRow base' e' size' v' n' xs') (hg : W.grownBy W' v'.ownBlock) (hne : e ≠ e') : W'.ownsRow base e size v n xs := by
  rcases h'.2 with ⟨rfl, _⟩ | ⟨g, cap, cur, rfl, hb, hgg, _⟩
  · refine ⟨h.1, ?_⟩
    rcases h.2 with h2 | ⟨g', cap, cur, ev, hb2, hg', h4⟩
    · exact .inl h2
    · exact .inr ⟨g', cap, cur, ev, hb2, (hg.block _ (heap_lt hg') fun e' => by simp [Value.ownBlock] at e').trans hg', h4⟩
  · exact owns_keepT h hg hgg hne
/-- 'append(out, xs...)' of pairs; what grows is told. -/
theorem wpl_copyP3 {ops : Array Oper} {rest : List Oper} {o : Oper} {a : Act} {w : World} {Q : Exit → Act → World → Prop} (hgd : o.guard = none) (s x : Operand) (st et : TypeId) {it : TypeInfo}
    (hst : Try.prog.underlying st = some (.slice et)) (hi : Try.prog.info? et = some it) (hz0 : it.zero = some (.agg #[.int .i64 0, .int .i64 0])) (hz1 : it.size = 2) (hz2 : it.bytes = 16)
    (ho : o.op = .call { callee := .builtin .append, args := #[s, x], argTypes := #[st, st] }) (n₀ : Nat) (v : Value) (l0 : List (Int × Int)) (hs : a.eval s = v) (hown : OwnsP w et n₀ v l0)
    (ad : Addr) (c m : Nat) (ns : List (Int × Int)) (hm : ns.length = m) (hx : a.eval x = .slice (some ad) m c) (hN : PairsAt w w.heap.size (some ad) ns) (hl0 : l0.length ≤ 1000) (hl : ns.length ≤ 1000) (hn : n₀ ≤ w.heap.size)
    (h : ∀ v' w', OwnsP w' et n₀ v' (l0 ++ ns) → Below n₀ w w' → w.grownBy w' v.ownBlock → wpList Try.prog ops Q rest (a.put o.dst v') w') : wpList Try.prog ops Q (o :: rest) a w := by
  subst hm
  refine wpList_append_own w hgd s x st ho n₀ et it _ 2 16 hst hi hz0 hz1 hz2 rfl (by decide) v l0.length _ hs hown ad ns.length c (pairCells ns) hx (pairCells_len ns) (pairs_news hN) (pairCells_one ns) ?_ ?_ hn ?_
  · unfold maxLen; omega
  · omega
  · intro v' w' h2 h3 _
    refine h v' w' ?_ (own_below hown h3 hn (Nat.le_refl _)) h3
    unfold OwnsP
    rw [List.length_append, pairCells_app]
    exact h2
/-- One pair of an owned row is written anew. -/
theorem pairCells_set : ∀ (ns : List (Int × Int)) (i : Nat) (x : Int × Int), pairCells (ns.set i x) = ((pairCells ns).set (i * 2) (.int .i64 x.1)).set (i * 2 + 1) (.int .i64 x.2)
  | [], i, x => by simp [pairCells]
  | y :: ns, 0, x => rfl
  | y :: ns, i + 1, x => by
    show _ :: _ :: pairCells (ns.set i x) = _
    rw [pairCells_set ns i x]
    rw [show (i + 1) * 2 = i * 2 + 1 + 1 by omega]
    rfl
theorem OwnsP.setAt {W : World} {t : TypeId} {base n c g : Nat} {ns : List (Int × Int)} (h : OwnsP W t base (.slice (some ⟨g, 0, none⟩) n c) ns) {i : Nat} (hi : i < ns.length) (x : Int × Int) : OwnsP ((W.setCell ⟨g, i * 2, none⟩ (.int .i64 x.1)).setCell ⟨g, i * 2 + 1, none⟩ (.int .i64 x.2)) t base (.slice (some ⟨g, 0, none⟩) n c) (ns.set i x) ∧ (∀ o, W.frozen? ⟨g, o, none⟩ = false) ∧ ∃ y z, W.cell? ⟨g, i * 2, none⟩ = some (.int .i64 y) ∧ W.cell? ⟨g, i * 2 + 1, none⟩ = some (.int .i64 z) := by
  rcases h.2 with ⟨e, h0⟩ | ⟨g', cap, cur, e, hb, hg, h1, h5, h2, h3⟩
  · cases e
  · cases e
    have hlen := pairCells_len ns
    obtain ⟨c0, c1⟩ := pairCells_at ns i ns[i] (List.getElem?_eq_getElem hi)
    have hcell : ∀ (j : Nat) (v : Value), (pairCells ns)[j]? = some v → cur[j]? = some v := fun j v hv => by
      have hj := (List.getElem?_eq_some_iff.1 hv).1
      rw [← h3, List.getElem?_take_of_lt (by omega)] at hv
      simpa using hv
    refine ⟨⟨by rw [pairCells_len], .inr ⟨g, c, _, by rw [List.length_set], hb, heap_set (.int .i64 x.2) (heap_set (.int .i64 x.1) hg), by rw [List.length_set]; exact h1, h5, by simpa using h2, ?_⟩⟩, fun o => by simp [World.frozen?, hg], ns[i].1, ns[i].2, ?_, ?_⟩
    · rw [List.length_set, Array.toList_setIfInBounds, Array.toList_setIfInBounds, List.take_set, List.take_set, h3, pairCells_set]
    · simp [World.cell?, hg, hcell _ _ c0]
    · simp [World.cell?, hg, hcell _ _ c1]
/-- A sea in a box of its own, whose slices are its own. -/
structure OBox (W : World) (n0 z : Nat) (L : SL) (s : Sea) : Prop where
  C : Copied W n0 L s
  x : SBox W z L s
theorem OBox.below {W W' : World} {n0 z : Nat} {L : SL} {s : Sea} (h : OBox W n0 z L s) (hb : Below W.heap.size W W') : OBox W' n0 z L s := ⟨h.C.below hb, h.x.of (hb.block _ h.x.lt)⟩
theorem OBox.new {W : World} {n0 : Nat} {L : SL} {s : Sea} (h : Copied W n0 L s) : OBox (W.alloc (.cells #[.int .i64 s.wl, .int .i64 s.wh, .slice L.Ap s.ps.length L.cp, .slice L.Ab s.bs.length L.cb] 27)) n0 W.heap.size L s := ⟨h.below (al_below W _), SBox.new W L s⟩
/-- A boat of it is written anew. -/
theorem OBox.setB {W : World} {n0 z g : Nat} {L : SL} {s : Sea} (h : OBox W n0 z L s) (hA : L.Ab = some ⟨g, 0, none⟩) {i : Nat} (hi : i < s.bs.length) (x : Int × Int) :
    OBox ((W.setCell ⟨g, i * 2, none⟩ (.int .i64 x.1)).setCell ⟨g, i * 2 + 1, none⟩ (.int .i64 x.2)) n0 z L { s with bs := s.bs.set i x } := by
  obtain ⟨Ap, cp, Ab, cb⟩ := L
  simp only at hA
  subst hA
  have hb := h.C.b
  have hp := h.C.p
  simp only at hb hp
  obtain ⟨g', cap, cur, e, _, hg, _⟩ := hb.2.resolve_left (by rintro ⟨e, _⟩; cases e)
  cases e
  have hne : z ≠ g := by
    rintro rfl
    have := h.x
    unfold SBox at this
    rw [hg] at this
    cases this
  have st : ∀ {W : World} {o : Obj} {i : Nat} {v : Value}, W.heap[z]? = some o → (W.setCell ⟨g, i, none⟩ v).heap[z]? = some o := fun hh => (set_other_heap (heap_lt hh) hne).trans hh
  refine ⟨⟨?_, ?_⟩, ?_⟩
  · exact owns_set (owns_set hp (by decide) hg) (by decide) (heap_set (.int .i64 x.1) (o := i * 2) hg)
  · have := (hb.setAt hi x).1
    simpa using this
  · have := st (i := i * 2 + 1) (v := .int .i64 x.2) (st (i := i * 2) (v := .int .i64 x.1) h.x)
    unfold SBox
    rw [this]
    simp
/-- A place of it is written anew. -/
theorem OBox.setP {W : World} {n0 z g : Nat} {L : SL} {s : Sea} (h : OBox W n0 z L s) (hA : L.Ap = some ⟨g, 0, none⟩) {i : Nat} (hi : i < s.ps.length) (x : Int × Int) :
    OBox ((W.setCell ⟨g, i * 2, none⟩ (.int .i64 x.1)).setCell ⟨g, i * 2 + 1, none⟩ (.int .i64 x.2)) n0 z L { s with ps := s.ps.set i x } := by
  obtain ⟨Ap, cp, Ab, cb⟩ := L
  simp only at hA
  subst hA
  have hb := h.C.b
  have hp := h.C.p
  simp only at hb hp
  obtain ⟨g', cap, cur, e, _, hg, _⟩ := hp.2.resolve_left (by rintro ⟨e, _⟩; cases e)
  cases e
  have hne : z ≠ g := by
    rintro rfl
    have := h.x
    unfold SBox at this
    rw [hg] at this
    cases this
  have st : ∀ {W : World} {o : Obj} {i : Nat} {v : Value}, W.heap[z]? = some o → (W.setCell ⟨g, i, none⟩ v).heap[z]? = some o := fun hh => (set_other_heap (heap_lt hh) hne).trans hh
  refine ⟨⟨?_, ?_⟩, ?_⟩
  · have := (hp.setAt hi x).1
    simpa using this
  · exact owns_set (owns_set hb (by decide) hg) (by decide) (heap_set (.int .i64 x.1) (o := i * 2) hg)
  · have := st (i := i * 2 + 1) (v := .int .i64 x.2) (st (i := i * 2) (v := .int .i64 x.1) h.x)
    unfold SBox
    rw [this]
    simp
/-- What Stronger returns. -/
def StrongRet (s : Sea) (i : Nat) (B : Nat) (w' : World) (e : Ending) : Prop := CopyRet (strongS s i) B w' e
end Go.Proofs.Ytgjpllmmpclgaaa
