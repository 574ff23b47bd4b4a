import Derived.Test.YtgemmmdcpbajoaaVO
import Derived.Test.YtgemmmdcpbajoaaVP
namespace Go.Proofs.Ytgemmmdcpbajoaa
open Go.RowKit

/-! Writing into a copy. -/
theorem ints_some {W : World} {base n c : Nat} {A : Option Addr} {l : List Int} (h : Ints W base (.slice A n c) l) (hl : l ≠ []) : ∃ g cap cur, A = some ⟨g, 0, none⟩ ∧ c = cap ∧ n = l.length ∧ base ≤ g ∧ W.heap[g]? = some (.cells cur 3 (0, 0)) ∧ l.length ≤ cap ∧ cur.size = cap ∧ cur.toList.take l.length = l.map (Value.int .i64) := by
  rcases h.2 with ⟨e, h0⟩ | ⟨g, cap, cur, e, hb, hg, h1, _, h2, h3⟩
  · exact absurd (List.length_eq_zero_iff.1 h0) hl
  · cases e
    exact ⟨g, _, cur, rfl, rfl, rfl, hb, hg, h1, by omega, by simpa using h3⟩
theorem Ints.setAt {W : World} {base n c g : Nat} {l : List Int} (h : Ints W base (.slice (some ⟨g, 0, none⟩) n c) l) {i : Nat} (hi : i < l.length) (x : Int) : Ints (W.setCell ⟨g, i, none⟩ (.int .i64 x)) base (.slice (some ⟨g, 0, none⟩) n c) (l.set i x) ∧ W.frozen? ⟨g, i, none⟩ = false ∧ ∃ y, W.cell? ⟨g, i, none⟩ = some (.int .i64 y) := by
  rcases h.2 with ⟨e, h0⟩ | ⟨g', cap, cur, e, hb, hg, h1, h5, h2, h3⟩
  · cases e
  · cases e
    have h3' : cur.toList.take l.length = l.map (Value.int .i64) := by simpa using h3
    refine ⟨⟨by simp, .inr ⟨g, c, _, by rw [List.length_set], hb, heap_set (.int .i64 x) hg, by rw [List.length_set]; exact h1, h5, by simpa using h2, ?_⟩⟩, by simp [World.frozen?, hg], l[i], ?_⟩
    · rw [List.length_set, Nat.mul_one, Array.toList_setIfInBounds, List.take_set, h3', List.map_set]
    · have : cur[i]? = some (.int .i64 l[i]) := by
        have e2 : (cur.toList.take l.length)[i]? = some (.int .i64 l[i]) := by rw [h3', List.getElem?_map, List.getElem?_eq_getElem hi]; rfl
        rw [List.getElem?_take_of_lt hi] at e2
        simpa using e2
      simp [World.cell?, hg, this]
theorem pairCells_set : ∀ (ns : List (Int × Int)) (i : Nat) (x : Int × Int), pairCells (ns.set i x) = ((pairCells ns).set (i * 2) (.int .i64 x.1)).set (i * 2 + 1) (.int .i64 x.2)
  | [], i, x => by simp [pairCells]
  | y :: ns, 0, x => rfl
  | y :: ns, i + 1, x => by
    show _ :: _ :: pairCells (ns.set i x) = _
    rw [pairCells_set ns i x]
    rw [show (i + 1) * 2 = i * 2 + 1 + 1 by omega]
    rfl
theorem OwnsP.setAt {W : World} {base n c g : Nat} {ns : List (Int × Int)} (h : OwnsP W 38 base (.slice (some ⟨g, 0, none⟩) n c) ns) {i : Nat} (hi : i < ns.length) (x : Int × Int) : OwnsP ((W.setCell ⟨g, i * 2, none⟩ (.int .i64 x.1)).setCell ⟨g, i * 2 + 1, none⟩ (.int .i64 x.2)) 38 base (.slice (some ⟨g, 0, none⟩) n c) (ns.set i x) ∧ (∀ o, W.frozen? ⟨g, o, none⟩ = false) ∧ ∃ y z, W.cell? ⟨g, i * 2, none⟩ = some (.int .i64 y) ∧ W.cell? ⟨g, i * 2 + 1, none⟩ = some (.int .i64 z) := by
  rcases h.2 with ⟨e, h0⟩ | ⟨g', cap, cur, e, hb, hg, h1, h5, h2, h3⟩
  · cases e
  · cases e
    have hlen := pairCells_len ns
    obtain ⟨c0, c1⟩ := pairCells_at ns i ns[i] (List.getElem?_eq_getElem hi)
    have hcell : ∀ (j : Nat) (v : Value), (pairCells ns)[j]? = some v → cur[j]? = some v := fun j v hv => by
      have hj := (List.getElem?_eq_some_iff.1 hv).1
      rw [← h3, List.getElem?_take_of_lt (by omega)] at hv
      simpa using hv
    refine ⟨⟨by rw [pairCells_len], .inr ⟨g, c, _, by rw [List.length_set], hb, heap_set (.int .i64 x.2) (heap_set (.int .i64 x.1) hg), by rw [List.length_set]; exact h1, h5, by simpa using h2, ?_⟩⟩, fun o => by simp [World.frozen?, hg], ns[i].1, ns[i].2, ?_, ?_⟩
    · rw [List.length_set, Array.toList_setIfInBounds, Array.toList_setIfInBounds, List.take_set, List.take_set, h3, pairCells_set]
    · simp [World.cell?, hg, hcell _ _ c0]
    · simp [World.cell?, hg, hcell _ _ c1]
theorem owns_other {W : World} {base e size n b o : Nat} {u v : Value} {xs : List Value} (h : W.ownsRow base e size v n xs) (hne : ∀ g, v.ownBlock = some g → g ≠ b) : (W.setCell ⟨b, o, none⟩ u).ownsRow base e size v n xs := by
  refine ⟨h.1, ?_⟩
  rcases h.2 with h2 | ⟨g, cap, cur, e, hb2, hg, h4⟩
  · exact .inl h2
  · refine .inr ⟨g, cap, cur, e, hb2, (set_other_heap (heap_lt hg) (hne g ?_)).trans hg, h4⟩
    rw [e]; rfl
theorem Copied.setB {W : World} {n0 n1 n2 g : Nat} {L : HL} {h : House} (H : Copied W n0 n1 n2 L h) (hA : L.Ab = some ⟨g, 0, none⟩) {i : Nat} (hi : i < h.bs.length) (x : Int) : Copied (W.setCell ⟨g, i, none⟩ (.int .i64 x)) n0 n1 n2 L { h with bs := h.bs.set i x } := by
  have hb : Ints W n2 (.slice (some ⟨g, 0, none⟩) h.bs.length L.cb) h.bs := by have := H.b; rw [hA] at this; exact this
  have hg := (World.ownsRow.lt hb g rfl).1
  have h12 := H.n12
  refine ⟨owns_other H.k fun g' hg' => by have := H.k1 g' hg'; omega, H.k1, owns_other H.p fun g' hg' => by have := H.p1 g' hg'; omega, H.p1, ?_, H.n01, H.n12⟩
  simp only [List.length_set, hA]
  exact (hb.setAt hi x).1
theorem Copied.setP {W : World} {n0 n1 n2 g : Nat} {L : HL} {h : House} (H : Copied W n0 n1 n2 L h) (hA : L.Ap = some ⟨g, 0, none⟩) {i : Nat} (hi : i < h.ps.length) (x : Int × Int) : Copied ((W.setCell ⟨g, i * 2, none⟩ (.int .i64 x.1)).setCell ⟨g, i * 2 + 1, none⟩ (.int .i64 x.2)) n0 n1 n2 L { h with ps := h.ps.set i x } := by
  have hp : OwnsP W 38 n1 (.slice (some ⟨g, 0, none⟩) h.ps.length L.cp) h.ps := by have := H.p; rw [hA] at this; exact this
  have hg := (World.ownsRow.lt hp g rfl).1
  have hg2 := H.p1 g (by rw [hA]; rfl)
  refine ⟨owns_other (owns_other H.k fun g' hg' => by have := H.k1 g' hg'; omega) fun g' hg' => by have := H.k1 g' hg'; omega, H.k1, ?_, ?_, owns_other (owns_other H.b fun g' hg' => by have := (World.ownsRow.lt H.b g' hg').1; omega) fun g' hg' => by have := (World.ownsRow.lt H.b g' hg').1; omega, H.n01, H.n12⟩
  · simp only [List.length_set, hA]
    exact (OwnsP.setAt hp hi x).1
  · simp only [List.length_set]
    exact H.p1
/-- The first ones new, the others old. -/
def mixL {α : Type} (old new : List α) (k : Nat) : List α := new.take k ++ old.drop k
theorem mixL_zero {α : Type} (old new : List α) : mixL old new 0 = old := by simp [mixL]
theorem mixL_len {α : Type} {old new : List α} (hl : new.length = old.length) (k : Nat) : (mixL old new k).length = old.length := by
  simp only [mixL, List.length_append, List.length_take, List.length_drop]; omega
theorem mixL_all {α : Type} {old new : List α} (hl : new.length = old.length) : mixL old new old.length = new := by
  unfold mixL
  rw [List.take_of_length_le (by omega), List.drop_eq_nil_of_le (Nat.le_refl _), List.append_nil]
theorem mixL_next {α : Type} {old new : List α} {k : Nat} {x : α} (hl : new.length = old.length) (hk : k < old.length) (hx : new[k]? = some x) : mixL old new (k + 1) = (mixL old new k).set k x := by
  unfold mixL
  have hkt : (new.take k).length = k := by rw [List.length_take]; omega
  rw [List.set_append, if_neg (by omega), hkt, Nat.sub_self, List.drop_eq_getElem_cons hk, List.set_cons_zero, List.take_add_one, hx]
  simp
end Go.Proofs.Ytgemmmdcpbajoaa
