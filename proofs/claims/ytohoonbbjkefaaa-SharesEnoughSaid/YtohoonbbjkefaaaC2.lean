import Derived.Test.YtohoonbbjkefaaaC1
namespace Go.Proofs.Ytohoonbbjkefaaa
open Go.RowKit

def exC : List Node := [⟨-1, 0, 0⟩, ⟨0, 0, 3⟩, ⟨0, 1, 0⟩, ⟨0, 1, 0⟩, ⟨2, 2, 0⟩, ⟨2, 1, 0⟩, ⟨3, 1, 2⟩, ⟨3, 4, 0⟩]
def exD : List Node := [⟨-1, 0, 0⟩, ⟨0, 1, 0⟩, ⟨0, 1, 0⟩, ⟨0, 4, 0⟩, ⟨0, 4, 0⟩]
theorem nodes_lay {W : World} {g : Nat} {t : TypeId} {cells : Array Value} {ns : List Node} (h : W.heap[g]? = some (.cells cells t (0, 0))) (hc : cells = (nodeCells ns).toArray) : Nodes W W.heap.size (some ⟨g, 0, none⟩) ns := by
  refine .inr ⟨g, 0, rfl, (Array.getElem?_eq_some_iff.1 h).1, fun i x hx => ?_⟩
  obtain ⟨d1, d2, d3⟩ := nodeCells_at ns i x hx
  have hk : ∀ j v, (nodeCells ns)[j]? = some v → W.cell? ⟨g, j, none⟩ = some v := fun j v hj => by
    simp [World.cell?, h, hc, hj]
  rw [Nat.zero_add]
  exact ⟨hk _ _ d1, hk _ _ d2, hk _ _ d3⟩
set_option maxRecDepth 100000 in
set_option maxHeartbeats 4000000 in
theorem example_any (w : World) : Calls Try.prog 59 #[] w fun e w' => ∃ g h, e = .returned (.tuple #[.agg #[.slice (some ⟨g, 0, none⟩) 8 8], .agg #[.slice (some ⟨h, 0, none⟩) 5 5]]) ∧ Nodes w' w'.heap.size (some ⟨g, 0, none⟩) exC ∧ Nodes w' w'.heap.size (some ⟨h, 0, none⟩) exD ∧ Below w.heap.size w w' := by
  go_enter Try.func59, Try.ntmps59
  go_wp2
  go_region
  go_wp2
  have h1 := (World.alloc_heap_new ((w.alloc (.cells #[.slice (some ⟨w.heap.size + 1 + 1, 0, none⟩) 8 8] 24)).alloc (.cells #[.slice (some ⟨w.heap.size + 1 + 1 + 1, 0, none⟩) 5 5] 24)) (.cells (nodeCells exC).toArray 46))
  have h2 := World.alloc_heap_new (((w.alloc (.cells #[.slice (some ⟨w.heap.size + 1 + 1, 0, none⟩) 8 8] 24)).alloc (.cells #[.slice (some ⟨w.heap.size + 1 + 1 + 1, 0, none⟩) 5 5] 24)).alloc (.cells (nodeCells exC).toArray 46)) (.cells (nodeCells exD).toArray 46)
  have h3 := (Below.heap_alloc _ (.cells (nodeCells exD).toArray 46) _ (Array.getElem?_eq_some_iff.1 h1).1).trans h1
  simp only [World.size_alloc] at h2 h3
  have hb : Below w.heap.size w ((((w.alloc (.cells #[.slice (some ⟨w.heap.size + 1 + 1, 0, none⟩) 8 8] 24)).alloc (.cells #[.slice (some ⟨w.heap.size + 1 + 1 + 1, 0, none⟩) 5 5] 24)).alloc (.cells (nodeCells exC).toArray 46)).alloc (.cells (nodeCells exD).toArray 46)) := ((((Below.refl _ w).alloc (Nat.le_refl _) _).alloc (by simp) _).alloc (by simp; omega) _).alloc (by simp; omega) _
  refine bodyPost_ret (v := .tuple #[.agg #[.slice (some ⟨w.heap.size + 1 + 1, 0, none⟩) 8 8], .agg #[.slice (some ⟨w.heap.size + 1 + 1 + 1, 0, none⟩) 5 5]]) (by simp [results, Try.results59, go_sem]) rfl ⟨w.heap.size + 1 + 1, w.heap.size + 1 + 1 + 1, rfl, nodes_lay h3 rfl, nodes_lay h2 rfl, hb.drew⟩
end Go.Proofs.Ytohoonbbjkefaaa
