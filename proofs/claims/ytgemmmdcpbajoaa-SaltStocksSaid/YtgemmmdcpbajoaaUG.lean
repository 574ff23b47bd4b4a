import Derived.Test.YtgemmmdcpbajoaaUF
namespace Go.Proofs.Ytgemmmdcpbajoaa
open Go.RowKit

def exS : House := ⟨[(3, 10), (5, 4)], 2, [(0, 10), (0, 15), (1, 8)], [40, 20]⟩
def exT : House := ⟨[(3, 10), (5, 4)], 2, [(0, 10), (0, 15), (1, 8)], [40, 13]⟩
theorem exSalt : saltRet exS [1, 2] = (14, 0) := by kernel_rfl
theorem exBarrel : barrelRet exS [0, 0, 1] 1 = (8, 6, 4, 0) := by kernel_rfl
theorem exBest : bestOf (fun p => sumC (saltC exS.fl) (packedC exS p) 5) (packsL exS) = some ([0, 0, 1], 16) := by kernel_rfl
theorem exEarly : numRet exS (inR 9 0 20) (fun l => sumC (lateC 9) l 5) = (-8, 0) := by kernel_rfl
theorem exStock : stockRet exS 9 = (15, 0) := by kernel_rfl
theorem exBuy : buyRet exT = (14, 0) := by kernel_rfl
theorem six (w : World) (o0 o1 o2 o3 o4 o5 : Obj) : ∃ W, W = ((((((w.alloc o0).alloc o1).alloc o2).alloc o3).alloc o4).alloc o5).drew ∧ W.heap[w.heap.size]? = some o0 ∧ W.heap[w.heap.size + 1]? = some o1 ∧ W.heap[w.heap.size + 1 + 1]? = some o2 ∧ W.heap[w.heap.size + 1 + 1 + 1]? = some o3 ∧ W.heap[w.heap.size + 1 + 1 + 1 + 1]? = some o4 ∧ W.heap[w.heap.size + 1 + 1 + 1 + 1 + 1]? = some o5 ∧ Below w.heap.size w W := by
  have a0 := World.alloc_heap_new w o0
  have a1 := World.alloc_heap_new (w.alloc o0) o1
  have a2 := World.alloc_heap_new ((w.alloc o0).alloc o1) o2
  have a3 := World.alloc_heap_new (((w.alloc o0).alloc o1).alloc o2) o3
  have a4 := World.alloc_heap_new ((((w.alloc o0).alloc o1).alloc o2).alloc o3) o4
  have a5 := World.alloc_heap_new (((((w.alloc o0).alloc o1).alloc o2).alloc o3).alloc o4) o5
  have up : ∀ {W : World} {k : Nat} {o o' : Obj}, W.heap[k]? = some o → (W.alloc o').heap[k]? = some o := fun h => (Below.heap_alloc _ _ _ (Array.getElem?_eq_some_iff.1 h).1).trans h
  simp only [World.size_alloc] at a1 a2 a3 a4 a5
  refine ⟨_, rfl, up (up (up (up (up a0)))), up (up (up (up a1))), up (up (up a2)), up (up a3), up a4, a5, ?_⟩
  exact (((((((Below.refl _ w).alloc (Nat.le_refl _) _).alloc (by simp) _).alloc (by simp; omega) _).alloc (by simp; omega) _).alloc (by simp; omega) _).alloc (by simp; omega) _).drew
theorem pairs_lay {W : World} {g : Nat} {t : TypeId} {ns : List (Int × Int)} (h : W.heap[g]? = some (.cells (pairCells ns).toArray t (0, 0))) : PairsAt W W.heap.size (some ⟨g, 0, none⟩) ns := by
  refine .inr ⟨g, 0, rfl, heap_lt h, fun i x hx => ?_⟩
  obtain ⟨d1, d2⟩ := pairCells_at ns i x hx
  have hk : ∀ j v, (pairCells ns)[j]? = some v → W.cell? ⟨g, j, none⟩ = some v := fun j v hj => by simp [World.cell?, h, hj]
  rw [Nat.zero_add]
  exact ⟨hk _ _ d1, hk _ _ d2⟩
theorem ints_lay {W : World} {g : Nat} {t : TypeId} {l : List Int} (h : W.heap[g]? = some (.cells (l.map (Value.int .i64)).toArray t (0, 0))) : IntsAt W W.heap.size (some ⟨g, 0, none⟩) l := by
  refine .inr ⟨g, 0, rfl, heap_lt h, fun i x hx => ?_⟩
  rw [Nat.zero_add]
  simp [World.cell?, h, hx]
set_option maxRecDepth 100000 in
set_option maxHeartbeats 4000000 in
theorem example_any (w : World) : Calls Try.prog 64 #[] w fun e w' => ∃ a b c d, e = .returned (.tuple #[.agg #[.slice (some ⟨a, 0, none⟩) 2 2, .int .i64 2, .slice (some ⟨b, 0, none⟩) 3 3, .slice (some ⟨c, 0, none⟩) 2 2], .agg #[.slice (some ⟨a, 0, none⟩) 2 2, .int .i64 2, .slice (some ⟨b, 0, none⟩) 3 3, .slice (some ⟨d, 0, none⟩) 2 2]]) ∧
    HouseAt w' w'.heap.size ⟨some ⟨a, 0, none⟩, 2, some ⟨b, 0, none⟩, 3, some ⟨c, 0, none⟩, 2⟩ exS ∧ HouseAt w' w'.heap.size ⟨some ⟨a, 0, none⟩, 2, some ⟨b, 0, none⟩, 3, some ⟨d, 0, none⟩, 2⟩ exT ∧ Below w.heap.size w w' := by
  go_enter Try.func64, Try.ntmps64
  go_wp2
  go_region
  go_wp2
  obtain ⟨W, hW, a0, a1, a2, a3, a4, a5, hb⟩ := six w (.cells #[.slice (some ⟨w.heap.size + 1 + 1, 0, none⟩) 2 2, .int .i64 2, .slice (some ⟨w.heap.size + 1 + 1 + 1, 0, none⟩) 3 3, .slice (some ⟨w.heap.size + 1 + 1 + 1 + 1, 0, none⟩) 2 2] 26)
    (.cells #[.slice (some ⟨w.heap.size + 1 + 1, 0, none⟩) 2 2, .int .i64 2, .slice (some ⟨w.heap.size + 1 + 1 + 1, 0, none⟩) 3 3, .slice (some ⟨w.heap.size + 1 + 1 + 1 + 1 + 1, 0, none⟩) 2 2] 26)
    (.cells #[.int .i64 3, .int .i64 10, .int .i64 5, .int .i64 4] 88) (.cells #[.int .i64 0, .int .i64 10, .int .i64 0, .int .i64 15, .int .i64 1, .int .i64 8] 38) (.cells #[.int .i64 40, .int .i64 20] 3) (.cells #[.int .i64 40, .int .i64 13] 3)
  rw [← hW]
  clear hW
  have e0 := load26 (W := W) (b := w.heap.size) (by simp [World.cell?, a0]; rfl) (by simp [World.cell?, a0]; rfl) (by simp [World.cell?, a0]; rfl) (by simp [World.cell?, a0]; rfl)
  have e1 := load26 (W := W) (b := w.heap.size + 1) (by simp [World.cell?, a1]; rfl) (by simp [World.cell?, a1]; rfl) (by simp [World.cell?, a1]; rfl) (by simp [World.cell?, a1]; rfl)
  refine bodyPost_ret (v := .tuple #[.agg #[.slice (some ⟨w.heap.size + 1 + 1, 0, none⟩) 2 2, .int .i64 2, .slice (some ⟨w.heap.size + 1 + 1 + 1, 0, none⟩) 3 3, .slice (some ⟨w.heap.size + 1 + 1 + 1 + 1, 0, none⟩) 2 2], .agg #[.slice (some ⟨w.heap.size + 1 + 1, 0, none⟩) 2 2, .int .i64 2, .slice (some ⟨w.heap.size + 1 + 1 + 1, 0, none⟩) 3 3, .slice (some ⟨w.heap.size + 1 + 1 + 1 + 1 + 1, 0, none⟩) 2 2]]) ?_ rfl ⟨w.heap.size + 1 + 1, w.heap.size + 1 + 1 + 1, w.heap.size + 1 + 1 + 1 + 1, w.heap.size + 1 + 1 + 1 + 1 + 1, rfl, ?_, ?_, hb⟩
  · simp only [Instr.loadAt, Instr.sureAddr, Sem.run_bind, Sem.run_pure, Result.andThen_ok, asAddr] at e0 e1
    simp [results, Try.results64, Try.f64, Try.func64, go_sem, World.cell?, a0, a1]
  · exact ⟨pairs_lay (ns := exS.ks) a2, pairs_lay (ns := exS.ps) a3, ints_lay (l := exS.bs) a4⟩
  · exact ⟨pairs_lay (ns := exT.ks) a2, pairs_lay (ns := exT.ps) a3, ints_lay (l := exT.bs) a5⟩
end Go.Proofs.Ytgemmmdcpbajoaa
