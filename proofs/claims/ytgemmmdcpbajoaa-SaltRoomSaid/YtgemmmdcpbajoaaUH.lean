import Derived.Test.YtgemmmdcpbajoaaUF
namespace Go.Proofs.Ytgemmmdcpbajoaa
open Go.RowKit

def exS : House := ⟨[(3, 10), (5, 4)], 2, [(0, 10), (0, 15), (1, 8)], [40, 20]⟩
def exT : House := ⟨[(3, 10), (5, 4)], 2, [(0, 10), (0, 15), (1, 8)], [40, 13]⟩
theorem exSalt : saltRet exS [1, 2] = (14, 0) := by kernel_rfl
theorem exBarrel : barrelRet exS [0, 0, 1] 1 = (8, 6, 4, 0) := by kernel_rfl
theorem exBest : bestOf (fun p => sumC (saltC exS.fl) (packedC exS p) 5) (packsL exS) = some ([0, 0, 1], 16) := by kernel_rfl
theorem exEarly : numRet exS (inR 9 0 20) (fun l => sumC (lateC 9) l 5) = (-8, 0) := by kernel_rfl
theorem exStock : stockRet exS 9 = (15, 0) := by kernel_rfl
theorem exBuy : buyRet exT = (14, 0) := by kernel_rfl
theorem six (w : World) (o0 o1 o2 o3 o4 o5 : Obj) : ∃ W, W = ((((((w.alloc o0).alloc o1).alloc o2).alloc o3).alloc o4).alloc o5).drew ∧ W.heap[w.heap.size]? = some o0 ∧ W.heap[w.heap.size + 1]? = some o1 ∧ W.heap[w.heap.size + 1 + 1]? = some o2 ∧ W.heap[w.heap.size + 1 + 1 + 1]? = some o3 ∧ W.heap[w.heap.size + 1 + 1 + 1 + 1]? = some o4 ∧ W.heap[w.heap.size + 1 + 1 + 1 + 1 + 1]? = some o5 ∧ Below w.heap.size w W := by
  have a0 := World.alloc_heap_new w o0
  have a1 := World.alloc_heap_new (w.alloc o0) o1
  have a2 := World.alloc_heap_new ((w.alloc o0).alloc o1) o2
  have a3 := World.alloc_heap_new (((w.alloc o0).alloc o1).alloc o2) o3
  have a4 := World.alloc_heap_new ((((w.alloc o0).alloc o1).alloc o2).alloc o3) o4
  have a5 := World.alloc_heap_new (((((w.alloc o0).alloc o1).alloc o2).alloc o3).alloc o4) o5
  have up : ∀ {W : World} {k : Nat} {o o' : Obj}, W.heap[k]? = some o → (W.alloc o').heap[k]? = some o := fun h => (Below.heap_alloc _ _ _ (Array.getElem?_eq_some_iff.1 h).1).trans h
  simp only [World.size_alloc] at a1 a2 a3 a4 a5
  refine ⟨_, rfl, up (up (up (up (up a0)))), up (up (up (up a1))), up (up (up a2)), up (up a3), up a4, a5, ?_⟩
  exact (((((((Below.refl _ w).alloc (Nat.le_refl _) _).alloc (by simp) _).alloc (by simp; omega) _).alloc (by simp; omega) _).alloc (by simp; omega) _).alloc (by simp; omega) _).drew
theorem pairs_lay {W : World} {g : Nat} {t : TypeId} {ns : List (Int × Int)} (h : W.heap[g]? = some (.cells (pairCells ns).toArray t (0, 0))) : PairsAt W W.heap.size (some ⟨g, 0, none⟩) ns := by
  refine .inr ⟨g, 0, rfl, heap_lt h, fun i x hx => ?_⟩
  obtain ⟨d1, d2⟩ := pairCells_at ns i x hx
  have hk : ∀ j v, (pairCells ns)[j]? = some v → W.cell? ⟨g, j, none⟩ = some v := fun j v hj => by simp [World.cell?, h, hj]
  rw [Nat.zero_add]
  exact ⟨hk _ _ d1, hk _ _ d2⟩
theorem ints_lay {W : World} {g : Nat} {t : TypeId} {l : List Int} (h : W.heap[g]? = some (.cells (l.map (Value.int .i64)).toArray t (0, 0))) : IntsAt W W.heap.size (some ⟨g, 0, none⟩) l := by
  refine .inr ⟨g, 0, rfl, heap_lt h, fun i x hx => ?_⟩
  rw [Nat.zero_add]
  simp [World.cell?, h, hx]
set_option maxRecDepth 100000 in
set_option maxHeartbeats 4000000 in
theorem example_any (w : World) : Calls Try.prog 64 #[] w fun e w' => ∃ a b c d, e = .returned (.tuple #[.agg #[.slice (some ⟨a, 0, none⟩) 2 2, .int .i64 2, .slice (some ⟨b, 0, none⟩) 3 3, .slice (some ⟨c, 0, none⟩) 2 2], .agg #[.slice (some ⟨a, 0, none⟩) 2 2, .int .i64 2, .slice (some ⟨b, 0, none⟩) 3 3, .slice (some ⟨d, 0, none⟩) 2 2]]) ∧
    HouseAt w' w'.heap.size ⟨some ⟨a, 0, none⟩, 2, some ⟨b, 0, none⟩, 3, some ⟨c, 0, none⟩, 2⟩ exS ∧ HouseAt w' w'.heap.size ⟨some ⟨a, 0, none⟩, 2, some ⟨b, 0, none⟩, 3, some ⟨d, 0, none⟩, 2⟩ exT ∧ Below w.heap.size w w' := by
  go_enter Try.func64, Try.ntmps64
  go_wp2
  go_region
  go_wp2
  obtain ⟨W, hW, a0, a1, a2, a3, a4, a5, hb⟩ := six w (.cells #[.slice (some ⟨w.heap.size + 1 + 1, 0, none⟩) 2 2, .int .i64 2, .slice (some ⟨w.heap.size + 1 + 1 + 1, 0, none⟩) 3 3, .slice (some ⟨w.heap.size + 1 + 1 + 1 + 1, 0, none⟩) 2 2] 26)
    (.cells #[.slice (some ⟨w.heap.size + 1 + 1, 0, none⟩) 2 2, .int .i64 2, .slice (some ⟨w.heap.size + 1 + 1 + 1, 0, none⟩) 3 3, .slice (some ⟨w.heap.size + 1 + 1 + 1 + 1 + 1, 0, none⟩) 2 2] 26)
    (.cells #[.int .i64 3, .int .i64 10, .int .i64 5, .int .i64 4] 88) (.cells #[.int .i64 0, .int .i64 10, .int .i64 0, .int .i64 15, .int .i64 1, .int .i64 8] 38) (.cells #[.int .i64 40, .int .i64 20] 3) (.cells #[.int .i64 40, .int .i64 13] 3)
  rw [← hW]
  clear hW
  have e0 := load26 (W := W) (b := w.heap.size) (by simp [World.cell?, a0]; rfl) (by simp [World.cell?, a0]; rfl) (by simp [World.cell?, a0]; rfl) (by simp [World.cell?, a0]; rfl)
  have e1 := load26 (W := W) (b := w.heap.size + 1) (by simp [World.cell?, a1]; rfl) (by simp [World.cell?, a1]; rfl) (by simp [World.cell?, a1]; rfl) (by simp [World.cell?, a1]; rfl)
  refine bodyPost_ret (v := .tuple #[.agg #[.slice (some ⟨w.heap.size + 1 + 1, 0, none⟩) 2 2, .int .i64 2, .slice (some ⟨w.heap.size + 1 + 1 + 1, 0, none⟩) 3 3, .slice (some ⟨w.heap.size + 1 + 1 + 1 + 1, 0, none⟩) 2 2], .agg #[.slice (some ⟨w.heap.size + 1 + 1, 0, none⟩) 2 2, .int .i64 2, .slice (some ⟨w.heap.size + 1 + 1 + 1, 0, none⟩) 3 3, .slice (some ⟨w.heap.size + 1 + 1 + 1 + 1 + 1, 0, none⟩) 2 2]]) ?_ rfl ⟨w.heap.size + 1 + 1, w.heap.size + 1 + 1 + 1, w.heap.size + 1 + 1 + 1 + 1, w.heap.size + 1 + 1 + 1 + 1 + 1, rfl, ?_, ?_, hb⟩
  · simp only [Instr.loadAt, Instr.sureAddr, Sem.run_bind, Sem.run_pure, Result.andThen_ok] at e0 e1
    simp [results, Try.f64, go_sem, World.cell?, a0, a1]
  · exact ⟨pairs_lay (ns := exS.ks) a2, pairs_lay (ns := exS.ps) a3, ints_lay (l := exS.bs) a4⟩
  · exact ⟨pairs_lay (ns := exT.ks) a2, pairs_lay (ns := exT.ps) a3, ints_lay (l := exT.bs) a5⟩
end Go.Proofs.Ytgemmmdcpbajoaa
namespace Go.Proofs.Ytgemmmdcpbajoaa
open Go.RowKit

/-- The memory of works. -/
structure ExM (W : World) (a b c d s : Nat) : Prop where
  S : HouseAt W W.heap.size ⟨some ⟨a, 0, none⟩, 2, some ⟨b, 0, none⟩, 3, some ⟨c, 0, none⟩, 2⟩ exS
  T : HouseAt W W.heap.size ⟨some ⟨a, 0, none⟩, 2, some ⟨b, 0, none⟩, 3, some ⟨d, 0, none⟩, 2⟩ exT
  x : HBox W s ⟨some ⟨a, 0, none⟩, 2, some ⟨b, 0, none⟩, 3, some ⟨c, 0, none⟩, 2⟩ exS
  y : HBox W (s + 1) ⟨some ⟨a, 0, none⟩, 2, some ⟨b, 0, none⟩, 3, some ⟨d, 0, none⟩, 2⟩ exT
theorem ExM.next {W W' : World} {a b c d s : Nat} (H : ExM W a b c d s) (hb : Below W.heap.size W W') : ExM W' a b c d s :=
  ⟨H.S.below hb, H.T.below hb, H.x.of (hb.block _ H.x.lt), H.y.of (hb.block _ H.y.lt)⟩
theorem ExM.al {W : World} {a b c d s : Nat} (H : ExM W a b c d s) (o : Obj) : ExM (W.alloc o) a b c d s := H.next ((Below.refl _ W).alloc (Nat.le_refl _) o)
theorem ExM.c {W : World} {a b c d s : Nat} (H : ExM W a b c d s) : (W.cell? ⟨s, 0, none⟩ = some (.slice (some ⟨a, 0, none⟩) 2 2) ∧ W.cell? ⟨s, 1, none⟩ = some (.int .i64 2) ∧ W.cell? ⟨s, 2, none⟩ = some (.slice (some ⟨b, 0, none⟩) 3 3) ∧ W.cell? ⟨s, 3, none⟩ = some (.slice (some ⟨c, 0, none⟩) 2 2)) ∧
    (W.cell? ⟨s + 1, 0, none⟩ = some (.slice (some ⟨a, 0, none⟩) 2 2) ∧ W.cell? ⟨s + 1, 1, none⟩ = some (.int .i64 2) ∧ W.cell? ⟨s + 1, 2, none⟩ = some (.slice (some ⟨b, 0, none⟩) 3 3) ∧ W.cell? ⟨s + 1, 3, none⟩ = some (.slice (some ⟨d, 0, none⟩) 2 2)) := ⟨H.x.cells, H.y.cells⟩
theorem ExM.new {W : World} {a b c d : Nat} (hS : HouseAt W W.heap.size ⟨some ⟨a, 0, none⟩, 2, some ⟨b, 0, none⟩, 3, some ⟨c, 0, none⟩, 2⟩ exS) (hT : HouseAt W W.heap.size ⟨some ⟨a, 0, none⟩, 2, some ⟨b, 0, none⟩, 3, some ⟨d, 0, none⟩, 2⟩ exT) :
    ExM ((W.alloc (.cells #[.slice (some ⟨a, 0, none⟩) 2 2, .int .i64 2, .slice (some ⟨b, 0, none⟩) 3 3, .slice (some ⟨c, 0, none⟩) 2 2] 26)).alloc (.cells #[.slice (some ⟨a, 0, none⟩) 2 2, .int .i64 2, .slice (some ⟨b, 0, none⟩) 3 3, .slice (some ⟨d, 0, none⟩) 2 2] 26)) a b c d W.heap.size := by
  have c1 := HBox.new (W.alloc (.cells #[.slice (some ⟨a, 0, none⟩) 2 2, .int .i64 2, .slice (some ⟨b, 0, none⟩) 3 3, .slice (some ⟨c, 0, none⟩) 2 2] 26)) ⟨some ⟨a, 0, none⟩, 2, some ⟨b, 0, none⟩, 3, some ⟨d, 0, none⟩, 2⟩ exT
  rw [World.size_alloc] at c1
  have hb := ((Below.refl _ W).alloc (Nat.le_refl _) (.cells #[.slice (some ⟨a, 0, none⟩) 2 2, .int .i64 2, .slice (some ⟨b, 0, none⟩) 3 3, .slice (some ⟨c, 0, none⟩) 2 2] 26)).alloc (by simp) (.cells #[.slice (some ⟨a, 0, none⟩) 2 2, .int .i64 2, .slice (some ⟨b, 0, none⟩) 3 3, .slice (some ⟨d, 0, none⟩) 2 2] 26)
  exact ⟨hS.below hb, hT.below hb, (HBox.new W ⟨some ⟨a, 0, none⟩, 2, some ⟨b, 0, none⟩, 3, some ⟨c, 0, none⟩, 2⟩ exS).of (Below.heap_alloc _ _ _ (by simp)), c1⟩
theorem exC25 {W : World} {a b c d s x : Nat} (H : ExM W a b c d s) (hI : IntsAt W W.heap.size (some ⟨x, 0, none⟩) [1, 2]) :
    Calls Try.prog 25 #[.agg #[.slice (some ⟨a, 0, none⟩) 2 2, .int .i64 2, .slice (some ⟨b, 0, none⟩) 3 3, .slice (some ⟨c, 0, none⟩) 2 2], .slice (some ⟨x, 0, none⟩) 2 2] W fun e w' => e = .returned (.tuple #[.int .i64 14, .int .i64 0]) ∧ Below W.heap.size W w' := by
  have h := salt_any ⟨some ⟨a, 0, none⟩, 2, some ⟨b, 0, none⟩, 3, some ⟨c, 0, none⟩, 2⟩ exS (by decide) [1, 2] (by decide) (some ⟨x, 0, none⟩) 2 W H.S hI
  rw [exSalt] at h
  exact h
theorem exC33 {W : World} {a b c d s x : Nat} (H : ExM W a b c d s) (hI : IntsAt W W.heap.size (some ⟨x, 0, none⟩) [0, 0, 1]) :
    Calls Try.prog 33 #[.agg #[.slice (some ⟨a, 0, none⟩) 2 2, .int .i64 2, .slice (some ⟨b, 0, none⟩) 3 3, .slice (some ⟨c, 0, none⟩) 2 2], .slice (some ⟨x, 0, none⟩) 3 3, .int .i64 1] W fun e w' => e = .returned (.tuple #[.int .i64 8, .int .i64 6, .int .i64 4, .int .i64 0]) ∧ Below W.heap.size W w' := by
  have h := barrel_any ⟨some ⟨a, 0, none⟩, 2, some ⟨b, 0, none⟩, 3, some ⟨c, 0, none⟩, 2⟩ exS (by decide) [0, 0, 1] (by decide) 1 (some ⟨x, 0, none⟩) 3 W H.S hI
  rw [exBarrel] at h
  exact h
theorem exC38 {W : World} {a b c d s : Nat} (H : ExM W a b c d s) :
    Calls Try.prog 38 #[.agg #[.slice (some ⟨a, 0, none⟩) 2 2, .int .i64 2, .slice (some ⟨b, 0, none⟩) 3 3, .slice (some ⟨c, 0, none⟩) 2 2]] W fun e w' => (∃ pb, e = .returned (.tuple #[.slice (some ⟨pb, 0, none⟩) 3 3, .int .i64 0]) ∧ IntsAt w' w'.heap.size (some ⟨pb, 0, none⟩) [0, 0, 1]) ∧ Below W.heap.size W w' := by
  have h := pack_any ⟨some ⟨a, 0, none⟩, 2, some ⟨b, 0, none⟩, 3, some ⟨c, 0, none⟩, 2⟩ exS (by decide) W H.S
  refine h.mono ?_
  rintro e w' ⟨⟨A, n, c', he, _, hq⟩, hb⟩
  obtain ⟨pb, rfl, rfl, rfl, hp, _⟩ := hq _ _ (by kernel_rfl) exBest
  refine ⟨⟨pb, ?_, ?_⟩, hb⟩
  · rw [he]
    have : (numRet exS true fun l => sumC (saltC exS.fl) l 5).2 = 0 := by kernel_rfl
    rw [this]; rfl
  · exact hp.ints
theorem exC45 {W : World} {a b c d s : Nat} (H : ExM W a b c d s) :
    Calls Try.prog 45 #[.agg #[.slice (some ⟨a, 0, none⟩) 2 2, .int .i64 2, .slice (some ⟨b, 0, none⟩) 3 3, .slice (some ⟨c, 0, none⟩) 2 2], .int .i64 9] W fun e w' => e = .returned (.tuple #[.int .i64 8, .int .i64 0]) ∧ Below W.heap.size W w' := by
  have h := early_any 9 ⟨some ⟨a, 0, none⟩, 2, some ⟨b, 0, none⟩, 3, some ⟨c, 0, none⟩, 2⟩ exS (by decide) W H.S
  rw [exEarly] at h
  exact h
theorem exC18 {W : World} {a b c d s : Nat} (H : ExM W a b c d s) :
    Calls Try.prog 18 #[.agg #[.slice (some ⟨a, 0, none⟩) 2 2, .int .i64 2, .slice (some ⟨b, 0, none⟩) 3 3, .slice (some ⟨c, 0, none⟩) 2 2], .int .i64 9] W fun e w' => e = .returned (.tuple #[.int .i64 15, .int .i64 0]) ∧ Below W.heap.size W w' := by
  have h := stock_any ⟨some ⟨a, 0, none⟩, 2, some ⟨b, 0, none⟩, 3, some ⟨c, 0, none⟩, 2⟩ exS (by decide) 9 W H.S
  rw [exStock] at h
  exact h
theorem exC20 {W : World} {a b c d s : Nat} (H : ExM W a b c d s) :
    Calls Try.prog 20 #[.agg #[.slice (some ⟨a, 0, none⟩) 2 2, .int .i64 2, .slice (some ⟨b, 0, none⟩) 3 3, .slice (some ⟨d, 0, none⟩) 2 2]] W fun e w' => e = .returned (.tuple #[.int .i64 14, .int .i64 0]) ∧ Below W.heap.size W w' := by
  have h := buy_any ⟨some ⟨a, 0, none⟩, 2, some ⟨b, 0, none⟩, 3, some ⟨d, 0, none⟩, 2⟩ exT (by decide) ⟨Nat.le_refl 2, (fun e => by cases e), (show (2 : Nat) ≤ 9223372036854775807 by decide)⟩ W H.T
  rw [exBuy] at h
  exact h
theorem exC35 {W : World} {x y : Nat} (h1 : IntsAt W W.heap.size (some ⟨x, 0, none⟩) [0, 0, 1]) (h2 : IntsAt W W.heap.size (some ⟨y, 0, none⟩) [0, 0, 1]) :
    Calls Try.prog 35 #[.slice (some ⟨x, 0, none⟩) 3 3, .slice (some ⟨y, 0, none⟩) 3 3] W fun e w' => e = .returned (.bool true) ∧ Below W.heap.size W w' :=
  sameInts_is _ _ 3 3 [0, 0, 1] (by decide) W h1 h2
theorem new3 (W : World) : IntsAt (W.alloc (.cells #[.int .i64 0, .int .i64 0, .int .i64 1] 3)) (W.alloc (.cells #[.int .i64 0, .int .i64 0, .int .i64 1] 3)).heap.size (some ⟨W.heap.size, 0, none⟩) [0, 0, 1] := ints_lay (World.alloc_heap_new W _)
theorem new2 (W : World) (o1 o2 : Obj) : IntsAt (((W.alloc o1).alloc o2).alloc (.cells #[.int .i64 1, .int .i64 2] 3)) (((W.alloc o1).alloc o2).alloc (.cells #[.int .i64 1, .int .i64 2] 3)).heap.size (some ⟨W.heap.size + 1 + 1, 0, none⟩) [1, 2] := by
  have h := ints_lay (l := [1, 2]) (World.alloc_heap_new ((W.alloc o1).alloc o2) (.cells #[.int .i64 1, .int .i64 2] 3))
  simpa only [World.size_alloc] using h
set_option maxRecDepth 100000 in
set_option maxHeartbeats 4000000 in
theorem works_any (w : World) : Calls Try.prog 16 #[] w fun e w' => e = .returned (.bool true) ∧ Below w.heap.size w w' := by
  go_enter Try.func16, Try.ntmps16
  go_wp2_with (first
    | (go_at_call 64; go_must (refine (example_any _).mono ?_; rintro e w1 ⟨a, b, c, d, rfl, hS, hT, hb1⟩; have M1 := ExM.new hS hT; have m1 := M1.c; have B1 := (hb1.alloc hb1.size (.cells #[.slice (some ⟨a, 0, none⟩) 2 2, .int .i64 2, .slice (some ⟨b, 0, none⟩) 3 3, .slice (some ⟨c, 0, none⟩) 2 2] 26)).alloc (by have := hb1.size; simp; omega) (.cells #[.slice (some ⟨a, 0, none⟩) 2 2, .int .i64 2, .slice (some ⟨b, 0, none⟩) 3 3, .slice (some ⟨d, 0, none⟩) 2 2] 26); have B1 := Lib.hid B1; have M1 := Lib.hid M1; clear hS hT hb1))
    | (go_at_call 25; go_must (refine (exC25 (M1.out.al _) (new2 w1 _ _)).mono ?_; rintro e w2 ⟨rfl, hb2⟩; have M2 := (M1.out.al _).next hb2; have m2 := M2.c; have M2 := Lib.hid M2; have B2 := Lib.hid (hb0to (B1.out.alloc B1.out.size _) hb2); clear hb2))
    | (go_at_call 33; go_must (refine (exC33 (M2.out.al _) (new3 w2)).mono ?_; rintro e w3 ⟨rfl, hb3⟩; have M3 := (M2.out.al _).next hb3; have m3 := M3.c; have M3 := Lib.hid M3; have B3 := Lib.hid (hb0to (B2.out.alloc B2.out.size _) hb3); clear hb3))
    | (go_at_call 38; go_must (refine (exC38 M3.out).mono ?_; rintro e w4 ⟨⟨pb, rfl, hI⟩, hb4⟩; have M4 := M3.out.next hb4; have m4 := M4.c; have M4 := Lib.hid M4; have B4 := Lib.hid (hb0to B3.out hb4); have I4 := Lib.hid hI; clear hb4 hI))
    | (go_at_call 45; go_must (refine (exC45 M4.out).mono ?_; rintro e w5 ⟨rfl, hb5⟩; have M5 := M4.out.next hb5; have m5 := M5.c; have M5 := Lib.hid M5; have B5 := Lib.hid (hb0to B4.out hb5); have I5 := Lib.hid (ints_later I4.out hb5); clear hb5))
    | (go_at_call 18; go_must (refine (exC18 M5.out).mono ?_; rintro e w6 ⟨rfl, hb6⟩; have M6 := M5.out.next hb6; have m6 := M6.c; have M6 := Lib.hid M6; have B6 := Lib.hid (hb0to B5.out hb6); have I6 := Lib.hid (ints_later I5.out hb6); clear hb6))
    | (go_at_call 20; go_must (refine (exC20 M6.out).mono ?_; rintro e w7 ⟨rfl, hb7⟩; have B7 := Lib.hid (hb0to B6.out hb7); have I7 := Lib.hid (ints_later I6.out hb7); clear hb7))
    | (go_at_call 35; go_must (refine (exC35 (ints_later I7.out ((Below.refl _ w7).alloc (Nat.le_refl _) _)) (new3 w7)).mono ?_; rintro e w8 ⟨rfl, hb8⟩; have B8 := Lib.hid (hb0to (B7.out.alloc B7.out.size _) hb8); clear hb8)))
  go_ret
  exact ⟨rfl, B8.out⟩
end Go.Proofs.Ytgemmmdcpbajoaa
