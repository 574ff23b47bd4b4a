import Derived.Test.YtgemmmdcpbajoaaVW
namespace Go.Proofs.Ytgemmmdcpbajoaa
open Go.RowKit

/-! SaltRoom: the memory, and the roomier house. -/
structure RoomM (w W : World) (L : HL) (h : House) (a b c : Int) (A1 : Option Addr) (n1 c1 : Nat) (A2 : Option Addr) (c2 : Nat) (pack : List Int) (n : Int) : Prop where
  B : Below w.heap.size w W
  x : HBox W w.heap.size L h
  y : W.heap[w.heap.size + 1]? = some (.cells #[.int .i64 a, .int .i64 b, .int .i64 c] 64 (0, 0))
  z : W.heap[w.heap.size + 1 + 1]? = some (.cells #[.slice A1 n1 c1, .slice A2 pack.length c2, .int .i64 n] 43 (0, 0))
  H : HouseAt w w.heap.size L h
  I : IntsAt w w.heap.size A2 pack
section
variable {w W W' : World} {L : HL} {h : House} {a b c : Int} {A1 : Option Addr} {n1 c1 : Nat} {A2 : Option Addr} {c2 : Nat} {pack : List Int} {n : Int}
theorem RoomM.house (M : RoomM w W L h a b c A1 n1 c1 A2 c2 pack n) : HouseAt W W.heap.size L h := M.H.below M.B
theorem RoomM.ints (M : RoomM w W L h a b c A1 n1 c1 A2 c2 pack n) : IntsAt W W.heap.size A2 pack := ints_later M.I M.B
theorem RoomM.lt (M : RoomM w W L h a b c A1 n1 c1 A2 c2 pack n) : w.heap.size + 1 + 1 < W.heap.size := heap_lt M.z
theorem RoomM.next (M : RoomM w W L h a b c A1 n1 c1 A2 c2 pack n) (hb : Below W.heap.size W W') : RoomM w W' L h a b c A1 n1 c1 A2 c2 pack n :=
  ⟨hb0to M.B hb, M.x.of (hb.block _ M.x.lt), (hb.block _ (heap_lt M.y)).trans M.y, (hb.block _ M.lt).trans M.z, M.H, M.I⟩
theorem RoomM.set (M : RoomM w W L h a b c A1 n1 c1 A2 c2 pack n) {g o : Nat} {u : Value} (hg : w.heap.size + 3 ≤ g) : RoomM w (W.setCell ⟨g, o, none⟩ u) L h a b c A1 n1 c1 A2 c2 pack n :=
  ⟨M.B.setCell (p := ⟨g, o, none⟩) (by show w.heap.size ≤ g; omega) u, M.x.of (set_other_heap M.x.lt (by omega)), (set_other_heap (heap_lt M.y) (by omega)).trans M.y, (set_other_heap M.lt (by omega)).trans M.z, M.H, M.I⟩
theorem RoomM.cel (M : RoomM w W L h a b c A1 n1 c1 A2 c2 pack n) : (W.cell? ⟨w.heap.size, 0, none⟩ = some (.slice L.Ak h.ks.length L.ck) ∧ W.cell? ⟨w.heap.size, 1, none⟩ = some (.int .i64 h.fl) ∧ W.cell? ⟨w.heap.size, 2, none⟩ = some (.slice L.Ap h.ps.length L.cp) ∧ W.cell? ⟨w.heap.size, 3, none⟩ = some (.slice L.Ab h.bs.length L.cb)) ∧
    (W.cell? ⟨w.heap.size + 1, 0, none⟩ = some (.int .i64 a) ∧ W.cell? ⟨w.heap.size + 1, 1, none⟩ = some (.int .i64 b) ∧ W.cell? ⟨w.heap.size + 1, 2, none⟩ = some (.int .i64 c)) ∧
    (W.cell? ⟨w.heap.size + 1 + 1, 0, none⟩ = some (.slice A1 n1 c1) ∧ W.cell? ⟨w.heap.size + 1 + 1, 1, none⟩ = some (.slice A2 pack.length c2) ∧ W.cell? ⟨w.heap.size + 1 + 1, 2, none⟩ = some (.int .i64 n)) :=
  ⟨M.x.cells, by simp [World.cell?, M.y], by simp [World.cell?, M.z]⟩
end
theorem RoomM.new {w : World} {L : HL} {h : House} (a b c : Int) (A1 : Option Addr) (n1 c1 : Nat) (A2 : Option Addr) (c2 : Nat) (pack : List Int) (n : Int) (hH : HouseAt w w.heap.size L h) (hI : IntsAt w w.heap.size A2 pack) :
    ∃ W0, ((w.alloc (.cells #[.slice L.Ak h.ks.length L.ck, .int .i64 h.fl, .slice L.Ap h.ps.length L.cp, .slice L.Ab h.bs.length L.cb] 26)).alloc (.cells #[.int .i64 a, .int .i64 b, .int .i64 c] 64)).alloc (.cells #[.slice A1 n1 c1, .slice A2 pack.length c2, .int .i64 n] 43) = W0 ∧ RoomM w W0 L h a b c A1 n1 c1 A2 c2 pack n := by
  refine ⟨_, rfl, (((Below.refl _ w).alloc (Nat.le_refl _) _).alloc (by simp) _).alloc (by simp; omega) _, ((HBox.new w L h).of (Below.heap_alloc _ _ _ (by simp))).of (Below.heap_alloc _ _ _ (by simp; omega)), ?_, ?_, hH, hI⟩
  · have := World.alloc_heap_new (w.alloc (.cells #[.slice L.Ak h.ks.length L.ck, .int .i64 h.fl, .slice L.Ap h.ps.length L.cp, .slice L.Ab h.bs.length L.cb] 26)) (.cells #[.int .i64 a, .int .i64 b, .int .i64 c] 64)
    rw [World.size_alloc] at this
    exact (Below.heap_alloc _ _ _ (by simp)).trans this
  · have := World.alloc_heap_new ((w.alloc (.cells #[.slice L.Ak h.ks.length L.ck, .int .i64 h.fl, .slice L.Ap h.ps.length L.cp, .slice L.Ab h.bs.length L.cb] 26)).alloc (.cells #[.int .i64 a, .int .i64 b, .int .i64 c] 64)) (.cells #[.slice A1 n1 c1, .slice A2 pack.length c2, .int .i64 n] 43)
    rwa [World.size_alloc, World.size_alloc] at this
theorem TurnO.ok {W : World} {s bo : Nat} {Lo : HL} {o : House} (H : TurnO W s bo Lo o) : HLOK Lo o := by
  obtain ⟨n0, n1, n2, hC, hs⟩ := H.C
  exact hC.ok
/-- The box of the copy is written anew. -/
theorem TurnO.put4 {W : World} {s bo : Nat} {Lo L2 : HL} {o o2 : House} {n0 n1 n2 : Nat} (H : TurnO W s bo Lo o) (C : Copied W n0 n1 n2 L2 o2) (hs : s ≤ n0) : TurnO ((((W.setCell ⟨bo, 0, none⟩ (.slice L2.Ak o2.ks.length L2.ck)).setCell ⟨bo, 1, none⟩ (.int .i64 o2.fl)).setCell ⟨bo, 2, none⟩ (.slice L2.Ap o2.ps.length L2.cp)).setCell ⟨bo, 3, none⟩ (.slice L2.Ab o2.bs.length L2.cb)) s bo L2 o2 := by
  have z0 := H.z
  have z1 := heap_set (o := 0) (.slice L2.Ak o2.ks.length L2.ck) z0
  have z2 := heap_set (o := 1) (.int .i64 o2.fl) z1
  have z3 := heap_set (o := 2) (.slice L2.Ap o2.ps.length L2.cp) z2
  have z4 := heap_set (o := 3) (.slice L2.Ab o2.bs.length L2.cb) z3
  exact ⟨z4, n0, n1, n2, (((C.set_box z0).set_box z1).set_box z2).set_box z3, hs⟩
theorem RoomM.put4 {w W : World} {L : HL} {h : House} {a b c : Int} {A1 : Option Addr} {n1 c1 : Nat} {A2 : Option Addr} {c2 : Nat} {pack : List Int} {n : Int} (M : RoomM w W L h a b c A1 n1 c1 A2 c2 pack n) {g : Nat} (hg : w.heap.size + 3 ≤ g) (x y z u : Value) :
    RoomM w ((((W.setCell ⟨g, 0, none⟩ x).setCell ⟨g, 1, none⟩ y).setCell ⟨g, 2, none⟩ z).setCell ⟨g, 3, none⟩ u) L h a b c A1 n1 c1 A2 c2 pack n := (((M.set hg).set hg).set hg).set hg
/-- A greater barrel; one more. -/
def bigH (h : House) (xb more : Int) : House := if inR xb 0 (h.bs.length - 1) = true then { h with bs := h.bs.set xb.toNat (h.bs.getD xb.toNat 0 + more) } else h
def extraH (h : House) (ex : Int) : House := if 0 ≤ ex then moreH h ex else h
theorem roomier_big {h : House} {xb more : Int} (hm : 0 ≤ more) : Roomier h (bigH h xb more) := by
  unfold bigH
  split
  · refine ⟨rfl, rfl, rfl, by simp, fun b hb => ?_⟩
    simp only [List.getD_eq_getElem?_getD]
    rw [List.getElem?_set]
    split
    · rename_i e
      subst e
      rw [if_pos hb]
      simp only [Option.getD_some]
      omega
    · exact Int.le_refl _
  · exact ⟨rfl, rfl, rfl, Nat.le_refl _, fun b hb => Int.le_refl _⟩
theorem roomier_extra (h : House) (ex : Int) : Roomier h (extraH h ex) := by
  unfold extraH
  split
  · refine ⟨rfl, rfl, rfl, by rw [more_len]; omega, fun b hb => ?_⟩
    rw [more_at hb]; exact Int.le_refl _
  · exact ⟨rfl, rfl, rfl, Nat.le_refl _, fun b hb => Int.le_refl _⟩
theorem Roomier.trans {h g o : House} (A : Roomier h g) (B : Roomier g o) : Roomier h o :=
  ⟨B.k.trans A.k, B.f.trans A.f, B.p.trans A.p, Nat.le_trans A.l B.l, fun b hb => Int.le_trans (A.b b hb) (B.b b (Nat.lt_of_lt_of_le hb A.l))⟩
theorem roomier_both {h : House} {xb more ex : Int} (hm : 0 ≤ more) : Roomier h (extraH (bigH h xb more) ex) := (roomier_big hm).trans (roomier_extra _ _)
theorem big_len (h : House) (xb more : Int) : (bigH h xb more).ks.length = h.ks.length ∧ (bigH h xb more).ps.length = h.ps.length ∧ (bigH h xb more).bs.length = h.bs.length := by
  unfold bigH
  split <;> simp
theorem good_room {h o : House} (hv : validH h = true) (ho : validH o = true) (H : Roomier h o) {pack : List Int} (hg : goodB h pack = true) : goodB o pack = true :=
  (goodB_fit (HOK.ofValid ho)).2 (room_fit H ho ((goodB_fit (HOK.ofValid hv)).1 hg))
end Go.Proofs.Ytgemmmdcpbajoaa
