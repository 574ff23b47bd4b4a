import Derived.Test.YtohoonbbjkefaaaB7
namespace Go.Proofs.Ytohoonbbjkefaaa
open Go.RowKit

/-- Does a custom agree with a payment? -/
def agreesB (ns : List Node) (p : Node) : Bool := decide (gotS ns p.u p.w.toNat = p.f)
theorem payOK_of {N : Nat} {p : Node} (h : payOK N p = true) : (0 ≤ p.u ∧ p.u ≤ 400) ∧ (0 ≤ p.w ∧ p.w ≤ N - 1) ∧ (0 ≤ p.f ∧ p.f ≤ 400) := by
  simp only [payOK, Bool.and_eq_true, inR_true] at h
  exact h
/-- A payment's box. -/
def Three (W : World) (b : Nat) (p : Node) : Prop := W.heap[b]? = some (.cells #[.int .i64 p.u, .int .i64 p.w, .int .i64 p.f] 72 (0, 0))
theorem Three.c0 {W : World} {b : Nat} {p : Node} (h : Three W b p) : W.cell? ⟨b, 0, none⟩ = some (.int .i64 p.u) := by simp [World.cell?, show W.heap[b]? = _ from h]
theorem Three.c1 {W : World} {b : Nat} {p : Node} (h : Three W b p) : W.cell? ⟨b, 1, none⟩ = some (.int .i64 p.w) := by simp [World.cell?, show W.heap[b]? = _ from h]
theorem Three.c2 {W : World} {b : Nat} {p : Node} (h : Three W b p) : W.cell? ⟨b, 2, none⟩ = some (.int .i64 p.f) := by simp [World.cell?, show W.heap[b]? = _ from h]
theorem gets_is (c : Nat) (A : Option Addr) {ns : List Node} {pence : Int} (n : Nat) (m : Int) (hm : (n : Int) = m) (h : GoodC ns) (hn : n < ns.length) (hp : 0 ≤ pence) (hp4 : pence ≤ 400) (w : World) (hN : Nodes w w.heap.size A ns) :
    Calls Try.prog 65 #[.agg #[.slice A ns.length c], .int .i64 m, .int .i64 pence] w fun e w' => e = .returned (.int .i64 (gotS ns pence n)) ∧ Below w.heap.size w w' := by
  subst hm; exact gets_any c A n h hn hp hp4 w hN

set_option maxRecDepth 100000 in
set_option maxHeartbeats 1000000 in
theorem agrees_any (A : Option Addr) (c : Nat) (ns : List Node) (p : Node) (hg : GoodC ns) (hp : payOK ns.length p = true) (w : World) (hN : Nodes w w.heap.size A ns) :
    Calls Try.prog 74 #[.agg #[.slice A ns.length c], .agg #[.int .i64 p.u, .int .i64 p.w, .int .i64 p.f]] w fun e w' => e = .returned (.bool (agreesB ns p)) ∧ Below w.heap.size w w' := by
  obtain ⟨⟨a1, a2⟩, ⟨a3, a4⟩, _⟩ := payOK_of hp
  have hw : p.w.toNat < ns.length := by omega
  have hwi : (p.w.toNat : Int) = p.w := by omega
  obtain ⟨W0, hW0⟩ : ∃ W0, (w.alloc (.cells #[.slice A ns.length c] 80)).alloc (.cells #[.int .i64 p.u, .int .i64 p.w, .int .i64 p.f] 72) = W0 := ⟨_, rfl⟩
  have b1 : Boxed W0 w.heap.size 80 (.slice A ns.length c) := by rw [← hW0]; exact (Boxed.new _ _ _).alloc _
  have b2 : Three W0 (w.heap.size + 1) p := by
    have := World.alloc_heap_new (w.alloc (.cells #[.slice A ns.length c] 80)) (.cells #[.int .i64 p.u, .int .i64 p.w, .int .i64 p.f] 72)
    rw [← hW0]; unfold Three; simpa only [World.size_alloc] using this
  have hB0 : Below w.heap.size w W0 := by rw [← hW0]; exact ((Below.refl _ w).alloc (Nat.le_refl _) _).alloc (by simp) _
  have hN0 : Nodes W0 W0.heap.size A ns := Nodes.lt hN hB0
  have l1 := extB_cell b1.cell
  have l2 := extB_cell b2.c0
  have l3 := extB_cell b2.c1
  have l4 := extB_cell b2.c2
  have HG := Lib.hid (show agreesB ns p = decide (gotS ns p.u p.w.toNat = p.f) from rfl)
  clear hp
  go_enter Try.func74, Try.ntmps74
  go_wp2
  clear hW0
  refine wp_region_ext (by kernel_rfl) (by kernel_rfl) ?_
  repeat (go_big_quiet_step ((go_at_call 65; exact ext_call (gets_is c A _ _ hwi hg hw a1 a2 _ (Nodes.lt hN0 (extB_below _ _))))))
  refine wpQuiet_nil ?_
  rintro _ ⟨x1, rfl⟩
  have hb1 := hb0to hB0 (extB_below W0 x1)
  go_wp2
  go_ret
  refine ⟨?_, hb1⟩
  rw [HG.out]
  rfl

set_option maxHeartbeats 1000000 in
theorem weights1_any (pb : Nat) (A : Option Addr) (c : Nat) (ns : List Node) (p : Node) (hg : GoodC ns) (hp : payOK ns.length p = true) (w : World) (hN : Nodes w w.heap.size A ns) (b1 : Boxed w pb 80 (.slice A ns.length c)) :
    Calls Try.prog 79 #[.agg #[.int .i64 p.u, .int .i64 p.w, .int .i64 p.f], .pointer (some ⟨pb, 0, none⟩)] w fun e w' => e = .returned (.bool (!agreesB ns p)) ∧ Below w.heap.size w w' := by
  have c1 := (b1.alloc (.cells #[.int .i64 p.u, .int .i64 p.w, .int .i64 p.f] 72)).cell
  have HN := Lib.hid (Nodes.alloc hN (.cells #[.int .i64 p.u, .int .i64 p.w, .int .i64 p.f] 72))
  clear hN
  go_enter Try.func79, Try.ntmps79
  go_wp2_with (go_at_call 74; refine (agrees_any _ _ _ _ hg hp _ HN.out).mono ?_; rintro e w1 ⟨rfl, hb1⟩)
  go_ret
  exact ⟨rfl, ((Below.refl _ w).alloc (Nat.le_refl _) _).trans (hb1.mono (by simp))⟩
end Go.Proofs.Ytohoonbbjkefaaa
