import Derived.Test.YtmbcpmnigggbaaaShE1
import Derived.WalkSpells
import Derived.Maps.OwnSet
import Derived.Maps.Views
import Derived.Carry
import Derived.Laws.Runes
import Derived.Deep.RegionHeld3
import Derived.Deep.RegionWith
import Derived.Deep.OwnRows
import Derived.Deep.DeepMust
namespace Go.Proofs.Ytmbcpmnigggbaaa.Sh
open Go.RowKit

def setW (ns : List Node) (k : Nat) (x : Int) : List Node := ns.set k { nodeAt ns k with w := x }
theorem setW_len (ns : List Node) (k : Nat) (x : Int) : (setW ns k x).length = ns.length := by simp [setW]
theorem nodes_setw {W : World} {B b off : Nat} {ns : List Node} (h : Nodes W B (some ⟨b, off, none⟩) ns) {k : Nat} (_hk : k < ns.length) (x : Int) :
    Nodes (W.setCell ⟨b, off + k * 3 + 1, none⟩ (.int .i64 x)) B (some ⟨b, off, none⟩) (setW ns k x) := by
  rcases h with rfl | ⟨b', off', e, hlt, hc⟩
  · exact .inl rfl
  · cases e
    refine .inr ⟨b, off, rfl, hlt, fun i y hy => ?_⟩
    unfold setW at hy
    rw [List.getElem?_set] at hy
    have ot : ∀ o, o ≠ off + k * 3 + 1 → (W.setCell ⟨b, off + k * 3 + 1, none⟩ (.int .i64 x)).cell? ⟨b, o, none⟩ = W.cell? ⟨b, o, none⟩ := fun o ho =>
      World.cell?_setCell_other _ _ _ _ (fun e => ho (by cases e; rfl))
    split at hy
    · rename_i e
      subst e
      cases hy
      obtain ⟨c1, c2, c3⟩ := hc k _ (GoodC.at_ _hk)
      refine ⟨?_, World.cell?_setCell_same _ _ _ c2, ?_⟩
      · rw [ot _ (by omega)]; exact c1
      · rw [ot _ (by omega)]; exact c3
    · obtain ⟨c1, c2, c3⟩ := hc i y hy
      rw [ot _ (by omega), ot _ (by omega), ot _ (by omega)]
      exact ⟨c1, c2, c3⟩
theorem nodes_other {W : World} {B B' b off : Nat} {ns : List Node} (h : Nodes W B (some ⟨b, off, none⟩) ns) {p : Addr} (hp : p.block ≠ b) (v : Value) (hB : B ≤ B') : Nodes (W.setCell p v) B' (some ⟨b, off, none⟩) ns := by
  rcases h with rfl | ⟨b', off', e, hlt, hc⟩
  · exact .inl rfl
  · cases e
    refine .inr ⟨b, off, rfl, by omega, fun i y hy => ?_⟩
    rw [World.cell?_setCell_other _ _ _ _ (fun e => hp (by rw [e])), World.cell?_setCell_other _ _ _ _ (fun e => hp (by rw [e])), World.cell?_setCell_other _ _ _ _ (fun e => hp (by rw [e]))]
    exact hc i y hy
/-- What is owned, written out. -/
theorem OwnsN.some_ {W : World} {t : TypeId} {base : Nat} {v : Value} {ns : List Node} (h : OwnsN W t base v ns) (h1 : 1 ≤ ns.length) : ∃ g cap, v = .slice (some ⟨g, 0, none⟩) ns.length cap ∧ base ≤ g ∧ Nodes W W.heap.size (some ⟨g, 0, none⟩) ns ∧ ∀ o, W.frozen? ⟨g, o, none⟩ = false := by
  obtain ⟨A, c, e, hA, hN⟩ := h.lay
  rcases h.2 with ⟨e2, h0⟩ | ⟨g, cap, cur, e2, hb, hg, h4⟩
  · omega
  · refine ⟨g, cap, e2, hb, ?_, fun o => by simp [World.frozen?, hg]⟩
    rw [e] at e2
    cases e2
    exact hN

set_option maxRecDepth 100000 in
set_option maxHeartbeats 1000000 in
theorem clone_any (b off c : Nat) (ns : List Node) (h1 : 1 ≤ ns.length) (hn : ns.length ≤ 1000) (w : World) (hN : Nodes w w.heap.size (some ⟨b, off, none⟩) ns) :
    Calls Try.prog 186 #[.slice (some ⟨b, off, none⟩) ns.length c] w fun e w' => ∃ g cap, e = .returned (.slice (some ⟨g, 0, none⟩) ns.length cap) ∧ w.heap.size ≤ g ∧ Nodes w' w'.heap.size (some ⟨g, 0, none⟩) ns ∧ (∀ o, w'.frozen? ⟨g, o, none⟩ = false) ∧ Below w.heap.size w w' := by
  obtain ⟨i0, hi, hz0, hz1, hz2⟩ := info_parts info46
  have ow := ownsN_made w 158 w.heap.size (Nat.le_refl _)
  have HN := Lib.hid (Nodes.alloc hN (.cells #[] 158))
  clear hN
  have hq := fun w : World => Lib.run_eql_slice_nil w 74 158 (some ⟨b, off, none⟩) ns.length c 0 0 Try.underlying74
  go_enter Try.func186, Try.ntmps186
  go_wp2_with (at_builtin; go_must (refine wpl_copy rfl _ _ 74 158 Try.underlying74 hi hz0 hz1 hz2 rfl w.heap.size _ rfl ow _ c ns (fun h => by cases h) rfl HN.out hn (by simp) ?_; intro v' w1 hown hb1))
  obtain ⟨g, cap, rfl, hg, hNN, hf⟩ := hown.some_ h1
  go_wp2
  go_ret
  exact ⟨g, cap, rfl, hg, hNN, hf, ((Below.refl _ w).alloc (Nat.le_refl _) _).trans hb1⟩

set_option maxRecDepth 100000 in
set_option maxHeartbeats 4000000 in
theorem with_any (b off c : Nat) (ns : List Node) (k : Nat) (x : Int) (hk : k < ns.length) (hn : ns.length ≤ 1000) (w : World) (hN : Nodes w w.heap.size (some ⟨b, off, none⟩) ns) :
    Calls Try.prog 153 #[.agg #[.slice (some ⟨b, off, none⟩) ns.length c], .int .i64 k, .int .i64 x] w fun e w' => ∃ g cap, e = .returned (.agg #[.slice (some ⟨g, 0, none⟩) ns.length cap]) ∧ Nodes w' w'.heap.size (some ⟨g, 0, none⟩) (setW ns k x) ∧ Below w.heap.size w w' := by
  obtain ⟨W0, hW0⟩ : ∃ W0, (w.alloc (.cells #[.slice (some ⟨b, off, none⟩) ns.length c] 155)).alloc (.cells #[.slice none 0 0] 155) = W0 := ⟨_, rfl⟩
  have b1 : Boxed W0 w.heap.size 155 (.slice (some ⟨b, off, none⟩) ns.length c) := by rw [← hW0]; exact (Boxed.new _ _ _).alloc _
  have b2 : Boxed W0 (w.heap.size + 1) 155 (.slice none 0 0) := by
    have := Boxed.new (w.alloc (.cells #[.slice (some ⟨b, off, none⟩) ns.length c] 155)) 155 (.slice none 0 0)
    rw [← hW0]; simpa only [World.size_alloc] using this
  have hB0 : Below w.heap.size w W0 := by rw [← hW0]; exact ((Below.refl _ w).alloc (Nat.le_refl _) _).alloc (by simp) _
  have hN0 : Nodes W0 W0.heap.size (some ⟨b, off, none⟩) ns := nlt hN hB0
  have q1 := b1.cell
  have hs0 : w.heap.size + 2 ≤ W0.heap.size := by rw [← hW0]; simp
  have HC := Lib.hid (clone_any b off c ns (by omega) hn W0 hN0)
  clear hN0 hN
  go_enter Try.func153, Try.ntmps153
  go_wp2_with (go_at_call 186; refine HC.out.mono ?_; rintro e w1 ⟨g, cap, rfl, hg, hN1, hf1, hb1⟩; have r1 := (boxed_ext hb1 b1).cell; have r2 := (boxed_ext hb1 b1).frozen; have r3 := (boxed_ext hb1 b2).cell; have r4 := (boxed_ext hb1 b2).frozen; obtain ⟨_, _, ee, _, _, d2, _⟩ := hN1.at_ (GoodC.at_ hk); cases ee; rw [Nat.zero_add] at d2)
  have s1 : Boxed ((w1.setCell ⟨w.heap.size, 0, none⟩ (.slice (some ⟨g, 0, none⟩) ns.length cap)).setCell ⟨g, k * 3 + 1, none⟩ (.int .i64 x)) (w.heap.size + 1) 155 (.slice none 0 0) :=
    boxed_other' (boxed_other' (boxed_ext hb1 b2) (by show w.heap.size + 1 ≠ w.heap.size; omega) _) (by show w.heap.size + 1 ≠ g; omega) _
  have s2 := (s1.set (.slice (some ⟨g, 0, none⟩) ns.length cap)).cell
  refine bodyPost_ret (v := .agg #[.slice (some ⟨g, 0, none⟩) ns.length cap]) (by simp [results, Try.results153, go_sem, s2]) rfl ⟨g, cap, rfl, ?_, ?_⟩
  · have := nodes_setw (nodes_other hN1 (p := ⟨w.heap.size, 0, none⟩) (by show w.heap.size ≠ g; omega) (.slice (some ⟨g, 0, none⟩) ns.length cap) (Nat.le_refl _)) hk x
    rw [Nat.zero_add] at this
    exact nodes_other this (p := ⟨w.heap.size + 1, 0, none⟩) (by show w.heap.size + 1 ≠ g; omega) _ (by simp)
  · have hB := hb0to hB0 hb1
    exact ((hB.setCell (p := ⟨w.heap.size, 0, none⟩) (Nat.le_refl _) _).setCell (p := ⟨g, k * 3 + 1, none⟩) (by show w.heap.size ≤ g; omega) _).setCell (p := ⟨w.heap.size + 1, 0, none⟩) (by simp) _
open Go.RowKit

/-- Does a custom agree with a payment? -/
def agreesB (ns : List Node) (p : Node) : Bool := decide (gotS ns p.u p.w.toNat = p.f)
theorem payOK_of {N : Nat} {p : Node} (h : payOK N p = true) : (0 ≤ p.u ∧ p.u ≤ 400) ∧ (0 ≤ p.w ∧ p.w ≤ N - 1) ∧ (0 ≤ p.f ∧ p.f ≤ 400) := by
  simp only [payOK, Bool.and_eq_true, inR_true] at h
  exact h
/-- A payment's box. -/
def Three (W : World) (b : Nat) (p : Node) : Prop := W.heap[b]? = some (.cells #[.int .i64 p.u, .int .i64 p.w, .int .i64 p.f] 148 (0, 0))
theorem Three.c0 {W : World} {b : Nat} {p : Node} (h : Three W b p) : W.cell? ⟨b, 0, none⟩ = some (.int .i64 p.u) := by simp [World.cell?, show W.heap[b]? = _ from h]
theorem Three.c1 {W : World} {b : Nat} {p : Node} (h : Three W b p) : W.cell? ⟨b, 1, none⟩ = some (.int .i64 p.w) := by simp [World.cell?, show W.heap[b]? = _ from h]
theorem Three.c2 {W : World} {b : Nat} {p : Node} (h : Three W b p) : W.cell? ⟨b, 2, none⟩ = some (.int .i64 p.f) := by simp [World.cell?, show W.heap[b]? = _ from h]
theorem gets_is (c : Nat) (A : Option Addr) {ns : List Node} {pence : Int} (n : Nat) (m : Int) (hm : (n : Int) = m) (h : GoodC ns) (hn : n < ns.length) (hp : 0 ≤ pence) (hp4 : pence ≤ 400) (w : World) (hN : Nodes w w.heap.size A ns) :
    Calls Try.prog 150 #[.agg #[.slice A ns.length c], .int .i64 m, .int .i64 pence] w fun e w' => e = .returned (.int .i64 (gotS ns pence n)) ∧ Below w.heap.size w w' := by
  subst hm; exact gets_any c A n h hn hp hp4 w hN

set_option maxRecDepth 100000 in
set_option maxHeartbeats 1000000 in
theorem agrees_any (A : Option Addr) (c : Nat) (ns : List Node) (p : Node) (hg : GoodC ns) (hp : payOK ns.length p = true) (w : World) (hN : Nodes w w.heap.size A ns) :
    Calls Try.prog 156 #[.agg #[.slice A ns.length c], .agg #[.int .i64 p.u, .int .i64 p.w, .int .i64 p.f]] w fun e w' => e = .returned (.bool (agreesB ns p)) ∧ Below w.heap.size w w' := by
  obtain ⟨⟨a1, a2⟩, ⟨a3, a4⟩, _⟩ := payOK_of hp
  have hw : p.w.toNat < ns.length := by omega
  have hwi : (p.w.toNat : Int) = p.w := by omega
  obtain ⟨W0, hW0⟩ : ∃ W0, (w.alloc (.cells #[.slice A ns.length c] 155)).alloc (.cells #[.int .i64 p.u, .int .i64 p.w, .int .i64 p.f] 148) = W0 := ⟨_, rfl⟩
  have b1 : Boxed W0 w.heap.size 155 (.slice A ns.length c) := by rw [← hW0]; exact (Boxed.new _ _ _).alloc _
  have b2 : Three W0 (w.heap.size + 1) p := by
    have := World.alloc_heap_new (w.alloc (.cells #[.slice A ns.length c] 155)) (.cells #[.int .i64 p.u, .int .i64 p.w, .int .i64 p.f] 148)
    rw [← hW0]; unfold Three; simpa only [World.size_alloc] using this
  have hB0 : Below w.heap.size w W0 := by rw [← hW0]; exact ((Below.refl _ w).alloc (Nat.le_refl _) _).alloc (by simp) _
  have hN0 : Nodes W0 W0.heap.size A ns := Nodes.lt hN hB0
  have l1 := extB_cell b1.cell
  have l2 := extB_cell b2.c0
  have l3 := extB_cell b2.c1
  have l4 := extB_cell b2.c2
  have HG := Lib.hid (show agreesB ns p = decide (gotS ns p.u p.w.toNat = p.f) from rfl)
  clear hp
  go_enter Try.func156, Try.ntmps156
  go_wp2
  clear hW0
  refine wp_region_ext (by kernel_rfl) (by kernel_rfl) ?_
  repeat (go_big_quiet_step ((go_at_call 150; exact ext_call (gets_is c A _ _ hwi hg hw a1 a2 _ (Nodes.lt hN0 (extB_below _ _))))))
  refine wpQuiet_nil ?_
  rintro _ ⟨x1, rfl⟩
  have hb1 := hb0to hB0 (extB_below W0 x1)
  go_wp2
  go_ret
  refine ⟨?_, hb1⟩
  rw [HG.out]
  rfl

set_option maxHeartbeats 1000000 in
theorem weights1_any (pb : Nat) (A : Option Addr) (c : Nat) (ns : List Node) (p : Node) (hg : GoodC ns) (hp : payOK ns.length p = true) (w : World) (hN : Nodes w w.heap.size A ns) (b1 : Boxed w pb 155 (.slice A ns.length c)) :
    Calls Try.prog 155 #[.agg #[.int .i64 p.u, .int .i64 p.w, .int .i64 p.f], .pointer (some ⟨pb, 0, none⟩)] w fun e w' => e = .returned (.bool (!agreesB ns p)) ∧ Below w.heap.size w w' := by
  have c1 := (b1.alloc (.cells #[.int .i64 p.u, .int .i64 p.w, .int .i64 p.f] 148)).cell
  have HN := Lib.hid (Nodes.alloc hN (.cells #[.int .i64 p.u, .int .i64 p.w, .int .i64 p.f] 148))
  clear hN
  go_enter Try.func155, Try.ntmps155
  go_wp2_with (go_at_call 156; refine (agrees_any _ _ _ _ hg hp _ HN.out).mono ?_; rintro e w1 ⟨rfl, hb1⟩)
  go_ret
  exact ⟨rfl, ((Below.refl _ w).alloc (Nat.le_refl _) _).trans (hb1.mono (by simp))⟩
open Go.RowKit

theorem setW_at {ns : List Node} {k i : Nat} {x : Int} {y : Node} (h : (setW ns k x)[i]? = some y) : ∃ z, ns[i]? = some z ∧ y.u = z.u ∧ y.f = z.f ∧ (y.w = z.w ∨ y.w = x) := by
  unfold setW at h
  rw [List.getElem?_set] at h
  split at h
  · rename_i e
    subst e
    by_cases hk : k < ns.length
    · rw [if_pos hk] at h; cases h; exact ⟨_, GoodC.at_ hk, rfl, rfl, .inr rfl⟩
    · rw [if_neg hk] at h; cases h
  · exact ⟨y, h, rfl, rfl, .inl rfl⟩
theorem setW_good {ns : List Node} (h : GoodC ns) (k : Nat) {x : Int} (hx : 0 ≤ x ∧ x ≤ 9) : GoodC (setW ns k x) := by
  refine ⟨by rw [setW_len]; exact h.l1, by rw [setW_len]; exact h.l8, fun i y hy hi => ?_, fun y hy => ?_, fun i y hy => ?_, fun i y hy => ?_⟩
  · obtain ⟨z, hz, e1, _⟩ := setW_at hy; rw [e1]; exact h.up i z hz hi
  · obtain ⟨z, hz, e1, _⟩ := setW_at hy; rw [e1]; exact h.top z hz
  · obtain ⟨z, hz, _, _, e⟩ := setW_at hy
    rcases e with e | e
    · rw [e]; exact h.ws i z hz
    · rw [e]; exact hx
  · obtain ⟨z, hz, _, e1, _⟩ := setW_at hy; rw [e1]; exact h.fs i z hz

/-- The weights below k that a node could have. -/
def wtsTo (ns : List Node) (n : Nat) (ps : List Node) : Nat → List Int
  | 0 => []
  | k + 1 => if ps.any (fun p => !agreesB (setW ns n k) p) then wtsTo ns n ps k else wtsTo ns n ps k ++ [(k : Int)]
theorem wtsTo_len (ns : List Node) (n : Nat) (ps : List Node) : ∀ k, (wtsTo ns n ps k).length ≤ k
  | 0 => Nat.le_refl _
  | k + 1 => by
    have := wtsTo_len ns n ps k
    unfold wtsTo
    split
    · omega
    · simp; omega
/-- The error of Weights; its list. -/
def wtsE (ns : List Node) (node : Int) (ps : List Node) : Int := askE ns (inR node 0 (ns.length - 1) && decide (0 < node)) ps
def wtsV (ns : List Node) (node : Int) (ps : List Node) : List Int := if wtsE ns node ps = 0 then wtsTo ns node.toNat ps 10 else []
def wtsR (ns : List Node) (node : Int) (ps : List Node) : Int := if wtsE ns node ps = 0 then (if (wtsTo ns node.toNat ps 10).length = 0 then 3 else 0) else wtsE ns node ps

theorem contains_is (gf pb c : Nat) (A : Option Addr) (l : List Node) (hl : l.length ≤ 1000) (p : Node → Bool) (w : World) (hP : Nodes w w.heap.size A l) (eg : ∀ args w, (callFunc gf args).run Try.prog w = .ok (.enter gf args) w)
    (hf : ∀ (x : Node) (W : World), x ∈ l → Below w.heap.size w W → Calls Try.prog gf #[.agg #[.int .i64 x.u, .int .i64 x.w, .int .i64 x.f], .pointer (some ⟨pb, 0, none⟩)] W fun e w' => e = .returned (.bool (p x)) ∧ Below W.heap.size W w') (b : Bool) (hb : l.any p = b) :
    Calls Try.prog 154 #[.slice A l.length c, .func (.func gf) #[] #[.pointer (some ⟨pb, 0, none⟩)]] w fun e w' => e = .returned (.bool b) ∧ Below w.heap.size w w' := by
  rw [← hb]; exact containsPay_any gf pb c A l hl p w hP eg hf
theorem wts_again (A2 : Option Addr) (c2 : Nat) (ns ps : List Node) (n k : Nat) (hg : GoodC ns) (_hn : n < ns.length) (hp : ps.length ≤ 1000) (hps : ps.all (payOK ns.length) = true) (hk : k ≤ 9) (w2 : World) (g cap : Nat) (hN2 : Nodes w2 w2.heap.size (some ⟨g, 0, none⟩) (setW ns n k)) (hP2 : Nodes w2 w2.heap.size A2 ps) (bb : Bool) (hbb : ps.any (fun p => !agreesB (setW ns n k) p) = bb) :
    Calls Try.prog 154 #[.slice A2 ps.length c2, .func (.func 155) #[] #[.pointer (some ⟨w2.heap.size, 0, none⟩)]] (w2.alloc (.cells #[.slice (some ⟨g, 0, none⟩) ns.length cap] 155)) fun e w' => e = .returned (.bool bb) ∧ Below w2.heap.size w2 w' := by
  have hgs := setW_good hg n (x := k) (by omega)
  have b3 := Boxed.new w2 155 (.slice (some ⟨g, 0, none⟩) ns.length cap)
  refine (contains_is 155 w2.heap.size c2 A2 ps hp (fun p => !agreesB (setW ns n k) p) _ (Nodes.alloc hP2 _) (enters_of Try.func155 (by kernel_rfl) rfl) (fun x W hx hW => ?_) bb hbb).mono ?_
  · have := weights1_any w2.heap.size (some ⟨g, 0, none⟩) cap (setW ns n k) x hgs (by rw [setW_len]; exact List.all_eq_true.1 hps x hx) W (Nodes.lt (Nodes.alloc hN2 _) hW) (by rw [setW_len]; exact boxed_ext hW b3)
    exact this
  · rintro e w' ⟨he, hb⟩
    exact ⟨he, ((Below.refl _ w2).alloc (Nat.le_refl _) _).trans (hb.mono (by simp))⟩

set_option maxRecDepth 100000 in
set_option maxHeartbeats 4000000 in
theorem weights_ok (A A2 : Option Addr) (c c2 : Nat) (ns ps : List Node) (node : Int) (hn : ns.length ≤ 1000) (hp : ps.length ≤ 1000) (w : World) (hN : Nodes w w.heap.size A ns) (hP : Nodes w w.heap.size A2 ps) :
    Calls Try.prog 101 #[.agg #[.slice A ns.length c], .int .i64 node, .slice A2 ps.length c2] w fun e w' => ∃ Ao co, e = .returned (.tuple #[.slice Ao (wtsV ns node ps).length co, .int .i64 (wtsR ns node ps)]) ∧ IntsAt w' w'.heap.size Ao (wtsV ns node ps) ∧ Below w.heap.size w w' := by
  obtain ⟨W0, hW0⟩ : ∃ W0, w.alloc (.cells #[.slice A ns.length c] 76) = W0 := ⟨_, rfl⟩
  have b1 : Boxed W0 w.heap.size 76 (.slice A ns.length c) := by rw [← hW0]; exact Boxed.new _ _ _
  have hB0 : Below w.heap.size w W0 := by rw [← hW0]; exact (Below.refl _ w).alloc (Nat.le_refl _) _
  have hN0 : Nodes W0 W0.heap.size A ns := Nodes.lt hN hB0
  have hP0 : Nodes W0 W0.heap.size A2 ps := Nodes.lt hP hB0
  have l1 := extB_cell b1.cell
  cases g1 : inR node 0 (ns.length - 1) <;> cases g2 : decide (0 < node)
  all_goals
    have G1 := Lib.hid g1
    have G2 := Lib.hid g2
    have gg := g2
    first | rw [decide_eq_true_iff] at gg | rw [decide_eq_false_iff_not] at gg
    obtain ⟨ee, hee⟩ : ∃ ee, wtsE ns node ps = ee := ⟨_, rfl⟩
    have hef := hee
    rw [wtsE, g1, g2] at hee
    simp only [Bool.and_true, Bool.and_false] at hee
    rcases err_cases ee with rfl | ⟨hne, hneb⟩
    · obtain ⟨z1, z2, z3, z4⟩ := askE_zero hee
      have HE := Lib.hid hee
      have HEF := Lib.hid hef
      clear hef g1 g2 hee
      first
        | (exfalso; revert z2; decide)
        | (have hg := good_of z1
           obtain ⟨m, rfl⟩ : ∃ m : Nat, node = m := ⟨node.toNat, by have := (inR_true.1 G1.out).1; omega⟩
           have hm : m < ns.length := by have := (inR_true.1 G1.out).2; omega
           obtain ⟨b, off, hA, _⟩ := hN0.at_ (GoodC.at_ hm)
           subst hA
           have Z4 := Lib.hid z4
           have gm : 0 < m := by omega
           clear gg
           clear z1 z2 z4
           go_enter Try.func101, Try.ntmps101
           go_wp2
           clear hW0
           refine wp_region_ext (by kernel_rfl) (by kernel_rfl) ?_
           repeat (go_big_quiet_step (first
             | (go_at_call 147; exact ext_call (isNode_is _ _ _ _ _ hn _ G1.out))
             | (go_at_call 107; exact ext_call (ask_is _ A2 _ c2 ns ps _ hn hp _ (Nodes.lt hN0 (extB_below _ _)) (Nodes.lt hP0 (extB_below _ _)) _ HE.out))))
           refine wpQuiet_nil ?_
           rintro _ ⟨x1, rfl⟩
           obtain ⟨W1, hW1⟩ : ∃ W1, extB W0 x1 = W1 := ⟨_, rfl⟩
           have hb1 := extB_below W0 x1
           have m1 := l1 x1
           rw [hW1] at hb1 m1 ⊢
           clear hW1 l1
           have hb2 := hb0to hB0 hb1
           have Hb1 := boxed_ext hb1 b1
           have hN1 := Nodes.lt hN0 hb1
           have hP1 := Nodes.lt hP0 hb1
           go_wp2
           go_loopw [9, 10, 11, 25] (fun v _ _ i wr => ∃ k : Nat, k ≤ 10 ∧ i = .int .i64 k ∧ Hid (Ints wr W1.heap.size v (wtsTo ns m ps k)) ∧ Below W1.heap.size W1 wr)
             (fun _ _ _ i _ => 10 - (intOf i).toNat)
           case atStart => exact ⟨0, by omega, rfl, Lib.hid (ints_nil _ _), Below.refl _ _⟩
           case round =>
             obtain ⟨k, hk, rfl, HV, hb3⟩ := hrel
             by_cases hlt : k < 10
             · have n1 := (boxed_ext hb3 Hb1).cell
               have hN3 := Nodes.lt hN1 hb3
               have hP3 := Nodes.lt hP1 hb3
               have HW := Lib.hid (with_any b off c ns m k hm hn wr hN3)
               cases hbb : ps.any (fun p => !agreesB (setW ns m k) p)
               all_goals
                 have HBB := Lib.hid hbb
                 clear hbb
                 go_wp2_with (first
                   | (go_at_call 153; refine HW.out.mono ?_; rintro e w2 ⟨g, cap, rfl, hN4, hb4⟩; have hP4 := Nodes.lt hP3 hb4)
                   | (go_at_call 154; refine (wts_again A2 c2 ns ps m k hg hm hp Z4.out (by omega) w2 g cap hN4 hP4 _ HBB.out).mono ?_; rintro e w3 ⟨rfl, hb5⟩; have hb6 := hb4.trans (hb5.mono hb4.size))
                   | (at_builtin; go_must (refine wpl_app rfl (.tmp 37) (.tmp 39) rfl W1.heap.size W1.heap.size _ (wtsTo ns m ps k) k rfl (Ints.below_ HV.out (hb6.alloc hb6.size _) (Nat.le_refl _)) ⟨w3.heap.size, 0, none⟩ 1 rfl (Boxed.cell (Boxed.new w3 3 (.int .i64 k))) (by have := wtsTo_len ns m ps k; omega) (by have := hb6.size; have := hb3.size; simp; omega) (Nat.le_refl _) ?_; intro v' w4 hown4 hb7)))
                 · first
                     | (go_roundw
                        case rel => exact ⟨k + 1, by omega, by go_num, Lib.hid (by
                          have e : wtsTo ns m ps (k + 1) = wtsTo ns m ps k ++ [(k : Int)] := by rw [wtsTo, HBB.out]; rfl
                          rw [e]; exact hown4), (hb3.trans (hb6.mono hb3.size)).trans (((Below.refl _ w3).alloc (by have := hb6.size; have := hb3.size; omega) _).trans hb7)⟩
                        case measure => simp [intOf]; omega)
                     | (go_roundw
                        case rel => exact ⟨k + 1, by omega, by go_num, Lib.hid (by
                          have e : wtsTo ns m ps (k + 1) = wtsTo ns m ps k := by rw [wtsTo, HBB.out]; rfl
                          rw [e]; exact Ints.below_ HV.out hb6 (Nat.le_refl _)), hb3.trans (hb6.mono hb3.size)⟩
                        case measure => simp [intOf]; omega)
             · obtain rfl : k = 10 := by omega
               obtain ⟨A3, c3, rfl, hA3, hI3⟩ := Ints.lay HV.out
               have hll := wtsTo_len ns m ps 10
               by_cases hl : (wtsTo ns m ps 10).length = 0
               · have hlb : (((wtsTo ns m ps 10).length : Int) == 0) = true := by simp only [beq_iff_eq]; omega
                 have H1 := Lib.hid (show wtsR ns m ps = 3 from by rw [wtsR, if_pos HEF.out]; exact if_pos hl)
                 have H2 := Lib.hid (show wtsV ns m ps = [] from by rw [wtsV, if_pos HEF.out]; exact List.length_eq_zero_iff.1 hl)
                 clear hl hA3
                 go_wp2
                 go_ret2
                 exact ⟨none, 0, by rw [H1.out, H2.out]; rfl, by rw [H2.out]; exact intsAt_nil, hb2.trans (hb3.mono hb2.size)⟩
               · have hlb : (((wtsTo ns m ps 10).length : Int) == 0) = false := by rw [beq_eq_false_iff_ne]; omega
                 have H1 := Lib.hid (show wtsR ns m ps = 0 from by rw [wtsR, if_pos HEF.out]; exact if_neg hl)
                 have H2 := Lib.hid (show wtsV ns m ps = wtsTo ns m ps 10 from by rw [wtsV, if_pos HEF.out]; rfl)
                 have HI3 := Lib.hid hI3
                 clear hl hA3 hI3
                 go_wp2
                 go_ret2
                 exact ⟨A3, c3, by rw [H1.out, H2.out]; rfl, by rw [H2.out]; exact HI3.out, hb2.trans (hb3.mono hb2.size)⟩)
    · have H1 := Lib.hid (show wtsR ns node ps = ee from by unfold wtsR; rw [hef]; exact if_neg hne)
      have H2 := Lib.hid (show wtsV ns node ps = [] from by unfold wtsV; rw [hef]; exact if_neg hne)
      have HE := Lib.hid hee
      clear hef g1 g2 hee gg
      have gq := G2.out
      go_enter Try.func101, Try.ntmps101
      go_wp2
      clear hW0
      refine wp_region_ext (by kernel_rfl) (by kernel_rfl) ?_
      repeat (go_big_quiet_step (first
        | (go_at_call 147; exact ext_call (isNode_is _ _ _ _ _ hn _ G1.out))
        | (go_at_call 107; exact ext_call (ask_is _ A2 _ c2 ns ps _ hn hp _ (Nodes.lt hN0 (extB_below _ _)) (Nodes.lt hP0 (extB_below _ _)) _ HE.out))))
      refine wpQuiet_nil ?_
      rintro _ ⟨x1, rfl⟩
      have hb1 := hb0to hB0 (extB_below W0 x1)
      go_wp2
      go_ret2
      exact ⟨none, 0, by rw [H1.out, H2.out]; rfl, by rw [H2.out]; exact intsAt_nil, hb1⟩
open Go.RowKit

/-- The map that counts what has been seen. -/
def SeenM (W : World) (b : Nat) (keys : List Int) : Prop :=
  ∃ D : DataW Unit, W.ownsMap Try.prog 3 (plainElem Try.prog 3) b keys.length D ∧ Maps.Tidy D ∧
    (∀ k : Int, 0 ≤ k → k ≤ 1000 → Maps.has D (.int .i64 k) = decide (k ∈ keys) ∧ D.atKey (.int .i64 k) (.lit (.int .i64 0)) = .lit (.int .i64 (keys.count k))) ∧
    Maps.size D ≤ keys.length ∧ (Maps.size D = keys.length ↔ keys.Nodup)
theorem seen_made (w : World) : SeenM (w.alloc (.map #[] 0)) w.heap.size [] :=
  ⟨.map [], World.ownsMap_made w _ _ _, ⟨[], rfl, List.Pairwise.nil⟩, fun k _ _ => ⟨rfl, rfl⟩, Nat.le_refl _, by simp [Maps.size]⟩
theorem SeenM.grown {W W' : World} {b : Nat} {keys : List Int} {row : Option Nat} (h : SeenM W b keys) (hg : W.grownBy W' row) (hr : some b ≠ row) : SeenM W' b keys := by
  obtain ⟨D, h1, h2⟩ := h
  exact ⟨D, h1.kept hg hr, h2⟩
theorem SeenM.lt {W : World} {b : Nat} {keys : List Int} (h : SeenM W b keys) : b < W.heap.size := by obtain ⟨D, h1, _⟩ := h; exact h1.lt
theorem SeenM.below {W W' : World} {b n : Nat} {keys : List Int} (h : SeenM W b keys) (hb : Below n W W') (hn : W.heap.size ≤ n) : SeenM W' b keys := by
  have hlt := SeenM.lt h
  exact SeenM.grown (row := none) h ⟨hb.os, hb.tape, hb.output, hb.size, fun i hi _ => hb.block i (by omega)⟩ (by simp)
theorem wf_1000 {k : Int} (h0 : 0 ≤ k) (h1 : k ≤ 1000) : (Lit.int .i64 k).wf = true := WalkArith.wf_i64 (by omega)
set_option maxRecDepth 100000 in
theorem SeenM.step {W : World} {b : Nat} {keys : List Int} (h : SeenM W b keys) (k : Int) (h0 : 0 ≤ k) (h1 : k ≤ 1000) (hl : keys.length ≤ 100) :
    (Instr.lookup 202 (.map (some b)) (.int .i64 k) false).run Try.prog W = .ok (.int .i64 (keys.count k)) W ∧
    ∃ W', (Instr.mapUpdate 202 (.map (some b)) (.int .i64 k) (.int .i64 (keys.count k + 1))).run Try.prog W = .ok () W' ∧ SeenM W' b (keys ++ [k]) ∧ W.grownBy W' (some b) := by
  obtain ⟨D, hown, hT, hat, hs, hsn⟩ := h
  have K : Maps.Keyed Try.prog 3 := Maps.int_keyed Try.underlying3
  have hkey : keyOf Try.prog 3 (.int .i64 k) = some (.int .i64 k) := Maps.keyOf_int_mk Try.underlying3 (wf_1000 h0 h1)
  have hc := List.count_le_length (a := k) (l := keys)
  have hkl : WideAt.IsKeyLit (Lit.int .i64 k) := by trivial
  refine ⟨?_, ?_⟩
  · obtain ⟨c, hrun, hc2, _⟩ := hown.lookup_int K Try.underlying202 Try.underlying3 (Try.zeroValue3 _) hkey
    have e : c = keys.count k := by
      have := hc2.symm.trans (hat k h0 h1).2
      injection this with this
      injection this
    exact hrun.trans (by rw [e])
  · obtain ⟨W', hrun, hw, htn⟩ := hown.store K Try.underlying202 (by unfold maxLen; omega) hkey (plainElem_int (H := Unit) Try.underlying3 (q := .i64) (a := (keys.count k : Int) + 1) (WalkArith.wf_i64 (by omega)))
    refine ⟨W', hrun, ⟨_, by rw [List.length_append]; exact hw, hT.put hkl _, fun i hi0 hi1 => ?_, ?_, ?_⟩, htn.grown⟩
    · by_cases e : i = k
      · subst e
        refine ⟨?_, ?_⟩
        · rw [Maps.has_put_same hT.isMap hkl]; simp
        · rw [Maps.atKey_put_same hT.isMap hkl, List.count_append]; simp
      · have hne : Lit.int .i64 i ≠ Lit.int .i64 k := fun h => e (by injection h)
        refine ⟨?_, ?_⟩
        · rw [Maps.has_put_other hne, (hat i hi0 hi1).1]; simp [e]
        · rw [Maps.atKey_put_other hne, (hat i hi0 hi1).2, List.count_append]
          have : List.count i [k] = 0 := by simp [Ne.symm e]
          rw [this]; rfl
    · rw [Maps.size_put hT, List.length_append]
      split <;> simp <;> omega
    · rw [Maps.size_put hT, (hat k h0 h1).1, List.length_append]
      by_cases hm : k ∈ keys
      · simp only [hm, decide_true, if_true, List.length_singleton]
        constructor
        · intro h; omega
        · intro h
          rw [List.nodup_append] at h
          exact absurd rfl (h.2.2 k hm k (List.mem_singleton.2 rfl))
      · simp only [hm, decide_false, List.length_singleton]
        rw [List.nodup_append]
        simp only [Bool.false_eq_true, if_false, Nat.add_right_cancel_iff, hsn]
        constructor
        · intro h
          refine ⟨h, by simp, fun a ha b hb e => ?_⟩
          rw [List.mem_singleton] at hb
          subst hb; subst e
          exact hm ha
        · exact fun h => h.1
theorem SeenM.len_ {W : World} {b : Nat} {keys : List Int} (h : SeenM W b keys) (_hl : keys.length ≤ 100) :
    ∃ sz : Nat, (∀ ty, (Builtin.len_ #[202] ty #[.map (some b)]).run Try.prog W = .ok (.int .i64 sz) W) ∧ ((sz : Int) == keys.length) = decide keys.Nodup := by
  obtain ⟨D, hown, hT, hat, hs, hsn⟩ := h
  refine ⟨Maps.size D, fun ty => hown.len Try.underlying202 ty, ?_⟩
  rw [Bool.eq_iff_iff]
  simp only [beq_iff_eq, decide_eq_true_eq, ← hsn]
  omega
open Go.RowKit

/-- What a node gets with each of some weights. -/
def askKeys (ns : List Node) (m : Nat) (l : List Int) (n : Nat) : List Int := l.map (fun x => gotS (setW ns m x) n m)
theorem boxed_below {W W' : World} {b n : Nat} {t : TypeId} {v : Value} (h : Boxed W b t v) (hb : Below n W W') (hn : W.heap.size ≤ n) : Boxed W' b t v := (hb.block b (Nat.lt_of_lt_of_le h.lt hn)).trans h
theorem drew_below (W : World) : Below W.heap.size W W.drew := (Below.refl _ W).drew

theorem getsW {g cap : Nat} {ns : List Node} {m : Nat} {x : Int} {n : Nat} (hg : GoodC ns) (hm : m < ns.length) (hn : n ≤ 400) (hx : 0 ≤ x ∧ x ≤ 9) (w : World) (hN : Nodes w w.heap.size (some ⟨g, 0, none⟩) (setW ns m x)) :
    Calls Try.prog 150 #[.agg #[.slice (some ⟨g, 0, none⟩) ns.length cap], .int .i64 m, .int .i64 n] w fun e w' => e = .returned (.int .i64 (gotS (setW ns m x) n m)) ∧ Below w.heap.size w w' := by
  have := gets_any cap (some ⟨g, 0, none⟩) (pence := n) m (setW_good hg m hx) (by rw [setW_len]; exact hm) (by omega) (by omega) w hN
  rw [setW_len] at this
  exact this
theorem getsW_bd {ns : List Node} {m : Nat} {x : Int} {n : Nat} (hg : GoodC ns) (hm : m < ns.length) (hx : 0 ≤ x ∧ x ≤ 9) : 0 ≤ gotS (setW ns m x) n m ∧ gotS (setW ns m x) n m ≤ n :=
  gotS_bd (setW_good hg m hx) (by omega) m (by rw [setW_len]; exact hm)
/-- Memory behind the round of Ask's question. -/
theorem seen_round {w wr w2 w3 : World} {keys : List Int} (HS : SeenM wr w.heap.size keys) (hb : Below w.heap.size w wr) (hb4 : Below wr.heap.size wr w2) (hb5 : Below w2.heap.size w2 w3) (k : Int) (h0 : 0 ≤ k) (h1 : k ≤ 1000) (hl : keys.length ≤ 100) :
    ∃ c : Int, IntKind.i64.wrap (c + 1) = c + 1 ∧ (Instr.lookup 202 (.map (some w.heap.size)) (.int .i64 k) false).run Try.prog w3 = .ok (.int .i64 c) w3 ∧
    ∃ W', (Instr.mapUpdate 202 (.map (some w.heap.size)) (.int .i64 k) (.int .i64 (c + 1))).run Try.prog w3 = .ok () W' ∧ SeenM W' w.heap.size (keys ++ [k]) ∧ Below w.heap.size w W' := by
  have hb6 : Below wr.heap.size wr w3 := hb4.trans (hb5.mono hb4.size)
  obtain ⟨st1, W', st2, st3, st4⟩ := SeenM.step (SeenM.below HS hb6 (Nat.le_refl _)) k h0 h1 hl
  have hcl := List.count_le_length (a := k) (l := keys)
  refine ⟨_, Go.wrap_small _ (by omega) (by omega), st1, W', st2, st3, ?_⟩
  have hb7 : Below w.heap.size w w3 := hb.trans (hb6.mono hb.size)
  exact hb7.trans ((Below.refl w.heap.size w3).grown st4 hb7.size (fun j e => by injection e with e; omega))

set_option maxRecDepth 100000 in
set_option maxHeartbeats 4000000 in
theorem ask1S_any (pl pc pn b off c cl n : Nat) (Al : Option Addr) (ns : List Node) (l : List Int) (m : Nat) (hg : GoodC ns) (hm : m < ns.length) (hn : n ≤ 400) (hl : l.length ≤ 10) (hl9 : ∀ x ∈ l, 0 ≤ x ∧ x ≤ 9) (w : World) (hN : Nodes w w.heap.size (some ⟨b, off, none⟩) ns) (hI : IntsAt w w.heap.size Al l)
    (b1 : Boxed w pl 25 (.slice Al l.length cl)) (b2 : Boxed w pc 76 (.slice (some ⟨b, off, none⟩) ns.length c)) (b3 : Boxed w pn 3 (.int .i64 m)) :
    Calls Try.prog 157 #[.int .i64 n, .pointer (some ⟨pl, 0, none⟩), .pointer (some ⟨pc, 0, none⟩), .pointer (some ⟨pn, 0, none⟩)] w fun e w' => e = .returned (.bool (decide (askKeys ns m l n).Nodup)) ∧ Below w.heap.size w w' := by
  have HB1 := Lib.hid b1
  have HB2 := Lib.hid b2
  have HB3 := Lib.hid b3
  have HN := Lib.hid hN
  have HI := Lib.hid hI
  have hl8 := hg.l8
  have c1 := (b1.alloc (.map #[] 0)).cell
  have hmm := @run_makeMap Try.prog
  clear hN hI b1 b2 b3
  go_enter Try.func157, Try.ntmps157
  go_wp2
  go_loopw [8, 12] (fun _ i wr => ∃ k : Nat, k ≤ l.length ∧ i = .int .i64 k ∧ Hid (SeenM wr w.heap.size (askKeys ns m (l.take k) n)) ∧ Below w.heap.size w wr)
    (fun _ i _ => l.length - (intOf i).toNat)
  case atStart => exact ⟨0, Nat.zero_le _, rfl, Lib.hid (seen_made w), (Below.refl _ w).alloc (Nat.le_refl _) _⟩
  case round =>
    obtain ⟨k, hk, rfl, HS, hb⟩ := hrel
    by_cases hlt : k < l.length
    · obtain ⟨x, hx⟩ : ∃ x, l[k]? = some x := ⟨_, List.getElem?_eq_getElem hlt⟩
      obtain ⟨bl, offl, rfl, hbl, hcl⟩ := IntsAt.at_ HI.out hx
      have hx9 := hl9 x (List.mem_of_getElem? hx)
      have hbl2 : wr.cell? ⟨bl, offl + k, none⟩ = some (.int .i64 x) := (hb.cell (p := ⟨bl, offl + k, none⟩) hbl).trans hcl
      have e1 := (boxed_below HB2.out hb (Nat.le_refl _)).cell
      have e2 := (boxed_below HB3.out hb (Nat.le_refl _)).cell
      have hN3 : Nodes wr.drew wr.drew.heap.size (some ⟨b, off, none⟩) ns := (HN.out.below hb).more hb.size
      have HW := Lib.hid (with_any b off c ns m x hm (by omega) wr.drew hN3)
      have hbd := getsW_bd (n := n) hg hm hx9
      have hkl : (askKeys ns m (l.take k) n).length ≤ 100 := by simp [askKeys]; omega
      have HX := Lib.hid hx
      clear hx hcl hN3
      go_wp2
      go_region_with (first
        | (go_at_call 153; go_must (refine HW.out.mono ?_; rintro e w2 ⟨g, cap, rfl, hN4, hb4⟩; have e3 := (boxed_below HB3.out (hb.drew.trans (hb4.mono hb.size)) (Nat.le_refl _)).cell))
        | (go_at_call 150; go_must (refine (getsW hg hm hn hx9 w2 hN4).mono ?_; rintro e w3 ⟨rfl, hb5⟩; obtain ⟨cn, st0, st1, W4, st2, st3, st4⟩ := seen_round (w := w) (wr := wr.drew) HS.out hb.drew hb4 hb5 (gotS (setW ns m x) n m) hbd.1 (by omega) hkl)))
      all_goals
        have st5 : askKeys ns m (l.take (k + 1)) n = askKeys ns m (l.take k) n ++ [gotS (setW ns m x) n m] := by
          have : l.take (k + 1) = l.take k ++ [x] := by rw [List.take_add_one, HX.out]; rfl
          rw [askKeys, this, List.map_append]; rfl
        have ST5 := Lib.hid st5
        have ST3 := Lib.hid st3
        clear st0 st1 st2 st3 st5 hb4 hb5 e1 e2 e3 hbl2 hbd hkl
        go_wp2
        go_roundw
        case rel => exact ⟨k + 1, by omega, by go_num, by rw [ST5.out]; exact ST3, st4⟩
        case measure => simp [intOf]; omega
    · obtain rfl : k = l.length := by omega
      have hlen : (askKeys ns m (l.take l.length) n).length ≤ 100 := by simp [askKeys]; omega
      obtain ⟨sz, hsz, hq⟩ := SeenM.len_ HS.out hlen
      have hkl : (askKeys ns m (l.take l.length) n).length = l.length := by simp [askKeys]
      have q1 := (boxed_below HB1.out hb (Nat.le_refl _)).cell
      rw [hkl] at hq
      have HQ := Lib.hid (show decide (askKeys ns m l n).Nodup = decide (askKeys ns m (l.take l.length) n).Nodup from by rw [List.take_length])
      clear hkl hlen
      go_wp2
      go_ret
      exact ⟨by rw [HQ.out]; rfl, hb⟩
open Go.RowKit

theorem wtsTo_bd (ns : List Node) (n : Nat) (ps : List Node) : ∀ k, ∀ x ∈ wtsTo ns n ps k, 0 ≤ x ∧ x < k
  | 0, x, hx => by simp [wtsTo] at hx
  | k + 1, x, hx => by
    have ih := wtsTo_bd ns n ps k
    unfold wtsTo at hx
    split at hx
    · have := ih x hx; omega
    · rw [List.mem_append, List.mem_singleton] at hx
      rcases hx with hx | hx
      · have := ih x hx; omega
      · omega
/-- Ask's answer. -/
def askS (ns : List Node) (node : Int) (ps : List Node) : Int × Int :=
  if wtsR ns node ps ≠ 0 then (0, wtsR ns node ps) else if (wtsV ns node ps).length = 1 then (0, 0) else firstE (fun n => decide (askKeys ns node.toNat (wtsV ns node ps) n).Nodup) 401
theorem wtsR_zero {ns : List Node} {node : Int} {ps : List Node} (h : wtsR ns node ps = 0) : wtsE ns node ps = 0 ∧ wtsV ns node ps = wtsTo ns node.toNat ps 10 := by
  unfold wtsR at h
  split at h
  · rename_i h0
    exact ⟨h0, by rw [wtsV, if_pos h0]⟩
  · exact absurd h (by assumption)
theorem wtsE_zero {ns : List Node} {node : Int} {ps : List Node} (h : wtsE ns node ps = 0) : GoodC ns ∧ 0 < node ∧ node < ns.length ∧ ps.length ≤ 6 ∧ ps.all (payOK ns.length) = true := by
  obtain ⟨z1, z2, z3, z4⟩ := askE_zero h
  rw [Bool.and_eq_true, inR_true, decide_eq_true_eq] at z2
  exact ⟨good_of z1, z2.2, by omega, z3, z4⟩

theorem ask_again (b off c : Nat) (ns : List Node) (l : List Int) (m : Nat) (hg : GoodC ns) (hm : m < ns.length) (hl : l.length ≤ 10) (hl9 : ∀ x ∈ l, 0 ≤ x ∧ x ≤ 9) (w1 : World) (Ao : Option Addr) (co bc bn : Nat) (hN : Nodes w1 w1.heap.size (some ⟨b, off, none⟩) ns) (hI : IntsAt w1 w1.heap.size Ao l)
    (b1 : Boxed w1 bc 76 (.slice (some ⟨b, off, none⟩) ns.length c)) (b2 : Boxed w1 bn 3 (.int .i64 m)) :
    Calls Try.prog 148 #[.int .i64 401, .func (.func 157) #[] #[.pointer (some ⟨w1.heap.size, 0, none⟩), .pointer (some ⟨bc, 0, none⟩), .pointer (some ⟨bn, 0, none⟩)]] (w1.alloc (.cells #[.slice Ao l.length co] 25)) fun e w' =>
      e = .returned (.tuple #[.int .i64 (firstE (fun n => decide (askKeys ns m l n).Nodup) 401).1, .int .i64 (firstE (fun n => decide (askKeys ns m l n).Nodup) 401).2]) ∧ Below w1.heap.size w1 w' := by
  have b3 := Boxed.new w1 25 (.slice Ao l.length co)
  have d1 := b1.alloc (.cells #[.slice Ao l.length co] 25)
  have d2 := b2.alloc (.cells #[.slice Ao l.length co] 25)
  have hI2 := ilt hI ((Below.refl _ w1).alloc (Nat.le_refl _) (.cells #[.slice Ao l.length co] 25))
  refine (first3_any 157 w1.heap.size bc bn 401 (by omega) (fun n => decide (askKeys ns m l n).Nodup) (w1.alloc (.cells #[.slice Ao l.length co] 25)) (enters_of Try.func157 (by kernel_rfl) rfl) (fun k W hk hW => ?_)).mono ?_
  · exact ask1S_any w1.heap.size bc bn b off c co k Ao ns l m hg hm (by omega) hl hl9 W (Nodes.lt (Nodes.alloc hN _) hW) (ilt hI2 hW) (boxed_ext hW b3) (boxed_ext hW d1) (boxed_ext hW d2)
  · rintro e w' ⟨he, hb⟩
    exact ⟨he, ((Below.refl _ w1).alloc (Nat.le_refl _) _).trans (hb.mono (by simp))⟩

set_option maxRecDepth 100000 in
set_option maxHeartbeats 4000000 in
theorem ask_ok (A A2 : Option Addr) (c c2 : Nat) (ns ps : List Node) (node : Int) (hn : ns.length ≤ 1000) (hp : ps.length ≤ 1000) (w : World) (hN : Nodes w w.heap.size A ns) (hP : Nodes w w.heap.size A2 ps) :
    Calls Try.prog 102 #[.agg #[.slice A ns.length c], .int .i64 node, .slice A2 ps.length c2] w fun e w' => e = .returned (.tuple #[.int .i64 (askS ns node ps).1, .int .i64 (askS ns node ps).2]) ∧ Below w.heap.size w w' := by
  obtain ⟨W0, hW0⟩ : ∃ W0, (w.alloc (.cells #[.slice A ns.length c] 76)).alloc (.cells #[.int .i64 node] 3) = W0 := ⟨_, rfl⟩
  have b1 : Boxed W0 w.heap.size 76 (.slice A ns.length c) := by rw [← hW0]; exact (Boxed.new _ _ _).alloc _
  have b2 : Boxed W0 (w.heap.size + 1) 3 (.int .i64 node) := by
    have := Boxed.new (w.alloc (.cells #[.slice A ns.length c] 76)) 3 (.int .i64 node)
    rw [← hW0]; simpa only [World.size_alloc] using this
  have hB0 : Below w.heap.size w W0 := by rw [← hW0]; exact ((Below.refl _ w).alloc (Nat.le_refl _) _).alloc (by simp) _
  have hN0 : Nodes W0 W0.heap.size A ns := Nodes.lt hN hB0
  have hP0 : Nodes W0 W0.heap.size A2 ps := Nodes.lt hP hB0
  have l1 := b1.cell
  have l2 := b2.cell
  have HWt := Lib.hid (weights_ok A A2 c c2 ns ps node hn hp W0 hN0 hP0)
  clear hP0 hP hN
  rcases err_cases (wtsR ns node ps) with hz | ⟨hne, hneb⟩
  · obtain ⟨h1, h2⟩ := wtsR_zero hz
    obtain ⟨hg, hm0, hm, _, _⟩ := wtsE_zero h1
    obtain ⟨m, rfl⟩ : ∃ m : Nat, node = m := ⟨node.toNat, by omega⟩
    have hm' : m < ns.length := by omega
    obtain ⟨b, off, hA, _⟩ := hN0.at_ (GoodC.at_ hm')
    subst hA
    have hzb : (wtsR ns m ps != 0) = false := by rw [hz]; rfl
    have hlen : (wtsV ns m ps).length ≤ 10 := by rw [h2]; exact wtsTo_len _ _ _ 10
    have hl9 : ∀ x ∈ wtsV ns m ps, 0 ≤ x ∧ x ≤ 9 := fun x hx => by
      rw [h2] at hx
      have := wtsTo_bd _ _ _ 10 x hx
      omega
    by_cases hl1 : (wtsV ns m ps).length = 1
    · have HS := Lib.hid (show askS ns m ps = (0, 0) from by unfold askS; rw [if_neg (by rw [hz]; simp), if_pos hl1])
      have hlb : (((wtsV ns m ps).length : Int) == 1) = true := by simp only [beq_iff_eq]; omega
      have HZ := Lib.hid hz
      clear hz h1 h2 hl1
      go_enter Try.func102, Try.ntmps102
      go_wp2_with (go_at_call 101; go_must (refine HWt.out.mono ?_; rintro e w1 ⟨Ao, co, rfl, hI, hb1⟩))
      clear hW0
      go_ret2
      exact ⟨by rw [HS.out, HZ.out]; rfl, hb0to hB0 (hb1.trans ((Below.refl _ w1).alloc hb1.size _))⟩
    · have HS := Lib.hid (show askS ns m ps = firstE (fun n => decide (askKeys ns m (wtsV ns m ps) n).Nodup) 401 from by unfold askS; rw [if_neg (by rw [hz]; simp), if_neg hl1]; rfl)
      have hlb : (((wtsV ns m ps).length : Int) == 1) = false := by rw [beq_eq_false_iff_ne]; omega
      have HZ := Lib.hid hz
      clear hz h1 h2 hl1
      go_enter Try.func102, Try.ntmps102
      go_wp2_with (first
        | (go_at_call 101; go_must (refine HWt.out.mono ?_; rintro e w1 ⟨Ao, co, rfl, hI, hb1⟩))
        | (go_at_call 148; go_must (refine (ask_again b off c ns (wtsV ns m ps) m hg hm' hlen hl9 w1 Ao co w.heap.size (w.heap.size + 1) (Nodes.lt hN0 hb1) hI (boxed_ext hb1 b1) (boxed_ext hb1 b2)).mono ?_; rintro e w2 ⟨rfl, hb2⟩)))
      clear hW0
      go_ret2
      exact ⟨by rw [HS.out]; rfl, hb0to hB0 (hb1.trans (hb2.mono hb1.size))⟩
  · have HS := Lib.hid (show askS ns node ps = (0, wtsR ns node ps) from if_pos hne)
    go_enter Try.func102, Try.ntmps102
    go_wp2_with (go_at_call 101; go_must (refine HWt.out.mono ?_; rintro e w1 ⟨Ao, co, rfl, hI, hb1⟩))
    clear hW0
    go_ret2
    exact ⟨by rw [HS.out]; rfl, hb0to hB0 (hb1.trans ((Below.refl _ w1).alloc hb1.size _))⟩
end Go.Proofs.Ytmbcpmnigggbaaa.Sh
