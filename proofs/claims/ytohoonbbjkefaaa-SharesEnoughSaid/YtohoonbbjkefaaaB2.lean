import Derived.Test.YtohoonbbjkefaaaM3
namespace Go.Proofs.Ytohoonbbjkefaaa
open Go.RowKit

theorem share_good (c : Nat) (A : Option Addr) {ns : List Node} {pence : Int} (h : GoodC ns) (hp : 0 ≤ pence) (hp4 : pence ≤ 400) (w : World) (hN : Nodes w w.heap.size A ns) :
    Calls Try.prog 84 #[.agg #[.slice A ns.length c], .int .i64 pence] w fun e w' => ∃ gb kb, e = .returned (.tuple #[.slice (some ⟨gb, 0, none⟩) ns.length ns.length, .slice (some ⟨kb, 0, none⟩) ns.length ns.length]) ∧
      w.heap.size ≤ gb ∧ w.heap.size ≤ kb ∧ gb ≠ kb ∧ Row w' gb (gotsS ns pence) ∧ Row w' kb (keptsS ns pence) ∧ Below w.heap.size w w' := by
  have := share_any c A ns pence h.ok h.l1 h.l8 w hN (shTo_bd h hp hp4)
  rw [shTo_gots h hp, shTo_kepts h hp] at this
  exact this
theorem gotsS_len (ns : List Node) (p : Int) : (gotsS ns p).length = ns.length := by simp [gotsS]
theorem keptsS_len (ns : List Node) (p : Int) : (keptsS ns p).length = ns.length := by simp [keptsS]
theorem gotsS_at {ns : List Node} {p : Int} {n : Nat} (hn : n < ns.length) : (gotsS ns p)[n]?.getD 0 = gotS ns p n := by simp [gotsS, hn]
theorem keptsS_at {ns : List Node} {p : Int} {n : Nat} (hn : n < ns.length) : (keptsS ns p)[n]?.getD 0 = keptS ns p n := by simp [keptsS, hn]

theorem Nodes.lt {W W' : World} {A : Option Addr} {ns : List Node} (h : Nodes W W.heap.size A ns) (hb : Below W.heap.size W W') : Nodes W' W'.heap.size A ns := (h.below hb).more hb.size
theorem Nodes.alloc {W : World} {A : Option Addr} {ns : List Node} (h : Nodes W W.heap.size A ns) (o : Obj) : Nodes (W.alloc o) (W.alloc o).heap.size A ns := Nodes.lt h ((Below.refl _ W).alloc (Nat.le_refl _) o)

set_option maxHeartbeats 1000000 in
theorem gets_any (c : Nat) (A : Option Addr) {ns : List Node} {pence : Int} (n : Nat) (h : GoodC ns) (hn : n < ns.length) (hp : 0 ≤ pence) (hp4 : pence ≤ 400) (w : World) (hN : Nodes w w.heap.size A ns) :
    Calls Try.prog 65 #[.agg #[.slice A ns.length c], .int .i64 n, .int .i64 pence] w fun e w' => e = .returned (.int .i64 (gotS ns pence n)) ∧ Below w.heap.size w w' := by
  have l8 := h.l8
  have hs := share_good c A h hp hp4 (w.alloc (.cells #[.slice A ns.length c] 80)) (Nodes.alloc hN _)
  have Hs := Lib.hid hs
  have e := gotsS_at (p := pence) hn
  have E := Lib.hid e
  have L := Lib.hid (gotsS_len ns pence)
  clear hs e
  go_enter Try.func65, Try.ntmps65
  go_wp2_with (go_at_call 84; refine Hs.out.mono ?_; rintro e w1 ⟨gb, kb, rfl, h1, h2, h3, h4, h5, h6⟩; have k1 := h4.cell (k := n) (by rw [L.out]; exact hn))
  go_ret
  exact ⟨by rw [← E.out]; rfl, ((Below.refl _ w).alloc (Nat.le_refl _) _).trans (h6.mono (by simp))⟩

set_option maxHeartbeats 1000000 in
/-- From's question: does the node get so many? -/
theorem from1_any (pc pn pq c : Nat) (A : Option Addr) {ns : List Node} (n : Nat) (coins : Int) (k : Nat) (h : GoodC ns) (hn : n < ns.length) (hk : k ≤ 400) (w : World) (hN : Nodes w w.heap.size A ns)
    (b1 : Boxed w pc 24 (.slice A ns.length c)) (b2 : Boxed w pn 3 (.int .i64 n)) (b3 : Boxed w pq 3 (.int .i64 coins)) :
    Calls Try.prog 64 #[.int .i64 k, .pointer (some ⟨pc, 0, none⟩), .pointer (some ⟨pn, 0, none⟩), .pointer (some ⟨pq, 0, none⟩)] w fun e w' => e = .returned (.bool (decide (coins ≤ gotS ns k n))) ∧ Below w.heap.size w w' := by
  have l1 := extB_cell b1.cell
  have l2 := extB_cell b2.cell
  have l3 := extB_cell b3.cell
  go_enter Try.func64, Try.ntmps64
  go_wp2
  refine wp_region_ext (by kernel_rfl) (by kernel_rfl) ?_
  repeat (go_big_quiet_step ((go_at_call 65; exact ext_call (gets_any c A n h hn (by omega) (by omega) _ (Nodes.lt hN (extB_below _ _))))))
  refine wpQuiet_nil ?_
  rintro _ ⟨x1, rfl⟩
  have hb := extB_below w x1
  go_wp2
  go_ret
  exact ⟨rfl, hb⟩

set_option maxHeartbeats 1000000 in
/-- Falls's question: does it get more than of one more? -/
theorem falls1_any (pc pn c : Nat) (A : Option Addr) {ns : List Node} (n : Nat) (k : Nat) (h : GoodC ns) (hn : n < ns.length) (hk : k < 400) (w : World) (hN : Nodes w w.heap.size A ns)
    (b1 : Boxed w pc 80 (.slice A ns.length c)) (b2 : Boxed w pn 3 (.int .i64 n)) :
    Calls Try.prog 68 #[.int .i64 k, .pointer (some ⟨pc, 0, none⟩), .pointer (some ⟨pn, 0, none⟩)] w fun e w' => e = .returned (.bool (decide (gotS ns (k + 1) n < gotS ns k n))) ∧ Below w.heap.size w w' := by
  have l1 := extB_cell b1.cell
  have l2 := extB_cell b2.cell
  go_enter Try.func68, Try.ntmps68
  go_wp2
  refine wp_region_ext (by kernel_rfl) (by kernel_rfl) ?_
  repeat (go_big_quiet_step ((go_at_call 65; exact ext_call (gets_any c A n h hn (by omega) (by omega) _ (Nodes.lt hN (extB_below _ _))))))
  refine wpQuiet_nil ?_
  rintro _ ⟨x1, rfl⟩
  have hb := extB_below w x1
  go_wp2
  go_ret
  exact ⟨rfl, hb⟩

/-- The least number below another one of which something is so. -/
def firstE (p : Nat → Bool) (n : Nat) : Int × Int := match (List.range n).find? p with | some k => ((k : Int), 0) | none => (0, 3)
theorem firstE_hit {p : Nat → Bool} {n k : Nat} (hk : k < n) (h : ∀ j, j < k → p j = false) (hp : p k = true) : firstE p n = ((k : Int), 0) := by
  have : (List.range n).find? p = some k := by
    rw [List.find?_eq_some_iff_append]
    refine ⟨hp, List.range k, (List.range' (k + 1) (n - (k + 1))), ?_, fun a ha => by simp [h a (List.mem_range.1 ha)]⟩
    obtain ⟨d, rfl⟩ : ∃ d, n = k + (d + 1) := ⟨n - (k + 1), by omega⟩
    rw [show k + (d + 1) - (k + 1) = d by omega, List.range_eq_range', List.range_eq_range', ← List.range'_append_1, List.range'_succ]
    simp
  rw [firstE, this]
theorem firstE_none {p : Nat → Bool} {n : Nat} (h : ∀ j, j < n → p j = false) : firstE p n = (0, 3) := by
  have : (List.range n).find? p = none := by
    rw [List.find?_eq_none]
    intro j hj
    simp [h j (List.mem_range.1 hj)]
  rw [firstE, this]

set_option maxHeartbeats 1000000 in
theorem first2_any (gf p0 p1 m : Nat) (hm : m ≤ 1000) (p : Nat → Bool) (w : World) (eg : ∀ args w, (callFunc gf args).run Try.prog w = .ok (.enter gf args) w)
    (hf : ∀ (k : Nat) (W : World), k < m → Below w.heap.size w W → Calls Try.prog gf #[.int .i64 k, .pointer (some ⟨p0, 0, none⟩), .pointer (some ⟨p1, 0, none⟩)] W fun e w' => e = .returned (.bool (p k)) ∧ Below W.heap.size W w') :
    Calls Try.prog 63 #[.int .i64 m, .func (.func gf) #[] #[.pointer (some ⟨p0, 0, none⟩), .pointer (some ⟨p1, 0, none⟩)]] w fun e w' => e = .returned (.tuple #[.int .i64 (firstE p m).1, .int .i64 (firstE p m).2]) ∧ Below w.heap.size w w' := by
  have HF := Lib.hid hf
  clear hf
  go_enter Try.func63, Try.ntmps63
  go_wp2
  go_loopw [6, 8] (fun _ i wr => ∃ k : Nat, k ≤ m ∧ i = .int .i64 k ∧ Hid (∀ j, j < k → p j = false) ∧ Below w.heap.size w wr) (fun _ i _ => m - (intOf i).toNat)
  case atStart => exact ⟨0, Nat.zero_le _, rfl, Lib.hid (fun j hj => by omega), Below.refl _ _⟩
  case round =>
    obtain ⟨k, hk, rfl, HK, hb⟩ := hrel
    by_cases hlt : k < m
    · cases hp : p k
      all_goals
        have hc := HF.out k wr hlt hb
        rw [hp] at hc
        have HC := Lib.hid hc
        have HP := Lib.hid hp
        clear hc hp
        go_wp2_with (refine HC.out.mono ?_; rintro e w1 ⟨rfl, hb1⟩)
      · go_roundw
        case rel => exact ⟨k + 1, by omega, by go_num, Lib.hid (fun j hj => by
            by_cases e : j = k
            · rw [e]; exact HP.out
            · exact HK.out j (by omega)), hb.trans (hb1.mono hb.size)⟩
        case measure => simp [intOf]; omega
      · go_ret2
        exact ⟨by rw [firstE_hit hlt HK.out HP.out]; rfl, hb.trans (hb1.mono hb.size)⟩
    · obtain rfl : k = m := by omega
      go_wp2
      go_ret2
      exact ⟨by rw [firstE_none HK.out]; rfl, hb⟩

set_option maxHeartbeats 1000000 in
theorem first3_any (gf p0 p1 p2 m : Nat) (hm : m ≤ 1000) (p : Nat → Bool) (w : World) (eg : ∀ args w, (callFunc gf args).run Try.prog w = .ok (.enter gf args) w)
    (hf : ∀ (k : Nat) (W : World), k < m → Below w.heap.size w W → Calls Try.prog gf #[.int .i64 k, .pointer (some ⟨p0, 0, none⟩), .pointer (some ⟨p1, 0, none⟩), .pointer (some ⟨p2, 0, none⟩)] W fun e w' => e = .returned (.bool (p k)) ∧ Below W.heap.size W w') :
    Calls Try.prog 63 #[.int .i64 m, .func (.func gf) #[] #[.pointer (some ⟨p0, 0, none⟩), .pointer (some ⟨p1, 0, none⟩), .pointer (some ⟨p2, 0, none⟩)]] w fun e w' => e = .returned (.tuple #[.int .i64 (firstE p m).1, .int .i64 (firstE p m).2]) ∧ Below w.heap.size w w' := by
  have HF := Lib.hid hf
  clear hf
  go_enter Try.func63, Try.ntmps63
  go_wp2
  go_loopw [6, 8] (fun _ i wr => ∃ k : Nat, k ≤ m ∧ i = .int .i64 k ∧ Hid (∀ j, j < k → p j = false) ∧ Below w.heap.size w wr) (fun _ i _ => m - (intOf i).toNat)
  case atStart => exact ⟨0, Nat.zero_le _, rfl, Lib.hid (fun j hj => by omega), Below.refl _ _⟩
  case round =>
    obtain ⟨k, hk, rfl, HK, hb⟩ := hrel
    by_cases hlt : k < m
    · cases hp : p k
      all_goals
        have hc := HF.out k wr hlt hb
        rw [hp] at hc
        have HC := Lib.hid hc
        have HP := Lib.hid hp
        clear hc hp
        go_wp2_with (refine HC.out.mono ?_; rintro e w1 ⟨rfl, hb1⟩)
      · go_roundw
        case rel => exact ⟨k + 1, by omega, by go_num, Lib.hid (fun j hj => by
            by_cases e : j = k
            · rw [e]; exact HP.out
            · exact HK.out j (by omega)), hb.trans (hb1.mono hb.size)⟩
        case measure => simp [intOf]; omega
      · go_ret2
        exact ⟨by rw [firstE_hit hlt HK.out HP.out]; rfl, hb.trans (hb1.mono hb.size)⟩
    · obtain rfl : k = m := by omega
      go_wp2
      go_ret2
      exact ⟨by rw [firstE_none HK.out]; rfl, hb⟩
end Go.Proofs.Ytohoonbbjkefaaa
