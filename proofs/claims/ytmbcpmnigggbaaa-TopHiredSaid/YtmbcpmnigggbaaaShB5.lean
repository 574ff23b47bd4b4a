import Derived.Test.YtmbcpmnigggbaaaShM3
namespace Go.Proofs.Ytmbcpmnigggbaaa.Sh
open Go.RowKit

theorem share_good (c : Nat) (A : Option Addr) {ns : List Node} {pence : Int} (h : GoodC ns) (hp : 0 ≤ pence) (hp4 : pence ≤ 400) (w : World) (hN : Nodes w w.heap.size A ns) :
    Calls Try.prog 109 #[.agg #[.slice A ns.length c], .int .i64 pence] w fun e w' => ∃ gb kb, e = .returned (.tuple #[.slice (some ⟨gb, 0, none⟩) ns.length ns.length, .slice (some ⟨kb, 0, none⟩) ns.length ns.length]) ∧
      w.heap.size ≤ gb ∧ w.heap.size ≤ kb ∧ gb ≠ kb ∧ Row w' gb (gotsS ns pence) ∧ Row w' kb (keptsS ns pence) ∧ Below w.heap.size w w' := by
  have := share_any c A ns pence h.ok h.l1 h.l8 w hN (shTo_bd h hp hp4)
  rw [shTo_gots h hp, shTo_kepts h hp] at this
  exact this
theorem gotsS_len (ns : List Node) (p : Int) : (gotsS ns p).length = ns.length := by simp [gotsS]
theorem keptsS_len (ns : List Node) (p : Int) : (keptsS ns p).length = ns.length := by simp [keptsS]
theorem gotsS_at {ns : List Node} {p : Int} {n : Nat} (hn : n < ns.length) : (gotsS ns p)[n]?.getD 0 = gotS ns p n := by simp [gotsS, hn]
theorem Nodes.lt {W W' : World} {A : Option Addr} {ns : List Node} (h : Nodes W W.heap.size A ns) (hb : Below W.heap.size W W') : Nodes W' W'.heap.size A ns := (h.below hb).more hb.size
theorem Nodes.alloc {W : World} {A : Option Addr} {ns : List Node} (h : Nodes W W.heap.size A ns) (o : Obj) : Nodes (W.alloc o) (W.alloc o).heap.size A ns := Nodes.lt h ((Below.refl _ W).alloc (Nat.le_refl _) o)

set_option maxHeartbeats 1000000 in
theorem gets_any (c : Nat) (A : Option Addr) {ns : List Node} {pence : Int} (n : Nat) (h : GoodC ns) (hn : n < ns.length) (hp : 0 ≤ pence) (hp4 : pence ≤ 400) (w : World) (hN : Nodes w w.heap.size A ns) :
    Calls Try.prog 150 #[.agg #[.slice A ns.length c], .int .i64 n, .int .i64 pence] w fun e w' => e = .returned (.int .i64 (gotS ns pence n)) ∧ Below w.heap.size w w' := by
  have l8 := h.l8
  have hs := share_good c A h hp hp4 (w.alloc (.cells #[.slice A ns.length c] 155)) (Nodes.alloc hN _)
  have Hs := Lib.hid hs
  have e := gotsS_at (p := pence) hn
  have E := Lib.hid e
  have L := Lib.hid (gotsS_len ns pence)
  clear hs e
  go_enter Try.func150, Try.ntmps150
  go_wp2_with (go_at_call 109; refine Hs.out.mono ?_; rintro e w1 ⟨gb, kb, rfl, h1, h2, h3, h4, h5, h6⟩; have k1 := h4.cell (k := n) (by rw [L.out]; exact hn))
  go_ret
  exact ⟨by rw [← E.out]; rfl, ((Below.refl _ w).alloc (Nat.le_refl _) _).trans (h6.mono (by simp))⟩

set_option maxHeartbeats 1000000 in
/-- From's question: does the node get so many? -/
theorem from1_any (pc pn pq c : Nat) (A : Option Addr) {ns : List Node} (n : Nat) (coins : Int) (k : Nat) (h : GoodC ns) (hn : n < ns.length) (hk : k ≤ 400) (w : World) (hN : Nodes w w.heap.size A ns)
    (b1 : Boxed w pc 76 (.slice A ns.length c)) (b2 : Boxed w pn 3 (.int .i64 n)) (b3 : Boxed w pq 3 (.int .i64 coins)) :
    Calls Try.prog 149 #[.int .i64 k, .pointer (some ⟨pc, 0, none⟩), .pointer (some ⟨pn, 0, none⟩), .pointer (some ⟨pq, 0, none⟩)] w fun e w' => e = .returned (.bool (decide (coins ≤ gotS ns k n))) ∧ Below w.heap.size w w' := by
  have l1 := extB_cell b1.cell
  have l2 := extB_cell b2.cell
  have l3 := extB_cell b3.cell
  go_enter Try.func149, Try.ntmps149
  go_wp2
  refine wp_region_ext (by kernel_rfl) (by kernel_rfl) ?_
  repeat (go_big_quiet_step ((go_at_call 150; exact ext_call (gets_any c A n h hn (by omega) (by omega) _ (Nodes.lt hN (extB_below _ _))))))
  refine wpQuiet_nil ?_
  rintro _ ⟨x1, rfl⟩
  have hb := extB_below w x1
  go_wp2
  go_ret
  exact ⟨rfl, hb⟩

set_option maxHeartbeats 1000000 in
/-- Falls's question: does it get more than of one more? -/
theorem falls1_any (pc pn c : Nat) (A : Option Addr) {ns : List Node} (n : Nat) (k : Nat) (h : GoodC ns) (hn : n < ns.length) (hk : k < 400) (w : World) (hN : Nodes w w.heap.size A ns)
    (b1 : Boxed w pc 155 (.slice A ns.length c)) (b2 : Boxed w pn 3 (.int .i64 n)) :
    Calls Try.prog 151 #[.int .i64 k, .pointer (some ⟨pc, 0, none⟩), .pointer (some ⟨pn, 0, none⟩)] w fun e w' => e = .returned (.bool (decide (gotS ns (k + 1) n < gotS ns k n))) ∧ Below w.heap.size w w' := by
  have l1 := extB_cell b1.cell
  have l2 := extB_cell b2.cell
  go_enter Try.func151, Try.ntmps151
  go_wp2
  refine wp_region_ext (by kernel_rfl) (by kernel_rfl) ?_
  repeat (go_big_quiet_step ((go_at_call 150; exact ext_call (gets_any c A n h hn (by omega) (by omega) _ (Nodes.lt hN (extB_below _ _))))))
  refine wpQuiet_nil ?_
  rintro _ ⟨x1, rfl⟩
  have hb := extB_below w x1
  go_wp2
  go_ret
  exact ⟨rfl, hb⟩

/-- The least number below another one of which something is so. -/
def firstE (p : Nat → Bool) (n : Nat) : Int × Int := match (List.range n).find? p with | some k => ((k : Int), 0) | none => (0, 3)
theorem firstE_hit {p : Nat → Bool} {n k : Nat} (hk : k < n) (h : ∀ j, j < k → p j = false) (hp : p k = true) : firstE p n = ((k : Int), 0) := by
  have : (List.range n).find? p = some k := by
    rw [List.find?_eq_some_iff_append]
    refine ⟨hp, List.range k, (List.range' (k + 1) (n - (k + 1))), ?_, fun a ha => by simp [h a (List.mem_range.1 ha)]⟩
    obtain ⟨d, rfl⟩ : ∃ d, n = k + (d + 1) := ⟨n - (k + 1), by omega⟩
    rw [show k + (d + 1) - (k + 1) = d by omega, List.range_eq_range', List.range_eq_range', ← List.range'_append_1, List.range'_succ]
    simp
  rw [firstE, this]
theorem firstE_none {p : Nat → Bool} {n : Nat} (h : ∀ j, j < n → p j = false) : firstE p n = (0, 3) := by
  have : (List.range n).find? p = none := by
    rw [List.find?_eq_none]
    intro j hj
    simp [h j (List.mem_range.1 hj)]
  rw [firstE, this]

set_option maxHeartbeats 1000000 in
theorem first2_any (gf p0 p1 m : Nat) (hm : m ≤ 1000) (p : Nat → Bool) (w : World) (eg : ∀ args w, (callFunc gf args).run Try.prog w = .ok (.enter gf args) w)
    (hf : ∀ (k : Nat) (W : World), k < m → Below w.heap.size w W → Calls Try.prog gf #[.int .i64 k, .pointer (some ⟨p0, 0, none⟩), .pointer (some ⟨p1, 0, none⟩)] W fun e w' => e = .returned (.bool (p k)) ∧ Below W.heap.size W w') :
    Calls Try.prog 148 #[.int .i64 m, .func (.func gf) #[] #[.pointer (some ⟨p0, 0, none⟩), .pointer (some ⟨p1, 0, none⟩)]] w fun e w' => e = .returned (.tuple #[.int .i64 (firstE p m).1, .int .i64 (firstE p m).2]) ∧ Below w.heap.size w w' := by
  have HF := Lib.hid hf
  clear hf
  go_enter Try.func148, Try.ntmps148
  go_wp2
  go_loopw [6, 8] (fun _ i wr => ∃ k : Nat, k ≤ m ∧ i = .int .i64 k ∧ Hid (∀ j, j < k → p j = false) ∧ Below w.heap.size w wr) (fun _ i _ => m - (intOf i).toNat)
  case atStart => exact ⟨0, Nat.zero_le _, rfl, Lib.hid (fun j hj => by omega), Below.refl _ _⟩
  case round =>
    obtain ⟨k, hk, rfl, HK, hb⟩ := hrel
    by_cases hlt : k < m
    · cases hp : p k
      all_goals
        have hc := HF.out k wr hlt hb
        rw [hp] at hc
        have HC := Lib.hid hc
        have HP := Lib.hid hp
        clear hc hp
        go_wp2_with (refine HC.out.mono ?_; rintro e w1 ⟨rfl, hb1⟩)
      · go_roundw
        case rel => exact ⟨k + 1, by omega, by go_num, Lib.hid (fun j hj => by
            by_cases e : j = k
            · rw [e]; exact HP.out
            · exact HK.out j (by omega)), hb.trans (hb1.mono hb.size)⟩
        case measure => simp [intOf]; omega
      · go_ret2
        exact ⟨by rw [firstE_hit hlt HK.out HP.out]; rfl, hb.trans (hb1.mono hb.size)⟩
    · obtain rfl : k = m := by omega
      go_wp2
      go_ret2
      exact ⟨by rw [firstE_none HK.out]; rfl, hb⟩

set_option maxHeartbeats 1000000 in
theorem first3_any (gf p0 p1 p2 m : Nat) (hm : m ≤ 1000) (p : Nat → Bool) (w : World) (eg : ∀ args w, (callFunc gf args).run Try.prog w = .ok (.enter gf args) w)
    (hf : ∀ (k : Nat) (W : World), k < m → Below w.heap.size w W → Calls Try.prog gf #[.int .i64 k, .pointer (some ⟨p0, 0, none⟩), .pointer (some ⟨p1, 0, none⟩), .pointer (some ⟨p2, 0, none⟩)] W fun e w' => e = .returned (.bool (p k)) ∧ Below W.heap.size W w') :
    Calls Try.prog 148 #[.int .i64 m, .func (.func gf) #[] #[.pointer (some ⟨p0, 0, none⟩), .pointer (some ⟨p1, 0, none⟩), .pointer (some ⟨p2, 0, none⟩)]] w fun e w' => e = .returned (.tuple #[.int .i64 (firstE p m).1, .int .i64 (firstE p m).2]) ∧ Below w.heap.size w w' := by
  have HF := Lib.hid hf
  clear hf
  go_enter Try.func148, Try.ntmps148
  go_wp2
  go_loopw [6, 8] (fun _ i wr => ∃ k : Nat, k ≤ m ∧ i = .int .i64 k ∧ Hid (∀ j, j < k → p j = false) ∧ Below w.heap.size w wr) (fun _ i _ => m - (intOf i).toNat)
  case atStart => exact ⟨0, Nat.zero_le _, rfl, Lib.hid (fun j hj => by omega), Below.refl _ _⟩
  case round =>
    obtain ⟨k, hk, rfl, HK, hb⟩ := hrel
    by_cases hlt : k < m
    · cases hp : p k
      all_goals
        have hc := HF.out k wr hlt hb
        rw [hp] at hc
        have HC := Lib.hid hc
        have HP := Lib.hid hp
        clear hc hp
        go_wp2_with (refine HC.out.mono ?_; rintro e w1 ⟨rfl, hb1⟩)
      · go_roundw
        case rel => exact ⟨k + 1, by omega, by go_num, Lib.hid (fun j hj => by
            by_cases e : j = k
            · rw [e]; exact HP.out
            · exact HK.out j (by omega)), hb.trans (hb1.mono hb.size)⟩
        case measure => simp [intOf]; omega
      · go_ret2
        exact ⟨by rw [firstE_hit hlt HK.out HP.out]; rfl, hb.trans (hb1.mono hb.size)⟩
    · obtain rfl : k = m := by omega
      go_wp2
      go_ret2
      exact ⟨by rw [firstE_none HK.out]; rfl, hb⟩
open Go.RowKit

/-- A payment of a custom of N nodes (Pence: u, Node: w, Coins: f). -/
def payOK (N : Nat) (p : Node) : Bool := inR p.u 0 400 && (inR p.w 0 (N - 1) && inR p.f 0 400)

set_option maxHeartbeats 1000000 in
theorem isPay_any (A : Option Addr) (N c : Nat) (hN : N ≤ 1000) (p : Node) (w : World) : Calls Try.prog 163 #[.agg #[.slice A N c], .agg #[.int .i64 p.u, .int .i64 p.w, .int .i64 p.f]] w fun e w' => e = .returned (.bool (payOK N p)) ∧ Below w.heap.size w w' := by
  cases h1 : inR p.u 0 400 <;> cases h2 : inR p.w 0 (N - 1) <;> cases h3 : inR p.f 0 400
  all_goals
    have HP := Lib.hid (show payOK N p = _ from by rw [payOK, h1, h2, h3])
    go_enter Try.func163, Try.ntmps163
    go_wp2_with (first
      | (go_at_call 108; refine (isPence_any _ _).mono ?_; rintro e w' ⟨rfl, rfl⟩)
      | (go_at_call 147; refine (isNode_any _ _ _ _ _ hN).mono ?_; rintro e w1 ⟨rfl, hb1⟩; have q2 := fun o : Nat => hb1.cell (p := ⟨w.heap.size + 1, o, none⟩) (by simp)))
    go_ret
    refine ⟨by rw [HP.out]; rfl, ?_⟩
    first
      | exact ((Below.refl _ _).alloc (Nat.le_refl _) _).alloc (by simp) _
      | exact (((Below.refl _ _).alloc (Nat.le_refl _) _).alloc (by simp) _).trans (hb1.mono (by simp; omega))

theorem ask1_any (pc N c : Nat) (hN : N ≤ 1000) (A : Option Addr) (p : Node) (w : World) (b1 : Boxed w pc 76 (.slice A N c)) :
    Calls Try.prog 162 #[.agg #[.int .i64 p.u, .int .i64 p.w, .int .i64 p.f], .pointer (some ⟨pc, 0, none⟩)] w fun e w' => e = .returned (.bool (!payOK N p)) ∧ Below w.heap.size w w' := by
  have c1 := (b1.alloc (.cells #[.int .i64 p.u, .int .i64 p.w, .int .i64 p.f] 148)).cell
  go_enter Try.func162, Try.ntmps162
  go_wp2_with (go_at_call 163; refine (isPay_any _ _ _ hN _ _).mono ?_; rintro e w1 ⟨rfl, hb1⟩)
  go_ret
  exact ⟨rfl, ((Below.refl _ w).alloc (Nat.le_refl _) _).trans (hb1.mono (by simp))⟩

/-- Where the first one stands of which something is so, or -1. -/
def IdxP (p : Node → Bool) (l : List Node) (r : Int) : Prop := decide (0 ≤ r) = l.any p

set_option maxHeartbeats 1000000 in
theorem indexPay_any (gf pb c : Nat) (A : Option Addr) (l : List Node) (hl : l.length ≤ 1000) (p : Node → Bool) (w : World) (hP : Nodes w w.heap.size A l) (eg : ∀ args w, (callFunc gf args).run Try.prog w = .ok (.enter gf args) w)
    (hf : ∀ (x : Node) (W : World), x ∈ l → Below w.heap.size w W → Calls Try.prog gf #[.agg #[.int .i64 x.u, .int .i64 x.w, .int .i64 x.f], .pointer (some ⟨pb, 0, none⟩)] W fun e w' => e = .returned (.bool (p x)) ∧ Below W.heap.size W w') :
    Calls Try.prog 187 #[.slice A l.length c, .func (.func gf) #[] #[.pointer (some ⟨pb, 0, none⟩)]] w fun e w' => ∃ r, e = .returned (.int .i64 r) ∧ IdxP p l r ∧ Below w.heap.size w w' := by
  have HF := Lib.hid hf
  have HPn := Lib.hid hP
  clear hf hP
  go_enter Try.func187, Try.ntmps187
  go_wp2
  go_loopw [5, 8] (fun _ i wr => ∃ k : Nat, k ≤ l.length ∧ i = .int .i64 k ∧ Hid (∀ x ∈ l.take k, p x = false) ∧ Below w.heap.size w wr) (fun _ i _ => l.length - (intOf i).toNat)
  case atStart => exact ⟨0, Nat.zero_le _, rfl, Lib.hid (fun j hj => by simp at hj), Below.refl _ _⟩
  case round =>
    obtain ⟨k, hk, rfl, HK, hb⟩ := hrel
    by_cases hlt : k < l.length
    · obtain ⟨x, hx⟩ : ∃ x, l[k]? = some x := ⟨_, List.getElem?_eq_getElem hlt⟩
      obtain ⟨b, off, rfl, hbb, c1, c2, c3⟩ := HPn.out.at_ hx
      have d1 := below_cell hb c1
      have d2 := below_cell hb c2
      have d3 := below_cell hb c3
      have hmem : x ∈ l := List.mem_of_getElem? hx
      have htk : l.take (k + 1) = l.take k ++ [x] := by rw [List.take_add_one, hx]; rfl
      have HT := Lib.hid htk
      clear hx c1 c2 c3 htk
      cases hp : p x
      all_goals
        have hc := HF.out x wr hmem hb
        rw [hp] at hc
        have HC := Lib.hid hc
        have HP := Lib.hid hp
        clear hc hp
        go_wp2_with (refine HC.out.mono ?_; rintro e w1 ⟨rfl, hb1⟩)
      · go_roundw
        case rel => exact ⟨k + 1, by omega, by go_num, Lib.hid (fun y hy => by
            rw [HT.out, List.mem_append] at hy
            rcases hy with hy | hy
            · exact HK.out y hy
            · rw [List.mem_singleton.1 hy]; exact HP.out), hb.trans (hb1.mono hb.size)⟩
        case measure => simp [intOf]; omega
      · go_ret
        refine ⟨k, rfl, ?_, hb.trans (hb1.mono hb.size)⟩
        rw [IdxP, List.any_eq_true.2 ⟨x, hmem, HP.out⟩]
        simp
    · obtain rfl : k = l.length := by omega
      go_wp2
      go_ret
      refine ⟨-1, rfl, ?_, hb⟩
      have : l.any p = false := by
        rw [List.any_eq_false]
        intro y hy
        rw [HK.out y (by rw [List.take_length]; exact hy)]
        simp
      rw [IdxP, this]
      rfl
theorem containsPay_any (gf pb c : Nat) (A : Option Addr) (l : List Node) (hl : l.length ≤ 1000) (p : Node → Bool) (w : World) (hP : Nodes w w.heap.size A l) (eg : ∀ args w, (callFunc gf args).run Try.prog w = .ok (.enter gf args) w)
    (hf : ∀ (x : Node) (W : World), x ∈ l → Below w.heap.size w W → Calls Try.prog gf #[.agg #[.int .i64 x.u, .int .i64 x.w, .int .i64 x.f], .pointer (some ⟨pb, 0, none⟩)] W fun e w' => e = .returned (.bool (p x)) ∧ Below W.heap.size W w') :
    Calls Try.prog 154 #[.slice A l.length c, .func (.func gf) #[] #[.pointer (some ⟨pb, 0, none⟩)]] w fun e w' => e = .returned (.bool (l.any p)) ∧ Below w.heap.size w w' := by
  have H := Lib.hid (indexPay_any gf pb c A l hl p w hP eg hf)
  clear hf hP eg
  go_enter Try.func154, Try.ntmps154
  go_wp2_with (go_at_call 187; refine H.out.mono ?_; rintro e w1 ⟨r, rfl, hr, hb1⟩; have HR := Lib.hid hr; clear hr)
  go_ret
  exact ⟨by rw [← HR.out]; rfl, hb1⟩

/-- The error of a custom that is asked for something, with payments. -/
def askE (ns : List Node) (is : Bool) (ps : List Node) : Int := if validB ns then (if 6 < ps.length then 2 else if is && ps.all (payOK ns.length) then 0 else 1) else 100

set_option maxHeartbeats 4000000 in
theorem ask_any (A A2 : Option Addr) (c c2 : Nat) (ns ps : List Node) (is : Bool) (hn : ns.length ≤ 1000) (hp : ps.length ≤ 1000) (w : World) (hN : Nodes w w.heap.size A ns) (hP : Nodes w w.heap.size A2 ps) :
    Calls Try.prog 107 #[.agg #[.slice A ns.length c], .bool is, .slice A2 ps.length c2] w fun e w' => e = .returned (.int .i64 (askE ns is ps)) ∧ Below w.heap.size w w' := by
  have hck := check_any A c ns hn (w.alloc (.cells #[.slice A ns.length c] 76)) (Nodes.alloc hN _)
  have HNa := Lib.hid (Nodes.alloc hP (.cells #[.slice A ns.length c] 76))
  have bC := Boxed.new w 76 (.slice A ns.length c)
  cases hv : validB ns
  · rw [ckE_no hv] at hck
    have HC := Lib.hid hck
    have HA := Lib.hid (show askE ns is ps = 100 from by rw [askE, hv]; rfl)
    clear hck hv
    go_enter Try.func107, Try.ntmps107
    go_wp2_with (go_at_call 105; refine HC.out.mono ?_; rintro e w1 ⟨rfl, hb1⟩)
    go_ret
    exact ⟨by rw [HA.out]; rfl, ((Below.refl _ w).alloc (Nat.le_refl _) _).trans (hb1.mono (by simp))⟩
  · rw [ckE_yes hv] at hck
    have HC := Lib.hid hck
    clear hck
    by_cases h6 : 6 < ps.length
    · have HA := Lib.hid (show askE ns is ps = 2 from by rw [askE, hv, if_pos rfl, if_pos h6])
      clear hv
      go_enter Try.func107, Try.ntmps107
      go_wp2_with (go_at_call 105; refine HC.out.mono ?_; rintro e w1 ⟨rfl, hb1⟩)
      go_ret
      exact ⟨by rw [HA.out]; rfl, ((Below.refl _ w).alloc (Nat.le_refl _) _).trans (hb1.mono (by simp))⟩
    · cases is
      · have HA := Lib.hid (show askE ns false ps = 1 from by rw [askE, hv, if_pos rfl, if_neg h6]; rfl)
        clear hv
        go_enter Try.func107, Try.ntmps107
        go_wp2_with (go_at_call 105; refine HC.out.mono ?_; rintro e w1 ⟨rfl, hb1⟩)
        go_ret
        exact ⟨by rw [HA.out]; rfl, ((Below.refl _ w).alloc (Nat.le_refl _) _).trans (hb1.mono (by simp))⟩
      · have hall : ps.any (fun p => !payOK ns.length p) = !ps.all (payOK ns.length) := by
          rw [List.not_all_eq_any_not]
        cases hq : ps.all (payOK ns.length)
        all_goals
          rw [hq] at hall
          have HALL := Lib.hid hall
          have HA := Lib.hid (show askE ns true ps = _ from by rw [askE, hv, if_pos rfl, if_neg h6, hq])
          clear hv hall hq
          go_enter Try.func107, Try.ntmps107
          go_wp2_with (first
            | (go_at_call 105; refine HC.out.mono ?_; rintro e w1 ⟨rfl, hb1⟩)
            | (go_at_call 154; refine (containsPay_any 162 w.heap.size c2 A2 ps hp (fun p => !payOK ns.length p) w1 (Nodes.lt HNa.out hb1) (enters_of Try.func162 (by kernel_rfl) rfl) (fun x W _ hW => ask1_any w.heap.size ns.length c hn A x W ((hW.block _ (Nat.lt_of_lt_of_le bC.lt hb1.size)).trans ((hb1.block _ bC.lt).trans bC)))).mono ?_; rintro e w2 ⟨rfl, hb2⟩; rw [HALL.out]))
          go_ret
          exact ⟨by rw [HA.out]; rfl, (((Below.refl _ w).alloc (Nat.le_refl _) _).trans (hb1.mono (by simp))).trans (hb2.mono (by have := hb1.size; simp at this; omega))⟩
open Go.RowKit

theorem askE_zero {ns ps : List Node} {is : Bool} (h : askE ns is ps = 0) : validB ns = true ∧ is = true ∧ ps.length ≤ 6 ∧ ps.all (payOK ns.length) = true := by
  unfold askE at h
  split at h
  · rename_i hv
    split at h
    · omega
    · split at h
      · rename_i h6 hc
        simp only [Bool.and_eq_true] at hc
        exact ⟨hv, hc.1, by omega, hc.2⟩
      · omega
  · omega
theorem isNode_is (A : Option Addr) (n c : Nat) (k : Int) (w : World) (hn : n ≤ 1000) (b : Bool) (hb : inR k 0 (n - 1) = b) : Calls Try.prog 147 #[.agg #[.slice A n c], .int .i64 k] w fun e w' => e = .returned (.bool b) ∧ Below w.heap.size w w' := by
  rw [← hb]; exact isNode_any A n c k w hn
theorem isPence_is (n : Int) (w : World) (b : Bool) (hb : inR n 0 400 = b) : Calls Try.prog 108 #[.int .i64 n] w fun e w' => e = .returned (.bool b) ∧ w = w' := by
  rw [← hb]; exact isPence_any n w
theorem ask_is (A A2 : Option Addr) (c c2 : Nat) (ns ps : List Node) (is : Bool) (hn : ns.length ≤ 1000) (hp : ps.length ≤ 1000) (w : World) (hN : Nodes w w.heap.size A ns) (hP : Nodes w w.heap.size A2 ps) (e : Int) (he : askE ns is ps = e) :
    Calls Try.prog 107 #[.agg #[.slice A ns.length c], .bool is, .slice A2 ps.length c2] w fun x w' => x = .returned (.int .i64 e) ∧ Below w.heap.size w w' := by
  rw [← he]; exact ask_any A A2 c c2 ns ps is hn hp w hN hP
/-- An error, as a word of the walk. -/
theorem err_cases (e : Int) : e = 0 ∨ (e ≠ 0 ∧ (e != 0) = true) := by
  by_cases h : e = 0
  · exact .inl h
  · exact .inr ⟨h, by simpa using h⟩
def fromS (ns : List Node) (node coins : Int) : Int × Int :=
  if askE ns (inR node 0 (ns.length - 1) && inR coins 0 400) [] = 0 then firstE (fun k => decide (coins ≤ gotS ns k node.toNat)) 401 else (0, askE ns (inR node 0 (ns.length - 1) && inR coins 0 400) [])
theorem nodes_nil {W : World} {B : Nat} : Nodes W B none [] := .inl rfl

theorem hb0to {w W0 W1 : World} (h : Below w.heap.size w W0) (h1 : Below W0.heap.size W0 W1) : Below w.heap.size w W1 := h.trans (h1.mono h.size)
set_option maxRecDepth 100000 in
set_option maxHeartbeats 4000000 in
theorem from_any (A : Option Addr) (c : Nat) (ns : List Node) (node coins : Int) (hn : ns.length ≤ 1000) (w : World) (hN : Nodes w w.heap.size A ns) :
    Calls Try.prog 98 #[.agg #[.slice A ns.length c], .int .i64 node, .int .i64 coins] w fun e w' => e = .returned (.tuple #[.int .i64 (fromS ns node coins).1, .int .i64 (fromS ns node coins).2]) ∧ Below w.heap.size w w' := by
  obtain ⟨W0, hW0⟩ : ∃ W0, ((w.alloc (.cells #[.slice A ns.length c] 76)).alloc (.cells #[.int .i64 node] 3)).alloc (.cells #[.int .i64 coins] 3) = W0 := ⟨_, rfl⟩
  have b1 : Boxed W0 w.heap.size 76 (.slice A ns.length c) := by rw [← hW0]; exact ((Boxed.new _ _ _).alloc _).alloc _
  have b2 : Boxed W0 (w.heap.size + 1) 3 (.int .i64 node) := by
    have := (Boxed.new (w.alloc (.cells #[.slice A ns.length c] 76)) 3 (.int .i64 node)).alloc (.cells #[.int .i64 coins] 3)
    rw [← hW0]; simpa only [World.size_alloc] using this
  have b3 : Boxed W0 (w.heap.size + 1 + 1) 3 (.int .i64 coins) := by
    have := Boxed.new ((w.alloc (.cells #[.slice A ns.length c] 76)).alloc (.cells #[.int .i64 node] 3)) 3 (.int .i64 coins)
    rw [← hW0]; simpa only [World.size_alloc] using this
  have hB0 : Below w.heap.size w W0 := by rw [← hW0]; exact (((Below.refl _ w).alloc (Nat.le_refl _) _).alloc (by simp) _).alloc (by simp; omega) _
  have hN0 : Nodes W0 W0.heap.size A ns := Nodes.lt hN hB0
  have l1 := extB_cell b1.cell
  have l2 := extB_cell b2.cell
  have l3 := extB_cell b3.cell
  cases g1 : inR node 0 (ns.length - 1) <;> cases g2 : inR coins 0 400
  all_goals
    have G1 := Lib.hid g1
    have G2 := Lib.hid g2
    obtain ⟨is, his⟩ : ∃ is, (inR node 0 (ns.length - 1) && inR coins 0 400) = is := ⟨_, rfl⟩
    have his' := his
    rw [g1, g2] at his'
    simp only [Bool.and_true, Bool.and_false] at his'
    obtain ⟨ee, hee⟩ : ∃ ee, askE ns is [] = ee := ⟨_, rfl⟩
    subst his'
    rcases err_cases ee with rfl | ⟨hne, hneb⟩
    · have hs : fromS ns node coins = firstE (fun k => decide (coins ≤ gotS ns k node.toNat)) 401 := if_pos (by rw [his]; exact hee)
      have HS := Lib.hid hs
      obtain ⟨z1, z2, _, _⟩ := askE_zero hee
      have HE := Lib.hid hee
      clear hs his g1 g2 hee
      first
        | (exfalso; revert z2; decide)
        | (have hg := good_of z1
           obtain ⟨m, rfl⟩ : ∃ m : Nat, node = m := ⟨node.toNat, by have := (inR_true.1 G1.out).1; omega⟩
           have hm : m < ns.length := by have := (inR_true.1 G1.out).2; omega
           clear z1 z2
           go_enter Try.func98, Try.ntmps98
           go_wp2
           clear hW0
           refine wp_region_ext (by kernel_rfl) (by kernel_rfl) ?_
           repeat (go_big_quiet_step (first
             | (go_at_call 147; exact ext_call (isNode_is _ _ _ _ _ hn _ G1.out))
             | (go_at_call 108; exact ext_same (isPence_is _ _ _ G2.out))
             | (go_at_call 107; exact ext_call (ask_is _ none _ 0 ns [] _ hn (by simp) _ (Nodes.lt hN0 (extB_below _ _)) nodes_nil _ HE.out))))
           refine wpQuiet_nil ?_
           rintro _ ⟨x1, rfl⟩
           obtain ⟨W1, hW1⟩ : ∃ W1, extB W0 x1 = W1 := ⟨_, rfl⟩
           have hb1 := extB_below W0 x1
           rw [hW1] at hb1 ⊢
           clear hW1 l1 l2 l3
           have hb2 := hb0to hB0 hb1
           have HF := Lib.hid (first3_any 149 w.heap.size (w.heap.size + 1) (w.heap.size + 1 + 1) 401 (by omega) (fun k => decide (coins ≤ gotS ns k m)) W1 (enters_of Try.func149 (by kernel_rfl) rfl) (fun k W hk hW => from1_any w.heap.size (w.heap.size + 1) (w.heap.size + 1 + 1) c A m coins k hg hm (by omega) W (Nodes.lt hN0 (hb1.trans (hW.mono hb1.size)))
             ((hW.block _ (Nat.lt_of_lt_of_le b1.lt hb1.size)).trans ((hb1.block _ b1.lt).trans b1)) ((hW.block _ (Nat.lt_of_lt_of_le b2.lt hb1.size)).trans ((hb1.block _ b2.lt).trans b2)) ((hW.block _ (Nat.lt_of_lt_of_le b3.lt hb1.size)).trans ((hb1.block _ b3.lt).trans b3))))
           go_wp2_with (go_at_call 148; refine HF.out.mono ?_; rintro e w2 ⟨rfl, hb3⟩)
           go_ret2
           exact ⟨by rw [HS.out]; rfl, hb2.trans (hb3.mono (by have := hB0.size; have := hb1.size; omega))⟩)
    · have hs : fromS ns node coins = (0, ee) := by unfold fromS; rw [his, hee]; exact if_neg hne
      have HS := Lib.hid hs
      have HE := Lib.hid hee
      clear hs his g1 g2 hee
      go_enter Try.func98, Try.ntmps98
      go_wp2
      clear hW0
      refine wp_region_ext (by kernel_rfl) (by kernel_rfl) ?_
      repeat (go_big_quiet_step (first
        | (go_at_call 147; exact ext_call (isNode_is _ _ _ _ _ hn _ G1.out))
        | (go_at_call 108; exact ext_same (isPence_is _ _ _ G2.out))
        | (go_at_call 107; exact ext_call (ask_is _ none _ 0 ns [] _ hn (by simp) _ (Nodes.lt hN0 (extB_below _ _)) nodes_nil _ HE.out))))
      refine wpQuiet_nil ?_
      rintro _ ⟨x1, rfl⟩
      have hb1 := hb0to hB0 (extB_below W0 x1)
      go_wp2
      go_ret2
      exact ⟨by rw [HS.out]; rfl, hb1⟩
open Go.RowKit

def fallsS (ns : List Node) (node : Int) : Int × Int :=
  if askE ns (inR node 0 (ns.length - 1)) [] = 0 then firstE (fun k => decide (gotS ns (k + 1) node.toNat < gotS ns k node.toNat)) 400 else (0, askE ns (inR node 0 (ns.length - 1)) [])

theorem boxed_ext {w W : World} {b : Nat} {t : TypeId} {v : Value} (hb : Below w.heap.size w W) (h : Boxed w b t v) : Boxed W b t v := (hb.block _ h.lt).trans h

set_option maxRecDepth 100000 in
set_option maxHeartbeats 4000000 in
theorem falls_any (A : Option Addr) (c : Nat) (ns : List Node) (node : Int) (hn : ns.length ≤ 1000) (w : World) (hN : Nodes w w.heap.size A ns) :
    Calls Try.prog 99 #[.agg #[.slice A ns.length c], .int .i64 node] w fun e w' => e = .returned (.tuple #[.int .i64 (fallsS ns node).1, .int .i64 (fallsS ns node).2]) ∧ Below w.heap.size w w' := by
  obtain ⟨W0, hW0⟩ : ∃ W0, (w.alloc (.cells #[.slice A ns.length c] 76)).alloc (.cells #[.int .i64 node] 3) = W0 := ⟨_, rfl⟩
  have b1 : Boxed W0 w.heap.size 76 (.slice A ns.length c) := by rw [← hW0]; exact (Boxed.new _ _ _).alloc _
  have b2 : Boxed W0 (w.heap.size + 1) 3 (.int .i64 node) := by
    have := Boxed.new (w.alloc (.cells #[.slice A ns.length c] 76)) 3 (.int .i64 node)
    rw [← hW0]; simpa only [World.size_alloc] using this
  have hB0 : Below w.heap.size w W0 := by rw [← hW0]; exact ((Below.refl _ w).alloc (Nat.le_refl _) _).alloc (by simp) _
  have hN0 : Nodes W0 W0.heap.size A ns := Nodes.lt hN hB0
  have l1 := extB_cell b1.cell
  have l2 := extB_cell b2.cell
  cases g1 : inR node 0 (ns.length - 1)
  all_goals
    have G1 := Lib.hid g1
    obtain ⟨ee, hee⟩ : ∃ ee, askE ns (inR node 0 (ns.length - 1)) [] = ee := ⟨_, rfl⟩
    have hef := hee
    rw [g1] at hee
    rcases err_cases ee with rfl | ⟨hne, hneb⟩
    · have hs : fallsS ns node = firstE (fun k => decide (gotS ns (k + 1) node.toNat < gotS ns k node.toNat)) 400 := if_pos hef
      have HS := Lib.hid hs
      obtain ⟨z1, z2, _, _⟩ := askE_zero hee
      have HE := Lib.hid hee
      clear hs hef g1 hee
      first
        | (exfalso; revert z2; decide)
        | (have hg := good_of z1
           obtain ⟨m, rfl⟩ : ∃ m : Nat, node = m := ⟨node.toNat, by have := (inR_true.1 G1.out).1; omega⟩
           have hm : m < ns.length := by have := (inR_true.1 G1.out).2; omega
           clear z1 z2
           go_enter Try.func99, Try.ntmps99
           go_wp2
           clear hW0
           refine wp_region_ext (by kernel_rfl) (by kernel_rfl) ?_
           repeat (go_big_quiet_step (first
             | (go_at_call 147; exact ext_call (isNode_is _ _ _ _ _ hn _ G1.out))
             | (go_at_call 107; exact ext_call (ask_is _ none _ 0 ns [] _ hn (by simp) _ (Nodes.lt hN0 (extB_below _ _)) nodes_nil _ HE.out))))
           refine wpQuiet_nil ?_
           rintro _ ⟨x1, rfl⟩
           obtain ⟨W1, hW1⟩ : ∃ W1, extB W0 x1 = W1 := ⟨_, rfl⟩
           have hb1 := extB_below W0 x1
           have m1 := l1 x1
           have m2 := l2 x1
           rw [hW1] at hb1 m1 m2 ⊢
           clear hW1 l1 l2
           have hb2 := hb0to hB0 hb1
           have Hb1 := boxed_ext hb1 b1
           have Hb2 := boxed_ext hb1 b2
           have hN1 := Nodes.lt hN0 hb1
           have b3 := Boxed.new W1 155 (.slice A ns.length c)
           have Hb2a := Hb2.alloc (.cells #[.slice A ns.length c] 155)
           have HF := Lib.hid (first2_any 151 W1.heap.size (w.heap.size + 1) 400 (by omega) (fun k => decide (gotS ns (k + 1) m < gotS ns k m)) (W1.alloc (.cells #[.slice A ns.length c] 155)) (enters_of Try.func151 (by kernel_rfl) rfl) (fun k W hk hW => falls1_any W1.heap.size (w.heap.size + 1) c A m k hg hm hk W (Nodes.lt (Nodes.alloc hN1 _) hW)
             (boxed_ext hW b3) (boxed_ext hW Hb2a)))
           clear b3 Hb2a
           go_wp2_with (go_at_call 148; refine HF.out.mono ?_; rintro e w2 ⟨rfl, hb3⟩)
           go_ret2
           exact ⟨by rw [HS.out]; rfl, hb2.trans (((Below.refl _ W1).alloc (Nat.le_refl _) _).trans (hb3.mono (by simp)) |>.mono (by have := hB0.size; have := hb1.size; omega))⟩)
    · have hs : fallsS ns node = (0, ee) := by unfold fallsS; rw [hef]; exact if_neg hne
      have HS := Lib.hid hs
      have HE := Lib.hid hee
      clear hs hef g1 hee
      go_enter Try.func99, Try.ntmps99
      go_wp2
      clear hW0
      refine wp_region_ext (by kernel_rfl) (by kernel_rfl) ?_
      repeat (go_big_quiet_step (first
        | (go_at_call 147; exact ext_call (isNode_is _ _ _ _ _ hn _ G1.out))
        | (go_at_call 107; exact ext_call (ask_is _ none _ 0 ns [] _ hn (by simp) _ (Nodes.lt hN0 (extB_below _ _)) nodes_nil _ HE.out))))
      refine wpQuiet_nil ?_
      rintro _ ⟨x1, rfl⟩
      have hb1 := hb0to hB0 (extB_below W0 x1)
      go_wp2
      go_ret2
      exact ⟨by rw [HS.out]; rfl, hb1⟩

/-- The error of a custom asked for pence. -/
def penceE (ns : List Node) (p : Int) : Int := askE ns (inR p 0 400) []
theorem penceE_zero {ns : List Node} {p : Int} (h : penceE ns p = 0) : GoodC ns ∧ 0 ≤ p ∧ p ≤ 400 := by
  obtain ⟨z1, z2, _, _⟩ := askE_zero h
  exact ⟨good_of z1, (inR_true.1 z2).1, (inR_true.1 z2).2⟩

set_option maxRecDepth 100000 in
set_option maxHeartbeats 4000000 in
theorem getsAll_ok (A : Option Addr) (c : Nat) (ns : List Node) (p : Int) (hn : ns.length ≤ 1000) (w : World) (hN : Nodes w w.heap.size A ns) (hz : penceE ns p = 0) :
    Calls Try.prog 112 #[.agg #[.slice A ns.length c], .int .i64 p] w fun e w' => ∃ b, e = .returned (.tuple #[.slice (some ⟨b, 0, none⟩) ns.length ns.length, .int .i64 0]) ∧ w.heap.size ≤ b ∧ Row w' b (gotsS ns p) ∧ Below w.heap.size w w' := by
  obtain ⟨hg, hp0, hp4⟩ := penceE_zero hz
  obtain ⟨W0, hW0⟩ : ∃ W0, w.alloc (.cells #[.slice A ns.length c] 76) = W0 := ⟨_, rfl⟩
  have b1 : Boxed W0 w.heap.size 76 (.slice A ns.length c) := by rw [← hW0]; exact Boxed.new _ _ _
  have hB0 : Below w.heap.size w W0 := by rw [← hW0]; exact (Below.refl _ w).alloc (Nat.le_refl _) _
  have hN0 : Nodes W0 W0.heap.size A ns := Nodes.lt hN hB0
  have l1 := extB_cell b1.cell
  have g1 : inR p 0 400 = true := inR_true.2 ⟨hp0, hp4⟩
  have G1 := Lib.hid g1
  have HE : Hid (askE ns true [] = 0) := Lib.hid (by rw [← g1]; exact hz)
  clear hz g1
  go_enter Try.func112, Try.ntmps112
  go_wp2
  clear hW0
  refine wp_region_ext (by kernel_rfl) (by kernel_rfl) ?_
  repeat (go_big_quiet_step (first
    | (go_at_call 108; exact ext_same (isPence_is _ _ _ G1.out))
    | (go_at_call 107; exact ext_call (ask_is _ none _ 0 ns [] _ hn (by simp) _ (Nodes.lt hN0 (extB_below _ _)) nodes_nil _ HE.out))))
  refine wpQuiet_nil ?_
  rintro _ ⟨x1, rfl⟩
  obtain ⟨W1, hW1⟩ : ∃ W1, extB W0 x1 = W1 := ⟨_, rfl⟩
  have hb1 := extB_below W0 x1
  have m1 := l1 x1
  rw [hW1] at hb1 m1 ⊢
  clear hW1 l1
  have hb2 := hb0to hB0 hb1
  have hN1 := Nodes.lt hN0 hb1
  have HS := Lib.hid (share_good c A hg hp0 hp4 W1 hN1)
  go_wp2_with (go_at_call 109; refine HS.out.mono ?_; rintro e w1 ⟨gb, kb, rfl, h1, h2, h3, h4, h5, h6⟩)
  go_ret2
  exact ⟨_, rfl, by have := hb2.size; omega, h4, hb2.trans (h6.mono hb2.size)⟩
set_option maxRecDepth 100000 in
set_option maxHeartbeats 4000000 in
theorem getsAll_no (A : Option Addr) (c : Nat) (ns : List Node) (p : Int) (hn : ns.length ≤ 1000) (w : World) (hN : Nodes w w.heap.size A ns) (hz : penceE ns p ≠ 0) :
    Calls Try.prog 112 #[.agg #[.slice A ns.length c], .int .i64 p] w fun e w' => e = .returned (.tuple #[.slice none 0 0, .int .i64 (penceE ns p)]) ∧ Below w.heap.size w w' := by
  obtain ⟨ee, hee⟩ : ∃ ee, penceE ns p = ee := ⟨_, rfl⟩
  rw [hee] at hz ⊢
  have hz2 : (ee != 0) = true := by simpa using hz
  obtain ⟨W0, hW0⟩ : ∃ W0, w.alloc (.cells #[.slice A ns.length c] 76) = W0 := ⟨_, rfl⟩
  have b1 : Boxed W0 w.heap.size 76 (.slice A ns.length c) := by rw [← hW0]; exact Boxed.new _ _ _
  have hB0 : Below w.heap.size w W0 := by rw [← hW0]; exact (Below.refl _ w).alloc (Nat.le_refl _) _
  have hN0 : Nodes W0 W0.heap.size A ns := Nodes.lt hN hB0
  have l1 := extB_cell b1.cell
  cases g1 : inR p 0 400
  all_goals
    have G1 := Lib.hid g1
    rw [penceE, g1] at hee
    have HE := Lib.hid hee
    clear hee g1
    go_enter Try.func112, Try.ntmps112
    go_wp2
    clear hW0
    refine wp_region_ext (by kernel_rfl) (by kernel_rfl) ?_
    repeat (go_big_quiet_step (first
      | (go_at_call 108; exact ext_same (isPence_is _ _ _ G1.out))
      | (go_at_call 107; exact ext_call (ask_is _ none _ 0 ns [] _ hn (by simp) _ (Nodes.lt hN0 (extB_below _ _)) nodes_nil _ HE.out))))
    refine wpQuiet_nil ?_
    rintro _ ⟨x1, rfl⟩
    have hb1 := hb0to hB0 (extB_below W0 x1)
    go_wp2
    go_ret2
    exact ⟨rfl, hb1⟩

set_option maxRecDepth 100000 in
set_option maxHeartbeats 4000000 in
theorem keepsAll_ok (A : Option Addr) (c : Nat) (ns : List Node) (p : Int) (hn : ns.length ≤ 1000) (w : World) (hN : Nodes w w.heap.size A ns) (hz : penceE ns p = 0) :
    Calls Try.prog 43 #[.agg #[.slice A ns.length c], .int .i64 p] w fun e w' => ∃ b, e = .returned (.tuple #[.slice (some ⟨b, 0, none⟩) ns.length ns.length, .int .i64 0]) ∧ w.heap.size ≤ b ∧ Row w' b (keptsS ns p) ∧ Below w.heap.size w w' := by
  obtain ⟨hg, hp0, hp4⟩ := penceE_zero hz
  obtain ⟨W0, hW0⟩ : ∃ W0, w.alloc (.cells #[.slice A ns.length c] 76) = W0 := ⟨_, rfl⟩
  have b1 : Boxed W0 w.heap.size 76 (.slice A ns.length c) := by rw [← hW0]; exact Boxed.new _ _ _
  have hB0 : Below w.heap.size w W0 := by rw [← hW0]; exact (Below.refl _ w).alloc (Nat.le_refl _) _
  have hN0 : Nodes W0 W0.heap.size A ns := Nodes.lt hN hB0
  have l1 := extB_cell b1.cell
  have g1 : inR p 0 400 = true := inR_true.2 ⟨hp0, hp4⟩
  have G1 := Lib.hid g1
  have HE : Hid (askE ns true [] = 0) := Lib.hid (by rw [← g1]; exact hz)
  clear hz g1
  go_enter Try.func43, Try.ntmps43
  go_wp2
  clear hW0
  refine wp_region_ext (by kernel_rfl) (by kernel_rfl) ?_
  repeat (go_big_quiet_step (first
    | (go_at_call 108; exact ext_same (isPence_is _ _ _ G1.out))
    | (go_at_call 107; exact ext_call (ask_is _ none _ 0 ns [] _ hn (by simp) _ (Nodes.lt hN0 (extB_below _ _)) nodes_nil _ HE.out))))
  refine wpQuiet_nil ?_
  rintro _ ⟨x1, rfl⟩
  obtain ⟨W1, hW1⟩ : ∃ W1, extB W0 x1 = W1 := ⟨_, rfl⟩
  have hb1 := extB_below W0 x1
  have m1 := l1 x1
  rw [hW1] at hb1 m1 ⊢
  clear hW1 l1
  have hb2 := hb0to hB0 hb1
  have hN1 := Nodes.lt hN0 hb1
  have HS := Lib.hid (share_good c A hg hp0 hp4 W1 hN1)
  go_wp2_with (go_at_call 109; refine HS.out.mono ?_; rintro e w1 ⟨gb, kb, rfl, h1, h2, h3, h4, h5, h6⟩)
  go_ret2
  exact ⟨_, rfl, by have := hb2.size; omega, h5, hb2.trans (h6.mono hb2.size)⟩
set_option maxRecDepth 100000 in
set_option maxHeartbeats 4000000 in
theorem keepsAll_no (A : Option Addr) (c : Nat) (ns : List Node) (p : Int) (hn : ns.length ≤ 1000) (w : World) (hN : Nodes w w.heap.size A ns) (hz : penceE ns p ≠ 0) :
    Calls Try.prog 43 #[.agg #[.slice A ns.length c], .int .i64 p] w fun e w' => e = .returned (.tuple #[.slice none 0 0, .int .i64 (penceE ns p)]) ∧ Below w.heap.size w w' := by
  obtain ⟨ee, hee⟩ : ∃ ee, penceE ns p = ee := ⟨_, rfl⟩
  rw [hee] at hz ⊢
  have hz2 : (ee != 0) = true := by simpa using hz
  obtain ⟨W0, hW0⟩ : ∃ W0, w.alloc (.cells #[.slice A ns.length c] 76) = W0 := ⟨_, rfl⟩
  have b1 : Boxed W0 w.heap.size 76 (.slice A ns.length c) := by rw [← hW0]; exact Boxed.new _ _ _
  have hB0 : Below w.heap.size w W0 := by rw [← hW0]; exact (Below.refl _ w).alloc (Nat.le_refl _) _
  have hN0 : Nodes W0 W0.heap.size A ns := Nodes.lt hN hB0
  have l1 := extB_cell b1.cell
  cases g1 : inR p 0 400
  all_goals
    have G1 := Lib.hid g1
    rw [penceE, g1] at hee
    have HE := Lib.hid hee
    clear hee g1
    go_enter Try.func43, Try.ntmps43
    go_wp2
    clear hW0
    refine wp_region_ext (by kernel_rfl) (by kernel_rfl) ?_
    repeat (go_big_quiet_step (first
      | (go_at_call 108; exact ext_same (isPence_is _ _ _ G1.out))
      | (go_at_call 107; exact ext_call (ask_is _ none _ 0 ns [] _ hn (by simp) _ (Nodes.lt hN0 (extB_below _ _)) nodes_nil _ HE.out))))
    refine wpQuiet_nil ?_
    rintro _ ⟨x1, rfl⟩
    have hb1 := hb0to hB0 (extB_below W0 x1)
    go_wp2
    go_ret2
    exact ⟨rfl, hb1⟩
end Go.Proofs.Ytmbcpmnigggbaaa.Sh
