import Derived.Test.YtmbcpmnigggbaaaShM3
import Derived.Test.YtmbcpmnigggbaaaShB5
namespace Go.Proofs.Ytmbcpmnigggbaaa.Sh
/-- The weights of all nodes below a node, together. -/
def wsum (ns : List Node) (k : Nat) : Int := lSum ((kidsN ns k).map (nodeAt ns))
def upN (ns : List Node) (n : Nat) : Nat := (nodeAt ns n).u.toNat
/-- The part of a node as it is gathered on the way up; none: a sum on the way is 0. -/
def exGo (ns : List Node) : Nat → Nat → Int → Int → Option (Int × Int)
  | 0, _, num, den => some (num, den)
  | f + 1, n, num, den => if n = 0 then some (num, den) else if wsum ns (upN ns n) = 0 then none else exGo ns f (upN ns n) (num * (nodeAt ns n).w) (den * wsum ns (upN ns n))
/-- A fraction in lowest terms. -/
def redS (p : Int × Int) : Int × Int := (p.1 / (Int.gcd p.1 p.2 : Int), p.2 / (Int.gcd p.1 p.2 : Int))
def exactV (ns : List Node) (n : Nat) : Int × Int := match exGo ns n n 1 1 with | some p => redS p | none => (0, 1)

theorem exGo_more {ns : List Node} (h : GoodC ns) : ∀ (n f : Nat) (a b : Int), n < ns.length → n ≤ f → exGo ns f n a b = exGo ns n n a b := by
  intro n
  induction n using Nat.strongRecOn with
  | _ n ih =>
    intro f a b hn hf
    cases n with
    | zero => cases f <;> simp [exGo]
    | succ n =>
      obtain ⟨f, rfl⟩ : ∃ g, f = g + 1 := ⟨f - 1, by omega⟩
      have hu := (h.upN hn (by omega)).1
      simp only [exGo, if_neg (Nat.succ_ne_zero n)]
      split
      · rfl
      · have hu' : upN ns (n + 1) < n + 1 := hu
        rw [ih _ hu' f _ _ (by omega) (by omega), ih _ hu' n _ _ (by omega) (by omega)]
theorem exGo_up {ns : List Node} (h : GoodC ns) {n : Nat} (hn : n < ns.length) (h0 : 0 < n) (a b : Int) (hs : wsum ns (upN ns n) ≠ 0) :
    exGo ns n n a b = exGo ns (upN ns n) (upN ns n) (a * (nodeAt ns n).w) (b * wsum ns (upN ns n)) := by
  have hu : upN ns n < n := (h.upN hn h0).1
  obtain ⟨m, rfl⟩ : ∃ m, n = m + 1 := ⟨n - 1, by omega⟩
  conv => lhs; unfold exGo
  rw [if_neg (Nat.succ_ne_zero m), if_neg hs, exGo_more h _ m _ _ (by omega) (by omega)]
theorem exGo_none {ns : List Node} {n : Nat} (h0 : 0 < n) (a b : Int) (hs : wsum ns (upN ns n) = 0) : exGo ns n n a b = none := by
  obtain ⟨m, rfl⟩ : ∃ m, n = m + 1 := ⟨n - 1, by omega⟩
  conv => lhs; unfold exGo
  rw [if_neg (Nat.succ_ne_zero m), if_pos hs]
theorem exGo_zero (ns : List Node) (a b : Int) : exGo ns 0 0 a b = some (a, b) := rfl

theorem lSum_bd : ∀ (l : List Node), (∀ x ∈ l, 0 ≤ x.w ∧ x.w ≤ 9) → 0 ≤ lSum l ∧ lSum l ≤ 9 * l.length
  | [], _ => by simp [lSum]
  | x :: xs, h => by
    have := lSum_bd xs (fun y hy => h y (List.mem_cons_of_mem _ hy))
    have hx := h x (List.mem_cons_self ..)
    simp only [lSum, List.map_cons, List.sum_cons, List.length_cons] at *
    omega
theorem kidsN_len {ns : List Node} (h : GoodC ns) (k : Nat) : (kidsN ns k).length ≤ 7 := by
  have h8 := h.l8
  have h1 := h.l1
  have : (kidsN ns k).length ≤ ((List.range ns.length).filter (fun i => decide (0 < i))).length := by
    unfold kidsN
    apply List.Sublist.length_le
    have : (List.range ns.length).filter (isKid ns k) = ((List.range ns.length).filter (fun i => decide (0 < i))).filter (isKid ns k) := by
      rw [List.filter_filter]
      apply List.filter_congr
      intro i _
      simp only [isKid]
      cases decide (0 < i) <;> simp
    rw [this]
    exact List.filter_sublist
  have h2 : ((List.range ns.length).filter (fun i => decide (0 < i))).length + 1 ≤ ns.length := by
    obtain ⟨m, hm⟩ : ∃ m, ns.length = m + 1 := ⟨ns.length - 1, by omega⟩
    rw [hm, List.range_succ_eq_map, List.filter_cons]
    simp only [Nat.lt_irrefl, decide_false]
    have := List.length_filter_le (fun i => decide (0 < i)) (List.map Nat.succ (List.range m))
    simp at this ⊢
    exact this
  omega
theorem wsum_bd {ns : List Node} (h : GoodC ns) (k : Nat) : 0 ≤ wsum ns k ∧ wsum ns k ≤ 63 := by
  have h1 := lSum_bd ((kidsN ns k).map (nodeAt ns)) (fun x hx => by
    obtain ⟨i, hi, rfl⟩ := List.mem_map.1 hx
    exact h.ws i _ (GoodC.at_ (mem_kids.1 hi).1))
  have h2 := kidsN_len h k
  simp only [List.length_map] at h1
  unfold wsum
  omega
theorem sumK_wsum {ns : List Node} (h : GoodC ns) (k : Nat) : sumK (kidsTo ns.length ns k ns.length) = wsum ns k := by
  rw [sumK_eq, kids_nodes h]; rfl

/-- What the way up keeps of its numbers: k is where it stands. -/
def ExB (k : Nat) (num den : Int) : Prop := 0 ≤ num ∧ num ≤ 9 ^ (7 - k) ∧ 1 ≤ den ∧ den ≤ 63 ^ (7 - k)
theorem ExB.start {k : Nat} : ExB k 1 1 := by
  have h9 : ∀ j : Nat, (1 : Int) ≤ 9 ^ j := fun j => Int.add_one_le_of_lt (Int.pow_pos (by decide))
  have h63 : ∀ j : Nat, (1 : Int) ≤ 63 ^ j := fun j => Int.add_one_le_of_lt (Int.pow_pos (by decide))
  exact ⟨by decide, h9 _, by decide, h63 _⟩
theorem pow_le {b : Int} (hb : 1 ≤ b) : ∀ {i j : Nat}, i ≤ j → b ^ i ≤ b ^ j := by
  intro i j h
  obtain ⟨d, rfl⟩ := Nat.exists_eq_add_of_le h
  induction d with
  | zero => exact Int.le_refl _
  | succ d ih =>
    have h1 := ih (by omega)
    have h0 : 0 ≤ b ^ (i + d) := Int.pow_nonneg (by omega)
    have h2 : b ^ (i + d) * 1 ≤ b ^ (i + d) * b := Int.mul_le_mul_of_nonneg_left hb h0
    rw [← Nat.add_assoc, Int.pow_succ]
    omega
theorem ExB.step {k j : Nat} {num den w s : Int} (h : ExB k num den) (hj : j < k) (hk : k ≤ 7) (hw : 0 ≤ w ∧ w ≤ 9) (hs : 1 ≤ s ∧ s ≤ 63) : ExB j (num * w) (den * s) := by
  obtain ⟨h1, h2, h3, h4⟩ := h
  have a1 : 0 ≤ num * w := Int.mul_nonneg h1 hw.1
  have a2 : num * w ≤ 9 ^ (7 - k) * 9 := Int.mul_le_mul h2 hw.2 hw.1 (by have := h2; omega)
  have a3 : 9 ^ (7 - k) * 9 ≤ (9 : Int) ^ (7 - j) := by rw [← Int.pow_succ]; exact pow_le (by decide) (by omega)
  have b1 : 1 * 1 ≤ den * s := Int.mul_le_mul h3 hs.1 (by decide) (by omega)
  have b2 : den * s ≤ 63 ^ (7 - k) * 63 := Int.mul_le_mul h4 hs.2 (by omega) (by omega)
  have b3 : 63 ^ (7 - k) * 63 ≤ (63 : Int) ^ (7 - j) := by rw [← Int.pow_succ]; exact pow_le (by decide) (by omega)
  exact ⟨a1, by omega, by omega, by omega⟩
theorem ExB.top {k : Nat} {num den : Int} (h : ExB k num den) : 0 ≤ num ∧ num ≤ 4782969 ∧ 1 ≤ den ∧ den ≤ 3938980639167 := by
  obtain ⟨h1, h2, h3, h4⟩ := h
  have a : (9 : Int) ^ (7 - k) ≤ 9 ^ 7 := pow_le (by decide) (by omega)
  have b : (63 : Int) ^ (7 - k) ≤ 63 ^ 7 := pow_le (by decide) (by omega)
  have e1 : (9 : Int) ^ 7 = 4782969 := by decide
  have e2 : (63 : Int) ^ 7 = 3938980639167 := by decide
  omega

theorem gcd_step {a b : Int} (hb : 0 < b) : Int.gcd b (a % b) = Int.gcd a b ∧ 0 ≤ a % b ∧ a % b < b := by
  refine ⟨?_, Int.emod_nonneg _ (by omega), Int.emod_lt_of_pos _ hb⟩
  rw [Int.gcd_comm, Int.emod_def, Int.gcd_sub_mul_left_left]
theorem gcd_end {a : Int} (ha : 0 ≤ a) : (Int.gcd a 0 : Int) = a := by simp; omega
theorem gcd_pos {num den : Int} (hd : 1 ≤ den) : 0 < (Int.gcd num den : Int) := by
  have : 0 < Int.gcd num den := Int.gcd_pos_of_ne_zero_right _ (by omega)
  omega
end Go.Proofs.Ytmbcpmnigggbaaa.Sh
namespace Go.Proofs.Ytmbcpmnigggbaaa.Sh
open Go.RowKit

/-- Block b is a fraction's box. -/
def Two (W : World) (b : Nat) (x y : Int) : Prop := W.heap[b]? = some (.cells #[.int .i64 x, .int .i64 y] 143 (0, 0))
theorem Two.c0 {W : World} {b : Nat} {x y : Int} (h : Two W b x y) : W.cell? ⟨b, 0, none⟩ = some (.int .i64 x) := by simp [World.cell?, show W.heap[b]? = _ from h]
theorem Two.c1 {W : World} {b : Nat} {x y : Int} (h : Two W b x y) : W.cell? ⟨b, 1, none⟩ = some (.int .i64 y) := by simp [World.cell?, show W.heap[b]? = _ from h]
theorem Two.fr {W : World} {b : Nat} {x y : Int} (h : Two W b x y) (o : Nat) : W.frozen? ⟨b, o, none⟩ = false := by simp [World.frozen?, show W.heap[b]? = _ from h]
theorem Two.lt {W : World} {b : Nat} {x y : Int} (h : Two W b x y) : b < W.heap.size := (Array.getElem?_eq_some_iff.1 h).1
theorem Two.set0 {W : World} {b : Nat} {x y : Int} (h : Two W b x y) (v : Int) : Two (W.setCell ⟨b, 0, none⟩ (.int .i64 v)) b v y := by
  obtain ⟨hlt, hk⟩ := Array.getElem?_eq_some_iff.1 h
  show (W.heap.modify b _)[b]? = _
  rw [Array.getElem?_eq_getElem (by rw [Array.size_modify]; exact hlt), Array.getElem_modify_self, hk]
  rfl
theorem Two.set1 {W : World} {b : Nat} {x y : Int} (h : Two W b x y) (v : Int) : Two (W.setCell ⟨b, 1, none⟩ (.int .i64 v)) b x v := by
  obtain ⟨hlt, hk⟩ := Array.getElem?_eq_some_iff.1 h
  show (W.heap.modify b _)[b]? = _
  rw [Array.getElem?_eq_getElem (by rw [Array.size_modify]; exact hlt), Array.getElem_modify_self, hk]
  rfl
theorem Two.below {B : Nat} {W W' : World} {b : Nat} {x y : Int} (h : Two W b x y) (hb : Below B W W') (hB : b < B) : Two W' b x y := (hb.block b hB).trans h
theorem Two.end_ {W : World} {b : Nat} {x y : Int} (h : Two W b x y) (u v : Int) : Two ((W.setCell ⟨b, 0, none⟩ (.int .i64 u)).setCell ⟨b, 1, none⟩ (.int .i64 v)) b u v := (h.set0 u).set1 v

def exactS (ns : List Node) (node : Int) : (Int × Int) × Int :=
  if askE ns (inR node 0 (ns.length - 1)) [] = 0 then (exactV ns node.toNat, 0) else ((0, 0), askE ns (inR node 0 (ns.length - 1)) [])

theorem sum_is (c : Nat) (A : Option Addr) {ns : List Node} (h : GoodC ns) (k : Nat) (u s : Int) (hu : (k : Int) = u) (hs : wsum ns k = s) (w : World) (hN : Nodes w w.heap.size A ns) :
    Calls Try.prog 152 #[.agg #[.slice A ns.length c], .int .i64 u] w fun e w' => e = .returned (.int .i64 s) ∧ Below w.heap.size w w' := by
  rw [← hu, ← hs, ← sumK_wsum h]
  exact weights_any w.heap.size c A ns k h.ok h.l8 w (Nat.le_refl _) hN

set_option maxRecDepth 100000 in
set_option maxHeartbeats 4000000 in
theorem exact_any (A : Option Addr) (c : Nat) (ns : List Node) (node : Int) (hn : ns.length ≤ 1000) (w : World) (hN : Nodes w w.heap.size A ns) :
    Calls Try.prog 100 #[.agg #[.slice A ns.length c], .int .i64 node] w fun e w' => e = .returned (.tuple #[.agg #[.int .i64 (exactS ns node).1.1, .int .i64 (exactS ns node).1.2], .int .i64 (exactS ns node).2]) ∧ Below w.heap.size w w' := by
  obtain ⟨W0, hW0⟩ : ∃ W0, (w.alloc (.cells #[.slice A ns.length c] 76)).alloc (.cells #[.int .i64 0, .int .i64 0] 143) = W0 := ⟨_, rfl⟩
  have b1 : Boxed W0 w.heap.size 76 (.slice A ns.length c) := by rw [← hW0]; exact (Boxed.new _ _ _).alloc _
  have b2 : Two W0 (w.heap.size + 1) 0 0 := by
    have := World.alloc_heap_new (w.alloc (.cells #[.slice A ns.length c] 76)) (.cells #[.int .i64 0, .int .i64 0] 143)
    rw [← hW0]; unfold Two; simpa only [World.size_alloc] using this
  have hB0 : Below w.heap.size w W0 := by rw [← hW0]; exact ((Below.refl _ w).alloc (Nat.le_refl _) _).alloc (by simp) _
  have hN0 : Nodes W0 W0.heap.size A ns := Nodes.lt hN hB0
  have l1 := extB_cell b1.cell
  cases g1 : inR node 0 (ns.length - 1)
  all_goals
    have G1 := Lib.hid g1
    obtain ⟨ee, hee⟩ : ∃ ee, askE ns (inR node 0 (ns.length - 1)) [] = ee := ⟨_, rfl⟩
    have hef := hee
    rw [g1] at hee
    rcases err_cases ee with rfl | ⟨hne, hneb⟩
    · have hs : exactS ns node = (exactV ns node.toNat, 0) := if_pos hef
      have HS := Lib.hid hs
      obtain ⟨z1, z2, _, _⟩ := askE_zero hee
      have HE := Lib.hid hee
      clear hs hef g1 hee
      first
        | (exfalso; revert z2; decide)
        | (have hg := good_of z1
           obtain ⟨m, rfl⟩ : ∃ m : Nat, node = m := ⟨node.toNat, by have := (inR_true.1 G1.out).1; omega⟩
           have hm : m < ns.length := by have := (inR_true.1 G1.out).2; omega
           clear z1 z2
           go_enter Try.func100, Try.ntmps100
           go_wp2
           clear hW0
           refine wp_region_ext (by kernel_rfl) (by kernel_rfl) ?_
           repeat (go_big_quiet_step (first
             | (go_at_call 147; exact ext_call (isNode_is _ _ _ _ _ hn _ G1.out))
             | (go_at_call 107; exact ext_call (ask_is _ none _ 0 ns [] _ hn (by simp) _ (Nodes.lt hN0 (extB_below _ _)) nodes_nil _ HE.out))))
           refine wpQuiet_nil ?_
           rintro _ ⟨x1, rfl⟩
           obtain ⟨W1, hW1⟩ : ∃ W1, extB W0 x1 = W1 := ⟨_, rfl⟩
           have hb1 := extB_below W0 x1
           have m1 := l1 x1
           rw [hW1] at hb1 m1 ⊢
           clear hW1 l1
           have hb2 := hb0to hB0 hb1
           have Hb1 := boxed_ext hb1 b1
           have hN1 := Nodes.lt hN0 hb1
           go_wp2
           go_loopw [7, 8, 9, 10] (fun a b i _ wr => ∃ (k : Nat) (num den : Int), k < ns.length ∧ a = .int .i64 num ∧ b = .int .i64 den ∧ i = .int .i64 k ∧ Hid (ExB k num den ∧ exGo ns k k num den = exGo ns m m 1 1) ∧ Below W1.heap.size W1 wr)
             (fun _ _ i _ _ => (intOf i).toNat)
           case atStart => exact ⟨m, 1, 1, hm, rfl, rfl, rfl, Lib.hid ⟨ExB.start, rfl⟩, Below.refl _ _⟩
           case round =>
             obtain ⟨k, num, den, hk, rfl, rfl, rfl, HI, hb3⟩ := hrel
             by_cases hk0 : 0 < k
             · obtain ⟨hb, he⟩ := HI.out
               have hx := GoodC.at_ hk
               obtain ⟨b, off, rfl, hbb, c1, c2, _⟩ := hN1.at_ hx
               have hu := hg.upN hk hk0
               have hup : (upN ns k : Int) = (nodeAt ns k).u := hu.2
               have huk : upN ns k < k := hu.1
               have hl8 := hg.l8
               have d1 := below_cell hb3 c1
               have d2 := below_cell hb3 c2
               have e1 := extB_cell d1
               have hN3 := Nodes.lt hN1 hb3
               have n1 := extB_cell (boxed_ext hb3 Hb1).cell
               have hw := hg.ws k _ hx
               have hs := wsum_bd hg (upN ns k)
               clear hu hx c1 c2
               by_cases hz : wsum ns (upN ns k) = 0
               · go_wp2
                 refine wp_region_ext (by kernel_rfl) (by kernel_rfl) ?_
                 repeat (go_big_quiet_step ((go_at_call 152; exact ext_call (sum_is c _ hg _ _ 0 hup hz _ (Nodes.lt hN3 (extB_below _ _))))))
                 refine wpQuiet_nil ?_
                 rintro _ ⟨x2, rfl⟩
                 have t1 := (b2.below hb1 b2.lt).below (hb3.trans ((extB_below wr x2).mono hb3.size)) (Nat.lt_of_lt_of_le b2.lt hb1.size)
                 have q1 := t1.c0
                 have q2 := t1.c1
                 have q3 := t1.fr
                 have q4 := (t1.set0 0).c1
                 have q5 := (t1.set0 0).fr
                 have Q := Lib.hid (t1.end_ 0 1)
                 have hbf := hb2.trans ((hb3.trans ((extB_below wr x2).mono hb3.size)).mono hb2.size)
                 have HV := Lib.hid (show exactV ns m = (0, 1) from by unfold exactV; rw [← he, exGo_none hk0 _ _ hz])
                 clear t1 hz he
                 go_wp2
                 have z1 := Q.out.c0
                 have z2 := Q.out.c1
                 refine bodyPost_ret (v := .tuple #[.agg #[.int .i64 0, .int .i64 1], .int .i64 0]) (by simp [results, Try.results100, go_sem, z1, z2]) rfl ⟨by rw [HS.out]; show _ = Ending.returned (.tuple #[.agg #[.int .i64 (exactV ns m).1, .int .i64 (exactV ns m).2], .int .i64 0]); rw [HV.out], ?_⟩
                 exact (hbf.setCell (p := ⟨w.heap.size + 1, 0, none⟩) (by simp) _).setCell (p := ⟨w.heap.size + 1, 1, none⟩) (by simp) _
               · obtain ⟨s, hsS⟩ : ∃ s, wsum ns (upN ns k) = s := ⟨_, rfl⟩
                 obtain ⟨j, hj⟩ : ∃ j, upN ns k = j := ⟨_, rfl⟩
                 have hstep := hb.step (w := (nodeAt ns k).w) (s := s) huk (by omega) hw (by omega)
                 have htop := hstep.top
                 have hgo := exGo_up hg hk hk0 num den hz
                 have hS0 : (s == 0) = false := by rw [← hsS]; simpa using hz
                 have HR := Lib.hid (show ExB j (num * (nodeAt ns k).w) (den * s) ∧ exGo ns j j (num * (nodeAt ns k).w) (den * s) = exGo ns m m 1 1 from by rw [← hj, ← hsS]; exact ⟨by rw [hsS]; exact hstep, by rw [← hgo]; exact he⟩)
                 have HJ := Lib.hid hj
                 have HSS := Lib.hid hsS
                 have hjk : j < k := by omega
                 have hju : (j : Int) = (nodeAt ns k).u := by omega
                 clear hj hsS hgo he hstep hs hb HI huk hup hz
                 go_wp2
                 refine wp_region_ext (by kernel_rfl) (by kernel_rfl) ?_
                 repeat (go_big_quiet_step ((go_at_call 152; exact ext_call (sum_is c _ hg _ _ s (by rw [HJ.out]; exact hju) HSS.out _ (Nodes.lt hN3 (extB_below _ _))))))
                 refine wpQuiet_nil ?_
                 rintro _ ⟨x2, rfl⟩
                 have hb4 := hb3.trans ((extB_below wr x2).mono hb3.size)
                 have d1 := e1 x2
                 have d2 := extB_cell d2 x2
                 have n2 := n1 x2
                 go_wp2
                 go_roundw
                 case rel => exact ⟨j, _, _, by omega, rfl, rfl, by rw [hju], HR, hb4⟩
                 case measure => simp [intOf]; omega
             · obtain rfl : k = 0 := by omega
               obtain ⟨hb, he⟩ := HI.out
               have HV := Lib.hid (show exactV ns m = redS (num, den) from by unfold exactV; rw [← he, exGo_zero])
               have ht := hb.top
               have hgp := gcd_pos (num := num) ht.2.2.1
               clear hb he HI
               go_wp2
               obtain ⟨W3, hW3⟩ : ∃ W3, W3 = wr := ⟨_, rfl⟩
               subst hW3
               go_loopw [11, 12] (fun x y wr2 => ∃ a b : Int, x = .int .i64 a ∧ y = .int .i64 b ∧ 0 ≤ a ∧ a ≤ 3938980639167 ∧ 0 ≤ b ∧ b ≤ 3938980639167 ∧ Hid (Int.gcd a b = Int.gcd num den) ∧ Below W3.heap.size W3 wr2)
                 (fun _ y _ => (intOf y).toNat)
               case atStart => exact ⟨num, den, rfl, rfl, by omega, by omega, by omega, by omega, Lib.hid rfl, Below.refl _ _⟩
               case round =>
                 obtain ⟨a, b, rfl, rfl, ha, ha2, hb, hbb, HG, hb4⟩ := hrel
                 by_cases hb0 : b = 0
                 · subst hb0
                   have ea : (Int.gcd num den : Int) = a := by rw [← HG.out]; exact gcd_end ha
                   have hapos : 0 < a := by omega
                   have ha0 : (a == 0) = false := by simp; omega
                   have t1 := (b2.below hb1 b2.lt).below (hb3.trans (hb4.mono hb3.size)) (Nat.lt_of_lt_of_le b2.lt hb1.size)
                   have q1 := t1.c0
                   have q2 := t1.c1
                   have q3 := t1.fr
                   have q4 := fun v => (t1.set0 v).c1
                   have q5 := fun v => (t1.set0 v).fr
                   have Q := Lib.hid t1.end_
                   have hbf := hb2.trans ((hb3.trans (hb4.mono hb3.size)).mono hb2.size)
                   clear t1 HG
                   go_wp2
                   go_region
                   go_wp2
                   have z1 := (Q.out (num / a) (den / a)).c0
                   have z2 := (Q.out (num / a) (den / a)).c1
                   refine bodyPost_ret (v := .tuple #[.agg #[.int .i64 (num / a), .int .i64 (den / a)], .int .i64 0]) (by simp [results, Try.results100, go_sem, z1, z2]) rfl ⟨by rw [HS.out]; show _ = Ending.returned (.tuple #[.agg #[.int .i64 (exactV ns m).1, .int .i64 (exactV ns m).2], .int .i64 0]); rw [HV.out, redS, ea], ?_⟩
                   exact ((hbf.setCell (p := ⟨w.heap.size + 1, 0, none⟩) (by simp) _).setCell (p := ⟨w.heap.size + 1, 1, none⟩) (by simp) _).drew
                 · have hbn : (b != 0) = true := by simpa using hb0
                   have hbe : (b == 0) = false := by simpa using hb0
                   have hst := gcd_step (a := a) (show 0 < b by omega)
                   have HG2 := Lib.hid (hst.1.trans HG.out)
                   have h2 := hst.2.1
                   have h3 := hst.2.2
                   clear hst hb0 HG
                   go_wp2
                   refine wp_region_ext (by kernel_rfl) (by kernel_rfl) ?_
                   repeat (go_big_quiet_step (fail))
                   refine wpQuiet_nil ?_
                   rintro _ ⟨x2, rfl⟩
                   have hb5 := hb4.trans ((extB_below wr x2).mono hb4.size)
                   go_wp2
                   go_roundw
                   case rel => exact ⟨b, _, rfl, rfl, by omega, by omega, h2, by omega, HG2, hb5⟩
                   case measure => simp [intOf]; omega)
    · have hs : exactS ns node = ((0, 0), ee) := by unfold exactS; rw [hef]; exact if_neg hne
      have HS := Lib.hid hs
      have HE := Lib.hid hee
      clear hs hef g1 hee
      go_enter Try.func100, Try.ntmps100
      go_wp2
      clear hW0
      refine wp_region_ext (by kernel_rfl) (by kernel_rfl) ?_
      repeat (go_big_quiet_step (first
        | (go_at_call 147; exact ext_call (isNode_is _ _ _ _ _ hn _ G1.out))
        | (go_at_call 107; exact ext_call (ask_is _ none _ 0 ns [] _ hn (by simp) _ (Nodes.lt hN0 (extB_below _ _)) nodes_nil _ HE.out))))
      refine wpQuiet_nil ?_
      rintro _ ⟨x1, rfl⟩
      have hb1 := hb0to hB0 (extB_below W0 x1)
      have t1 := b2.below (extB_below W0 x1) b2.lt
      have q1 := t1.c0
      have q2 := t1.c1
      have q3 := t1.fr
      have q4 := (t1.set0 0).c1
      have q5 := (t1.set0 0).fr
      have Q := Lib.hid (t1.end_ 0 0)
      clear t1
      go_wp2
      have z1 := Q.out.c0
      have z2 := Q.out.c1
      refine bodyPost_ret (v := .tuple #[.agg #[.int .i64 0, .int .i64 0], .int .i64 ee]) (by simp [results, Try.results100, go_sem, z1, z2]) rfl ⟨by rw [HS.out], ?_⟩
      exact (hb1.setCell (p := ⟨w.heap.size + 1, 0, none⟩) (by simp) _).setCell (p := ⟨w.heap.size + 1, 1, none⟩) (by simp) _
end Go.Proofs.Ytmbcpmnigggbaaa.Sh
