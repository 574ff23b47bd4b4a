import Derived.Test.YtmbcpmnigggbaaaShM3
import Derived.Test.YtmbcpmnigggbaaaShB5
import Derived.Test.YtmbcpmnigggbaaaShB1
import Derived.Laws.AppendOwn
import Derived.Laws.AppendOwnNone
import Derived.OwnWalk
namespace Go.Proofs.Ytmbcpmnigggbaaa.Sh
/-- The weights of all nodes below a node, together. -/
def wsum (ns : List Node) (k : Nat) : Int := lSum ((kidsN ns k).map (nodeAt ns))
def upN (ns : List Node) (n : Nat) : Nat := (nodeAt ns n).u.toNat
/-- The part of a node as it is gathered on the way up; none: a sum on the way is 0. -/
def exGo (ns : List Node) : Nat → Nat → Int → Int → Option (Int × Int)
  | 0, _, num, den => some (num, den)
  | f + 1, n, num, den => if n = 0 then some (num, den) else if wsum ns (upN ns n) = 0 then none else exGo ns f (upN ns n) (num * (nodeAt ns n).w) (den * wsum ns (upN ns n))
/-- A fraction in lowest terms. -/
def redS (p : Int × Int) : Int × Int := (p.1 / (Int.gcd p.1 p.2 : Int), p.2 / (Int.gcd p.1 p.2 : Int))
def exactV (ns : List Node) (n : Nat) : Int × Int := match exGo ns n n 1 1 with | some p => redS p | none => (0, 1)

theorem exGo_more {ns : List Node} (h : GoodC ns) : ∀ (n f : Nat) (a b : Int), n < ns.length → n ≤ f → exGo ns f n a b = exGo ns n n a b := by
  intro n
  induction n using Nat.strongRecOn with
  | _ n ih =>
    intro f a b hn hf
    cases n with
    | zero => cases f <;> simp [exGo]
    | succ n =>
      obtain ⟨f, rfl⟩ : ∃ g, f = g + 1 := ⟨f - 1, by omega⟩
      have hu := (h.upN hn (by omega)).1
      simp only [exGo, if_neg (Nat.succ_ne_zero n)]
      split
      · rfl
      · have hu' : upN ns (n + 1) < n + 1 := hu
        rw [ih _ hu' f _ _ (by omega) (by omega), ih _ hu' n _ _ (by omega) (by omega)]
theorem exGo_up {ns : List Node} (h : GoodC ns) {n : Nat} (hn : n < ns.length) (h0 : 0 < n) (a b : Int) (hs : wsum ns (upN ns n) ≠ 0) :
    exGo ns n n a b = exGo ns (upN ns n) (upN ns n) (a * (nodeAt ns n).w) (b * wsum ns (upN ns n)) := by
  have hu : upN ns n < n := (h.upN hn h0).1
  obtain ⟨m, rfl⟩ : ∃ m, n = m + 1 := ⟨n - 1, by omega⟩
  conv => lhs; unfold exGo
  rw [if_neg (Nat.succ_ne_zero m), if_neg hs, exGo_more h _ m _ _ (by omega) (by omega)]
theorem exGo_none {ns : List Node} {n : Nat} (h0 : 0 < n) (a b : Int) (hs : wsum ns (upN ns n) = 0) : exGo ns n n a b = none := by
  obtain ⟨m, rfl⟩ : ∃ m, n = m + 1 := ⟨n - 1, by omega⟩
  conv => lhs; unfold exGo
  rw [if_neg (Nat.succ_ne_zero m), if_pos hs]
theorem exGo_zero (ns : List Node) (a b : Int) : exGo ns 0 0 a b = some (a, b) := rfl

theorem lSum_bd : ∀ (l : List Node), (∀ x ∈ l, 0 ≤ x.w ∧ x.w ≤ 9) → 0 ≤ lSum l ∧ lSum l ≤ 9 * l.length
  | [], _ => by simp [lSum]
  | x :: xs, h => by
    have := lSum_bd xs (fun y hy => h y (List.mem_cons_of_mem _ hy))
    have hx := h x (List.mem_cons_self ..)
    simp only [lSum, List.map_cons, List.sum_cons, List.length_cons] at *
    omega
theorem kidsN_len {ns : List Node} (h : GoodC ns) (k : Nat) : (kidsN ns k).length ≤ 7 := by
  have h8 := h.l8
  have h1 := h.l1
  have : (kidsN ns k).length ≤ ((List.range ns.length).filter (fun i => decide (0 < i))).length := by
    unfold kidsN
    apply List.Sublist.length_le
    have : (List.range ns.length).filter (isKid ns k) = ((List.range ns.length).filter (fun i => decide (0 < i))).filter (isKid ns k) := by
      rw [List.filter_filter]
      apply List.filter_congr
      intro i _
      simp only [isKid]
      cases decide (0 < i) <;> simp
    rw [this]
    exact List.filter_sublist
  have h2 : ((List.range ns.length).filter (fun i => decide (0 < i))).length + 1 ≤ ns.length := by
    obtain ⟨m, hm⟩ : ∃ m, ns.length = m + 1 := ⟨ns.length - 1, by omega⟩
    rw [hm, List.range_succ_eq_map, List.filter_cons]
    simp only [Nat.lt_irrefl, decide_false]
    have := List.length_filter_le (fun i => decide (0 < i)) (List.map Nat.succ (List.range m))
    simp at this ⊢
    exact this
  omega
theorem wsum_bd {ns : List Node} (h : GoodC ns) (k : Nat) : 0 ≤ wsum ns k ∧ wsum ns k ≤ 63 := by
  have h1 := lSum_bd ((kidsN ns k).map (nodeAt ns)) (fun x hx => by
    obtain ⟨i, hi, rfl⟩ := List.mem_map.1 hx
    exact h.ws i _ (GoodC.at_ (mem_kids.1 hi).1))
  have h2 := kidsN_len h k
  simp only [List.length_map] at h1
  unfold wsum
  omega
theorem sumK_wsum {ns : List Node} (h : GoodC ns) (k : Nat) : sumK (kidsTo ns.length ns k ns.length) = wsum ns k := by
  rw [sumK_eq, kids_nodes h]; rfl

/-- What the way up keeps of its numbers: k is where it stands. -/
def ExB (k : Nat) (num den : Int) : Prop := 0 ≤ num ∧ num ≤ 9 ^ (7 - k) ∧ 1 ≤ den ∧ den ≤ 63 ^ (7 - k)
theorem ExB.start {k : Nat} : ExB k 1 1 := by
  have h9 : ∀ j : Nat, (1 : Int) ≤ 9 ^ j := fun j => Int.add_one_le_of_lt (Int.pow_pos (by decide))
  have h63 : ∀ j : Nat, (1 : Int) ≤ 63 ^ j := fun j => Int.add_one_le_of_lt (Int.pow_pos (by decide))
  exact ⟨by decide, h9 _, by decide, h63 _⟩
theorem pow_le {b : Int} (hb : 1 ≤ b) : ∀ {i j : Nat}, i ≤ j → b ^ i ≤ b ^ j := by
  intro i j h
  obtain ⟨d, rfl⟩ := Nat.exists_eq_add_of_le h
  induction d with
  | zero => exact Int.le_refl _
  | succ d ih =>
    have h1 := ih (by omega)
    have h0 : 0 ≤ b ^ (i + d) := Int.pow_nonneg (by omega)
    have h2 : b ^ (i + d) * 1 ≤ b ^ (i + d) * b := Int.mul_le_mul_of_nonneg_left hb h0
    rw [← Nat.add_assoc, Int.pow_succ]
    omega
theorem ExB.step {k j : Nat} {num den w s : Int} (h : ExB k num den) (hj : j < k) (hk : k ≤ 7) (hw : 0 ≤ w ∧ w ≤ 9) (hs : 1 ≤ s ∧ s ≤ 63) : ExB j (num * w) (den * s) := by
  obtain ⟨h1, h2, h3, h4⟩ := h
  have a1 : 0 ≤ num * w := Int.mul_nonneg h1 hw.1
  have a2 : num * w ≤ 9 ^ (7 - k) * 9 := Int.mul_le_mul h2 hw.2 hw.1 (by have := h2; omega)
  have a3 : 9 ^ (7 - k) * 9 ≤ (9 : Int) ^ (7 - j) := by rw [← Int.pow_succ]; exact pow_le (by decide) (by omega)
  have b1 : 1 * 1 ≤ den * s := Int.mul_le_mul h3 hs.1 (by decide) (by omega)
  have b2 : den * s ≤ 63 ^ (7 - k) * 63 := Int.mul_le_mul h4 hs.2 (by omega) (by omega)
  have b3 : 63 ^ (7 - k) * 63 ≤ (63 : Int) ^ (7 - j) := by rw [← Int.pow_succ]; exact pow_le (by decide) (by omega)
  exact ⟨a1, by omega, by omega, by omega⟩
theorem ExB.top {k : Nat} {num den : Int} (h : ExB k num den) : 0 ≤ num ∧ num ≤ 4782969 ∧ 1 ≤ den ∧ den ≤ 3938980639167 := by
  obtain ⟨h1, h2, h3, h4⟩ := h
  have a : (9 : Int) ^ (7 - k) ≤ 9 ^ 7 := pow_le (by decide) (by omega)
  have b : (63 : Int) ^ (7 - k) ≤ 63 ^ 7 := pow_le (by decide) (by omega)
  have e1 : (9 : Int) ^ 7 = 4782969 := by decide
  have e2 : (63 : Int) ^ 7 = 3938980639167 := by decide
  omega

theorem gcd_step {a b : Int} (hb : 0 < b) : Int.gcd b (a % b) = Int.gcd a b ∧ 0 ≤ a % b ∧ a % b < b := by
  refine ⟨?_, Int.emod_nonneg _ (by omega), Int.emod_lt_of_pos _ hb⟩
  rw [Int.gcd_comm, Int.emod_def, Int.gcd_sub_mul_left_left]
theorem gcd_end {a : Int} (ha : 0 ≤ a) : (Int.gcd a 0 : Int) = a := by simp; omega
theorem gcd_pos {num den : Int} (hd : 1 ≤ den) : 0 < (Int.gcd num den : Int) := by
  have : 0 < Int.gcd num den := Int.gcd_pos_of_ne_zero_right _ (by omega)
  omega
end Go.Proofs.Ytmbcpmnigggbaaa.Sh
namespace Go.Proofs.Ytmbcpmnigggbaaa.Sh
open Go.RowKit

/-- Block b is a fraction's box. -/
def Two (W : World) (b : Nat) (x y : Int) : Prop := W.heap[b]? = some (.cells #[.int .i64 x, .int .i64 y] 143 (0, 0))
theorem Two.c0 {W : World} {b : Nat} {x y : Int} (h : Two W b x y) : W.cell? ⟨b, 0, none⟩ = some (.int .i64 x) := by simp [World.cell?, show W.heap[b]? = _ from h]
theorem Two.c1 {W : World} {b : Nat} {x y : Int} (h : Two W b x y) : W.cell? ⟨b, 1, none⟩ = some (.int .i64 y) := by simp [World.cell?, show W.heap[b]? = _ from h]
theorem Two.fr {W : World} {b : Nat} {x y : Int} (h : Two W b x y) (o : Nat) : W.frozen? ⟨b, o, none⟩ = false := by simp [World.frozen?, show W.heap[b]? = _ from h]
theorem Two.lt {W : World} {b : Nat} {x y : Int} (h : Two W b x y) : b < W.heap.size := (Array.getElem?_eq_some_iff.1 h).1
theorem Two.set0 {W : World} {b : Nat} {x y : Int} (h : Two W b x y) (v : Int) : Two (W.setCell ⟨b, 0, none⟩ (.int .i64 v)) b v y := by
  obtain ⟨hlt, hk⟩ := Array.getElem?_eq_some_iff.1 h
  show (W.heap.modify b _)[b]? = _
  rw [Array.getElem?_eq_getElem (by rw [Array.size_modify]; exact hlt), Array.getElem_modify_self, hk]
  rfl
theorem Two.set1 {W : World} {b : Nat} {x y : Int} (h : Two W b x y) (v : Int) : Two (W.setCell ⟨b, 1, none⟩ (.int .i64 v)) b x v := by
  obtain ⟨hlt, hk⟩ := Array.getElem?_eq_some_iff.1 h
  show (W.heap.modify b _)[b]? = _
  rw [Array.getElem?_eq_getElem (by rw [Array.size_modify]; exact hlt), Array.getElem_modify_self, hk]
  rfl
theorem Two.below {B : Nat} {W W' : World} {b : Nat} {x y : Int} (h : Two W b x y) (hb : Below B W W') (hB : b < B) : Two W' b x y := (hb.block b hB).trans h
theorem Two.end_ {W : World} {b : Nat} {x y : Int} (h : Two W b x y) (u v : Int) : Two ((W.setCell ⟨b, 0, none⟩ (.int .i64 u)).setCell ⟨b, 1, none⟩ (.int .i64 v)) b u v := (h.set0 u).set1 v

def exactS (ns : List Node) (node : Int) : (Int × Int) × Int :=
  if askE ns (inR node 0 (ns.length - 1)) [] = 0 then (exactV ns node.toNat, 0) else ((0, 0), askE ns (inR node 0 (ns.length - 1)) [])

theorem sum_is (c : Nat) (A : Option Addr) {ns : List Node} (h : GoodC ns) (k : Nat) (u s : Int) (hu : (k : Int) = u) (hs : wsum ns k = s) (w : World) (hN : Nodes w w.heap.size A ns) :
    Calls Try.prog 152 #[.agg #[.slice A ns.length c], .int .i64 u] w fun e w' => e = .returned (.int .i64 s) ∧ Below w.heap.size w w' := by
  rw [← hu, ← hs, ← sumK_wsum h]
  exact weights_any w.heap.size c A ns k h.ok h.l8 w (Nat.le_refl _) hN

set_option maxRecDepth 100000 in
set_option maxHeartbeats 4000000 in
theorem exact_any (A : Option Addr) (c : Nat) (ns : List Node) (node : Int) (hn : ns.length ≤ 1000) (w : World) (hN : Nodes w w.heap.size A ns) :
    Calls Try.prog 100 #[.agg #[.slice A ns.length c], .int .i64 node] w fun e w' => e = .returned (.tuple #[.agg #[.int .i64 (exactS ns node).1.1, .int .i64 (exactS ns node).1.2], .int .i64 (exactS ns node).2]) ∧ Below w.heap.size w w' := by
  obtain ⟨W0, hW0⟩ : ∃ W0, (w.alloc (.cells #[.slice A ns.length c] 76)).alloc (.cells #[.int .i64 0, .int .i64 0] 143) = W0 := ⟨_, rfl⟩
  have b1 : Boxed W0 w.heap.size 76 (.slice A ns.length c) := by rw [← hW0]; exact (Boxed.new _ _ _).alloc _
  have b2 : Two W0 (w.heap.size + 1) 0 0 := by
    have := World.alloc_heap_new (w.alloc (.cells #[.slice A ns.length c] 76)) (.cells #[.int .i64 0, .int .i64 0] 143)
    rw [← hW0]; unfold Two; simpa only [World.size_alloc] using this
  have hB0 : Below w.heap.size w W0 := by rw [← hW0]; exact ((Below.refl _ w).alloc (Nat.le_refl _) _).alloc (by simp) _
  have hN0 : Nodes W0 W0.heap.size A ns := Nodes.lt hN hB0
  have l1 := extB_cell b1.cell
  cases g1 : inR node 0 (ns.length - 1)
  all_goals
    have G1 := Lib.hid g1
    obtain ⟨ee, hee⟩ : ∃ ee, askE ns (inR node 0 (ns.length - 1)) [] = ee := ⟨_, rfl⟩
    have hef := hee
    rw [g1] at hee
    rcases err_cases ee with rfl | ⟨hne, hneb⟩
    · have hs : exactS ns node = (exactV ns node.toNat, 0) := if_pos hef
      have HS := Lib.hid hs
      obtain ⟨z1, z2, _, _⟩ := askE_zero hee
      have HE := Lib.hid hee
      clear hs hef g1 hee
      first
        | (exfalso; revert z2; decide)
        | (have hg := good_of z1
           obtain ⟨m, rfl⟩ : ∃ m : Nat, node = m := ⟨node.toNat, by have := (inR_true.1 G1.out).1; omega⟩
           have hm : m < ns.length := by have := (inR_true.1 G1.out).2; omega
           clear z1 z2
           go_enter Try.func100, Try.ntmps100
           go_wp2
           clear hW0
           refine wp_region_ext (by kernel_rfl) (by kernel_rfl) ?_
           repeat (go_big_quiet_step (first
             | (go_at_call 147; exact ext_call (isNode_is _ _ _ _ _ hn _ G1.out))
             | (go_at_call 107; exact ext_call (ask_is _ none _ 0 ns [] _ hn (by simp) _ (Nodes.lt hN0 (extB_below _ _)) nodes_nil _ HE.out))))
           refine wpQuiet_nil ?_
           rintro _ ⟨x1, rfl⟩
           obtain ⟨W1, hW1⟩ : ∃ W1, extB W0 x1 = W1 := ⟨_, rfl⟩
           have hb1 := extB_below W0 x1
           have m1 := l1 x1
           rw [hW1] at hb1 m1 ⊢
           clear hW1 l1
           have hb2 := hb0to hB0 hb1
           have Hb1 := boxed_ext hb1 b1
           have hN1 := Nodes.lt hN0 hb1
           go_wp2
           go_loopw [7, 8, 9, 10] (fun a b i _ wr => ∃ (k : Nat) (num den : Int), k < ns.length ∧ a = .int .i64 num ∧ b = .int .i64 den ∧ i = .int .i64 k ∧ Hid (ExB k num den ∧ exGo ns k k num den = exGo ns m m 1 1) ∧ Below W1.heap.size W1 wr)
             (fun _ _ i _ _ => (intOf i).toNat)
           case atStart => exact ⟨m, 1, 1, hm, rfl, rfl, rfl, Lib.hid ⟨ExB.start, rfl⟩, Below.refl _ _⟩
           case round =>
             obtain ⟨k, num, den, hk, rfl, rfl, rfl, HI, hb3⟩ := hrel
             by_cases hk0 : 0 < k
             · obtain ⟨hb, he⟩ := HI.out
               have hx := GoodC.at_ hk
               obtain ⟨b, off, rfl, hbb, c1, c2, _⟩ := hN1.at_ hx
               have hu := hg.upN hk hk0
               have hup : (upN ns k : Int) = (nodeAt ns k).u := hu.2
               have huk : upN ns k < k := hu.1
               have hl8 := hg.l8
               have d1 := below_cell hb3 c1
               have d2 := below_cell hb3 c2
               have e1 := extB_cell d1
               have hN3 := Nodes.lt hN1 hb3
               have n1 := extB_cell (boxed_ext hb3 Hb1).cell
               have hw := hg.ws k _ hx
               have hs := wsum_bd hg (upN ns k)
               clear hu hx c1 c2
               by_cases hz : wsum ns (upN ns k) = 0
               · go_wp2
                 refine wp_region_ext (by kernel_rfl) (by kernel_rfl) ?_
                 repeat (go_big_quiet_step ((go_at_call 152; exact ext_call (sum_is c _ hg _ _ 0 hup hz _ (Nodes.lt hN3 (extB_below _ _))))))
                 refine wpQuiet_nil ?_
                 rintro _ ⟨x2, rfl⟩
                 have t1 := (b2.below hb1 b2.lt).below (hb3.trans ((extB_below wr x2).mono hb3.size)) (Nat.lt_of_lt_of_le b2.lt hb1.size)
                 have q1 := t1.c0
                 have q2 := t1.c1
                 have q3 := t1.fr
                 have q4 := (t1.set0 0).c1
                 have q5 := (t1.set0 0).fr
                 have Q := Lib.hid (t1.end_ 0 1)
                 have hbf := hb2.trans ((hb3.trans ((extB_below wr x2).mono hb3.size)).mono hb2.size)
                 have HV := Lib.hid (show exactV ns m = (0, 1) from by unfold exactV; rw [← he, exGo_none hk0 _ _ hz])
                 clear t1 hz he
                 go_wp2
                 have z1 := Q.out.c0
                 have z2 := Q.out.c1
                 refine bodyPost_ret (v := .tuple #[.agg #[.int .i64 0, .int .i64 1], .int .i64 0]) (by simp [results, Try.results100, go_sem, z1, z2]) rfl ⟨by rw [HS.out]; show _ = Ending.returned (.tuple #[.agg #[.int .i64 (exactV ns m).1, .int .i64 (exactV ns m).2], .int .i64 0]); rw [HV.out], ?_⟩
                 exact (hbf.setCell (p := ⟨w.heap.size + 1, 0, none⟩) (by simp) _).setCell (p := ⟨w.heap.size + 1, 1, none⟩) (by simp) _
               · obtain ⟨s, hsS⟩ : ∃ s, wsum ns (upN ns k) = s := ⟨_, rfl⟩
                 obtain ⟨j, hj⟩ : ∃ j, upN ns k = j := ⟨_, rfl⟩
                 have hstep := hb.step (w := (nodeAt ns k).w) (s := s) huk (by omega) hw (by omega)
                 have htop := hstep.top
                 have hgo := exGo_up hg hk hk0 num den hz
                 have hS0 : (s == 0) = false := by rw [← hsS]; simpa using hz
                 have HR := Lib.hid (show ExB j (num * (nodeAt ns k).w) (den * s) ∧ exGo ns j j (num * (nodeAt ns k).w) (den * s) = exGo ns m m 1 1 from by rw [← hj, ← hsS]; exact ⟨by rw [hsS]; exact hstep, by rw [← hgo]; exact he⟩)
                 have HJ := Lib.hid hj
                 have HSS := Lib.hid hsS
                 have hjk : j < k := by omega
                 have hju : (j : Int) = (nodeAt ns k).u := by omega
                 clear hj hsS hgo he hstep hs hb HI huk hup hz
                 go_wp2
                 refine wp_region_ext (by kernel_rfl) (by kernel_rfl) ?_
                 repeat (go_big_quiet_step ((go_at_call 152; exact ext_call (sum_is c _ hg _ _ s (by rw [HJ.out]; exact hju) HSS.out _ (Nodes.lt hN3 (extB_below _ _))))))
                 refine wpQuiet_nil ?_
                 rintro _ ⟨x2, rfl⟩
                 have hb4 := hb3.trans ((extB_below wr x2).mono hb3.size)
                 have d1 := e1 x2
                 have d2 := extB_cell d2 x2
                 have n2 := n1 x2
                 go_wp2
                 go_roundw
                 case rel => exact ⟨j, _, _, by omega, rfl, rfl, by rw [hju], HR, hb4⟩
                 case measure => simp [intOf]; omega
             · obtain rfl : k = 0 := by omega
               obtain ⟨hb, he⟩ := HI.out
               have HV := Lib.hid (show exactV ns m = redS (num, den) from by unfold exactV; rw [← he, exGo_zero])
               have ht := hb.top
               have hgp := gcd_pos (num := num) ht.2.2.1
               clear hb he HI
               go_wp2
               obtain ⟨W3, hW3⟩ : ∃ W3, W3 = wr := ⟨_, rfl⟩
               subst hW3
               go_loopw [11, 12] (fun x y wr2 => ∃ a b : Int, x = .int .i64 a ∧ y = .int .i64 b ∧ 0 ≤ a ∧ a ≤ 3938980639167 ∧ 0 ≤ b ∧ b ≤ 3938980639167 ∧ Hid (Int.gcd a b = Int.gcd num den) ∧ Below W3.heap.size W3 wr2)
                 (fun _ y _ => (intOf y).toNat)
               case atStart => exact ⟨num, den, rfl, rfl, by omega, by omega, by omega, by omega, Lib.hid rfl, Below.refl _ _⟩
               case round =>
                 obtain ⟨a, b, rfl, rfl, ha, ha2, hb, hbb, HG, hb4⟩ := hrel
                 by_cases hb0 : b = 0
                 · subst hb0
                   have ea : (Int.gcd num den : Int) = a := by rw [← HG.out]; exact gcd_end ha
                   have hapos : 0 < a := by omega
                   have ha0 : (a == 0) = false := by simp; omega
                   have t1 := (b2.below hb1 b2.lt).below (hb3.trans (hb4.mono hb3.size)) (Nat.lt_of_lt_of_le b2.lt hb1.size)
                   have q1 := t1.c0
                   have q2 := t1.c1
                   have q3 := t1.fr
                   have q4 := fun v => (t1.set0 v).c1
                   have q5 := fun v => (t1.set0 v).fr
                   have Q := Lib.hid t1.end_
                   have hbf := hb2.trans ((hb3.trans (hb4.mono hb3.size)).mono hb2.size)
                   clear t1 HG
                   go_wp2
                   go_region
                   go_wp2
                   have z1 := (Q.out (num / a) (den / a)).c0
                   have z2 := (Q.out (num / a) (den / a)).c1
                   refine bodyPost_ret (v := .tuple #[.agg #[.int .i64 (num / a), .int .i64 (den / a)], .int .i64 0]) (by simp [results, Try.results100, go_sem, z1, z2]) rfl ⟨by rw [HS.out]; show _ = Ending.returned (.tuple #[.agg #[.int .i64 (exactV ns m).1, .int .i64 (exactV ns m).2], .int .i64 0]); rw [HV.out, redS, ea], ?_⟩
                   exact ((hbf.setCell (p := ⟨w.heap.size + 1, 0, none⟩) (by simp) _).setCell (p := ⟨w.heap.size + 1, 1, none⟩) (by simp) _).drew
                 · have hbn : (b != 0) = true := by simpa using hb0
                   have hbe : (b == 0) = false := by simpa using hb0
                   have hst := gcd_step (a := a) (show 0 < b by omega)
                   have HG2 := Lib.hid (hst.1.trans HG.out)
                   have h2 := hst.2.1
                   have h3 := hst.2.2
                   clear hst hb0 HG
                   go_wp2
                   refine wp_region_ext (by kernel_rfl) (by kernel_rfl) ?_
                   repeat (go_big_quiet_step (fail))
                   refine wpQuiet_nil ?_
                   rintro _ ⟨x2, rfl⟩
                   have hb5 := hb4.trans ((extB_below wr x2).mono hb4.size)
                   go_wp2
                   go_roundw
                   case rel => exact ⟨b, _, rfl, rfl, by omega, by omega, h2, by omega, HG2, hb5⟩
                   case measure => simp [intOf]; omega)
    · have hs : exactS ns node = ((0, 0), ee) := by unfold exactS; rw [hef]; exact if_neg hne
      have HS := Lib.hid hs
      have HE := Lib.hid hee
      clear hs hef g1 hee
      go_enter Try.func100, Try.ntmps100
      go_wp2
      clear hW0
      refine wp_region_ext (by kernel_rfl) (by kernel_rfl) ?_
      repeat (go_big_quiet_step (first
        | (go_at_call 147; exact ext_call (isNode_is _ _ _ _ _ hn _ G1.out))
        | (go_at_call 107; exact ext_call (ask_is _ none _ 0 ns [] _ hn (by simp) _ (Nodes.lt hN0 (extB_below _ _)) nodes_nil _ HE.out))))
      refine wpQuiet_nil ?_
      rintro _ ⟨x1, rfl⟩
      have hb1 := hb0to hB0 (extB_below W0 x1)
      have t1 := b2.below (extB_below W0 x1) b2.lt
      have q1 := t1.c0
      have q2 := t1.c1
      have q3 := t1.fr
      have q4 := (t1.set0 0).c1
      have q5 := (t1.set0 0).fr
      have Q := Lib.hid (t1.end_ 0 0)
      clear t1
      go_wp2
      have z1 := Q.out.c0
      have z2 := Q.out.c1
      refine bodyPost_ret (v := .tuple #[.agg #[.int .i64 0, .int .i64 0], .int .i64 ee]) (by simp [results, Try.results100, go_sem, z1, z2]) rfl ⟨by rw [HS.out], ?_⟩
      exact (hb1.setCell (p := ⟨w.heap.size + 1, 0, none⟩) (by simp) _).setCell (p := ⟨w.heap.size + 1, 1, none⟩) (by simp) _
end Go.Proofs.Ytmbcpmnigggbaaa.Sh
namespace Go.Proofs.Ytmbcpmnigggbaaa.Sh
open Go.RowKit

theorem addr_add (b o j : Nat) : (⟨b, o, none⟩ : Addr).add j = ⟨b, o + j, none⟩ := by
  cases j with
  | zero => rfl
  | succ j => simp [Addr.add]
theorem nlt {W W' : World} {A : Option Addr} {ns : List Node} (h : Nodes W W.heap.size A ns) (hb : Below W.heap.size W W') : Nodes W' W'.heap.size A ns := (h.below hb).more hb.size

/-- The slice at A holds the numbers l. -/
def IntsAt (W : World) (B : Nat) (A : Option Addr) (l : List Int) : Prop :=
  l = [] ∨ ∃ b off, A = some ⟨b, off, none⟩ ∧ b < B ∧ ∀ i x, l[i]? = some x → W.cell? ⟨b, off + i, none⟩ = some (.int .i64 x)
theorem ilt {W W' : World} {A : Option Addr} {l : List Int} (h : IntsAt W W.heap.size A l) (hb : Below W.heap.size W W') : IntsAt W' W'.heap.size A l := by
  rcases h with h | ⟨b, off, hA, hlt, hc⟩
  · exact .inl h
  · exact .inr ⟨b, off, hA, Nat.lt_of_lt_of_le hlt hb.size, fun i x hx => (hb.cell (p := ⟨b, off + i, none⟩) hlt).trans (hc i x hx)⟩
theorem IntsAt.at_ {W : World} {B : Nat} {A : Option Addr} {l : List Int} (h : IntsAt W B A l) {k : Nat} {x : Int} (hx : l[k]? = some x) : ∃ b off, A = some ⟨b, off, none⟩ ∧ b < B ∧ W.cell? ⟨b, off + k, none⟩ = some (.int .i64 x) := by
  rcases h with h | ⟨b, off, hA, hb, hc⟩
  · subst h; simp at hx
  · exact ⟨b, off, hA, hb, hc k x hx⟩
theorem intsAt_nil {W : World} {B : Nat} {A : Option Addr} : IntsAt W B A [] := .inl rfl
theorem row_ints {W : World} {b : Nat} {l : List Int} (h : Row W b l) : IntsAt W W.heap.size (some ⟨b, 0, none⟩) l := .inr ⟨b, 0, rfl, Row.lt h, fun i x hx => by
  have hi := (List.getElem?_eq_some_iff.1 hx).1
  have := Row.cell h hi
  rw [hx] at this
  rw [Nat.zero_add]; exact this⟩

/-- The slice v owns the numbers l, in a row of its own (from base on). -/
def Ints (W : World) (base : Nat) (v : Value) (l : List Int) : Prop := W.ownsRow base 3 1 v l.length (l.map (Value.int .i64))
theorem ints_nil (W : World) (base : Nat) : Ints W base (.slice none 0 0) [] := World.ownsRow_nil W base 3 1
theorem Ints.lay {W : World} {base : Nat} {v : Value} {l : List Int} (h : Ints W base v l) : ∃ A c, v = .slice A l.length c ∧ (A = none → c = 0 ∧ l = []) ∧ IntsAt W W.heap.size A l := by
  rcases h.2 with ⟨rfl, h0⟩ | ⟨g, cap, cur, rfl, hb, hg, h4, h5, h6, h7⟩
  · have : l = [] := List.length_eq_zero_iff.1 h0
    exact ⟨none, 0, by rw [h0], fun _ => ⟨rfl, this⟩, .inl this⟩
  · refine ⟨some ⟨g, 0, none⟩, cap, rfl, fun h => (by cases h), .inr ⟨g, 0, rfl, (Array.getElem?_eq_some_iff.1 hg).1, fun i x hx => ?_⟩⟩
    have hc := World.ownsRow.cells h (g := g) rfl i (.int .i64 x) (by rw [List.getElem?_map, hx]; rfl)
    rw [addr_add] at hc; exact hc
theorem Ints.below_ {W W' : World} {base n : Nat} {v : Value} {l : List Int} (h : Ints W base v l) (hb : Below n W W') (hn : W.heap.size ≤ n) : Ints W' base v l := by
  refine ⟨h.1, ?_⟩
  rcases h.2 with h2 | ⟨g, cap, cur, e, hb2, hg, h4⟩
  · exact .inl h2
  · exact .inr ⟨g, cap, cur, e, hb2, (hb.block g (Nat.lt_of_lt_of_le (Array.getElem?_eq_some_iff.1 hg).1 hn)).trans hg, h4⟩

theorem own_below {W W' : World} {base e size : Nat} {v : Value} {n : Nat} {xs : List Value} {n₀ : Nat} (h : W.ownsRow base e size v n xs) (hg : W.grownBy W' v.ownBlock) (hn : n₀ ≤ W.heap.size) (hb : n₀ ≤ base) : Below n₀ W W' := by
  refine (Below.refl n₀ W).grown hg hn fun j ej => ?_
  rcases h.2 with ⟨rfl, _⟩ | ⟨g, cap, cur, rfl, hb2, _, _⟩
  · simp [Value.ownBlock] at ej
  · obtain rfl : g = j := by simpa [Value.ownBlock] using ej
    omega

/-- 'out = append(out, x)', out the call's own. -/
theorem wpl_app {ops : Array Oper} {rest : List Oper} {o : Oper} {a : Act} {w : World} {Q : Exit → Act → World → Prop} (hgd : o.guard = none) (s x : Operand)
    (ho : o.op = .call { callee := .builtin .append, args := #[s, x], argTypes := #[25, 25] }) (n₀ base : Nat) (v : Value) (l : List Int) (k : Int) (hs : a.eval s = v) (hown : Ints w base v l)
    (ad : Addr) (c : Nat) (hx : a.eval x = .slice (some ad) 1 c) (hc : w.cell? ad = some (.int .i64 k)) (hl : l.length ≤ 1000) (hbase : base ≤ w.heap.size) (hn : n₀ ≤ base)
    (h : ∀ v' w', Ints w' base v' (l ++ [k]) → Below n₀ w w' → wpList Try.prog ops Q rest (a.put o.dst v') w') : wpList Try.prog ops Q (o :: rest) a w := by
  obtain ⟨i0, hi, hz0, hz1, hz2⟩ := info_parts info3
  refine wpList_append_own w hgd s x 25 ho base 3 i0 (.int .i64 0) 1 8 Try.underlying25 hi hz0 hz1 hz2 rfl (by decide) v l.length (l.map (.int .i64)) hs hown ad 1 c [.int .i64 k] hx rfl ?_ ?_ ?_ ?_ hbase ?_
  · intro j u hj
    match j, hj with
    | 0, hj => simp at hj; subst hj; simpa [Addr.add] using hc
  · intro u hu; simp at hu; subst hu; rfl
  · unfold maxLen; omega
  · omega
  · intro v' w' h2 h3 _
    refine h v' w' ?_ (own_below hown h3 (by omega) hn)
    unfold Ints
    rw [List.length_append, List.map_append]
    exact h2

/-! The nodes' cells. -/
def nodeCells : List Node → List Value
  | [] => []
  | x :: xs => .int .i64 x.u :: .int .i64 x.w :: .int .i64 x.f :: nodeCells xs
theorem nodeCells_len : ∀ (ns : List Node), (nodeCells ns).length = ns.length * 3
  | [] => rfl
  | x :: xs => by simp only [nodeCells, List.length_cons, nodeCells_len xs]; omega
theorem nodeCells_one : ∀ (ns : List Node), ∀ u ∈ nodeCells ns, u.oneCell' = true
  | [], _, h => by simp [nodeCells] at h
  | x :: xs, u, h => by
    simp only [nodeCells, List.mem_cons] at h
    rcases h with rfl | rfl | rfl | h
    · rfl
    · rfl
    · rfl
    · exact nodeCells_one xs u h
theorem nodeCells_at : ∀ (ns : List Node) (i : Nat) (x : Node), ns[i]? = some x → (nodeCells ns)[i * 3]? = some (.int .i64 x.u) ∧ (nodeCells ns)[i * 3 + 1]? = some (.int .i64 x.w) ∧ (nodeCells ns)[i * 3 + 2]? = some (.int .i64 x.f)
  | [], i, x, h => by simp at h
  | y :: ys, 0, x, h => by
    simp at h; subst h; exact ⟨rfl, rfl, rfl⟩
  | y :: ys, i + 1, x, h => by
    have := nodeCells_at ys i x (by simpa using h)
    have e : (i + 1) * 3 = i * 3 + 1 + 1 + 1 := by omega
    rw [e]
    simp only [nodeCells, List.getElem?_cons_succ]
    exact this
theorem nodeCells_of {W : World} {b off B : Nat} {ns : List Node} (h : Nodes W B (some ⟨b, off, none⟩) ns) : ∀ j u, (nodeCells ns)[j]? = some u → W.cell? ((⟨b, off, none⟩ : Addr).add j) = some u := by
  intro j u hj
  have hlt := (List.getElem?_eq_some_iff.1 hj).1
  rw [nodeCells_len] at hlt
  have hi : j / 3 < ns.length := by omega
  obtain ⟨b', off', e, _, c1, c2, c3⟩ := h.at_ (List.getElem?_eq_getElem hi)
  cases e
  obtain ⟨d1, d2, d3⟩ := nodeCells_at ns _ _ (List.getElem?_eq_getElem hi)
  have : j = j / 3 * 3 ∨ j = j / 3 * 3 + 1 ∨ j = j / 3 * 3 + 2 := by omega
  rcases this with e | e | e
  · rw [e] at hj ⊢; rw [d1] at hj; cases hj; rw [addr_add]; exact c1
  · rw [e] at hj ⊢; rw [d2] at hj; cases hj; rw [addr_add]; exact c2
  · rw [e] at hj ⊢; rw [d3] at hj; cases hj; rw [addr_add]; exact c3
/-- The slice v owns the nodes. -/
def OwnsN (W : World) (t : TypeId) (base : Nat) (v : Value) (ns : List Node) : Prop := W.ownsRow base t 3 v ns.length (nodeCells ns)
theorem OwnsN.lay {W : World} {t : TypeId} {base : Nat} {v : Value} {ns : List Node} (h : OwnsN W t base v ns) : ∃ A c, v = .slice A ns.length c ∧ (A = none → c = 0 ∧ ns = []) ∧ Nodes W W.heap.size A ns := by
  rcases h.2 with ⟨rfl, h0⟩ | ⟨g, cap, cur, rfl, hb, hg, h4, h5, h6, h7⟩
  · have : ns = [] := List.length_eq_zero_iff.1 h0
    exact ⟨none, 0, by rw [h0], fun _ => ⟨rfl, this⟩, .inl this⟩
  · refine ⟨some ⟨g, 0, none⟩, cap, rfl, fun h => (by cases h), .inr ⟨g, 0, rfl, (Array.getElem?_eq_some_iff.1 hg).1, fun i x hx => ?_⟩⟩
    obtain ⟨d1, d2, d3⟩ := nodeCells_at ns i x hx
    have c1 := World.ownsRow.cells h (g := g) rfl _ _ d1
    have c2 := World.ownsRow.cells h (g := g) rfl _ _ d2
    have c3 := World.ownsRow.cells h (g := g) rfl _ _ d3
    rw [addr_add] at c1 c2 c3
    exact ⟨c1, c2, c3⟩
theorem info46 : (Try.prog.info? 158).map (fun i => (i.zero, i.size, i.bytes)) = some (some (.agg #[.int .i64 0, .int .i64 0, .int .i64 0]), 3, 24) := by kernel_rfl
/-- 'append([]T{}, xs...)', T of three numbers. -/
theorem wpl_copy {ops : Array Oper} {rest : List Oper} {o : Oper} {a : Act} {w : World} {Q : Exit → Act → World → Prop} (hgd : o.guard = none) (s x : Operand) (st et : TypeId) {it : TypeInfo}
    (hst : Try.prog.underlying st = some (.slice et)) (hi : Try.prog.info? et = some it) (hz0 : it.zero = some (.agg #[.int .i64 0, .int .i64 0, .int .i64 0])) (hz1 : it.size = 3) (hz2 : it.bytes = 24)
    (ho : o.op = .call { callee := .builtin .append, args := #[s, x], argTypes := #[st, st] }) (n₀ : Nat) (v : Value) (hs : a.eval s = v) (hown : OwnsN w et n₀ v [])
    (A : Option Addr) (c : Nat) (ns : List Node) (hA : A = none → c = 0 ∧ ns = []) (hx : a.eval x = .slice A ns.length c) (hN : Nodes w w.heap.size A ns) (hl : ns.length ≤ 1000) (hn : n₀ ≤ w.heap.size)
    (h : ∀ v' w', OwnsN w' et n₀ v' ns → Below n₀ w w' → wpList Try.prog ops Q rest (a.put o.dst v') w') : wpList Try.prog ops Q (o :: rest) a w := by
  cases A with
  | none =>
    obtain ⟨rfl, rfl⟩ := hA rfl
    exact wpList_append_own_none hgd s x st ho n₀ et it 3 hst hi v 0 [] hs hown hx (h v w hown (Below.refl _ _))
  | some ad =>
    refine wpList_append_own w hgd s x st ho n₀ et it _ 3 24 hst hi hz0 hz1 hz2 rfl (by decide) v 0 [] hs hown ad ns.length c (nodeCells ns) hx (nodeCells_len ns) ?_ (nodeCells_one ns) ?_ ?_ hn ?_
    · intro j u hj
      obtain ⟨b, off, rfl⟩ : ∃ b off, ad = ⟨b, off, none⟩ := by
        rcases hN with rfl | ⟨b, off, e, _⟩
        · simp [nodeCells] at hj
        · cases e; exact ⟨b, off, rfl⟩
      exact nodeCells_of hN j u hj
    · unfold maxLen; omega
    · omega
    · intro v' w' h2 h3 _
      refine h v' w' ?_ (own_below hown h3 hn (Nat.le_refl _))
      unfold OwnsN
      simpa using h2
theorem ownsN_made (w : World) (t : TypeId) (n₀ : Nat) (hn : n₀ ≤ w.heap.size) : OwnsN (w.alloc (.cells #[] t)) t n₀ (.slice (some ⟨w.heap.size, 0, none⟩) 0 0) [] :=
  World.ownsRow_made w #[] 0 hn (by unfold maxLen; omega) rfl
theorem OwnsN.alloc {W : World} {t : TypeId} {base : Nat} {v : Value} {ns : List Node} (h : OwnsN W t base v ns) (o : Obj) : OwnsN (W.alloc o) t base v ns := World.ownsRow.alloc h o
end Go.Proofs.Ytmbcpmnigggbaaa.Sh
