import Derived.Test.YtmbcpmnigggbaaaSS
import Derived.Test.YtmbcpmnigggbaaaLD
import Derived.Test.YtmbcpmnigggbaaaO1
import Derived.Test.YtmbcpmnigggbaaaShM7
namespace Go.Proofs.Ytmbcpmnigggbaaa
open Go.RowKit
theorem sum_snoc {l : List Int} {k : Nat} {x : Int} (h : l[k]? = some x) : (l.take (k + 1)).sum = (l.take k).sum + x := by
  rw [List.take_add_one, h]
  simp
theorem sum_any (A : Option Addr) (c : Nat) (l : List Int) (hl : l.length ≤ 1000) (hb : ∀ k, k ≤ l.length → -100000 ≤ (l.take k).sum ∧ (l.take k).sum ≤ 100000) (w : World) (h : IntsAt w w.heap.size A l) :
    Calls Try.prog 49 #[.slice A l.length c] w fun e w' => e = .returned (.int .i64 l.sum) ∧ w = w' := by
  have H := Lib.hid h
  have HB := Lib.hid hb
  clear h hb
  go_enter Try.func49, Try.ntmps49
  go_wp2
  go_loopw [4, 3] (fun i x wr => ∃ k : Nat, k ≤ l.length ∧ i = .int .i64 k ∧ (∃ y : Int, x = .int .i64 y ∧ Hid (y = (l.take k).sum)) ∧ w = wr) (fun i _ _ => l.length - (intOf i).toNat)
  case atStart => exact ⟨0, Nat.zero_le _, rfl, ⟨0, rfl, Lib.hid (by simp)⟩, rfl⟩
  case round =>
    obtain ⟨k, hk, rfl, ⟨y, rfl, hy⟩, rfl⟩ := hrel
    by_cases hlt : k < l.length
    · obtain ⟨x, hx⟩ : ∃ x, l[k]? = some x := ⟨_, List.getElem?_eq_getElem hlt⟩
      obtain ⟨b1, o1, rfl, _, d1⟩ := IntsAt.at_ H.out hx
      have h0 := HB.out k hk
      have h1 := HB.out (k + 1) hlt
      rw [sum_snoc hx] at h1
      have hyv := hy.out
      have hyb : -100000 ≤ y ∧ y ≤ 100000 := by omega
      have hyx : -100000 ≤ y + x ∧ y + x ≤ 100000 := by omega
      have hxb : -200000 ≤ x ∧ x ≤ 200000 := by omega
      have HN1 := Lib.hid (show y + x = (l.take (k + 1)).sum by rw [sum_snoc hx]; omega)
      clear h0 h1 hyv hx
      go_wp2
      go_roundw
      case rel => exact ⟨k + 1, by omega, by go_num, ⟨y + x, by go_num, HN1⟩, by trivial⟩
      case measure => simp [intOf]; omega
    · obtain rfl : k = l.length := by omega
      have e : y = l.sum := by rw [hy.out]; simp
      subst e
      go_wp2
      go_ret
      exact ⟨rfl, rfl⟩
theorem kepts_take (ns : List Sh.Node) (p : Int) {k : Nat} (hk : k ≤ ns.length) : ((Sh.keptsS ns p).take k).sum = Sh.keptSum ns p k := by
  unfold Sh.keptsS Sh.keptSum
  rw [← List.map_take, List.take_range, Nat.min_eq_left hk]
theorem SumK (A : Option Addr) (c : Nat) (ns : List Sh.Node) (hg : Sh.GoodC ns) {p : Int} (hp : 0 ≤ p ∧ p ≤ 400) (w : World) (h : IntsAt w w.heap.size A (Sh.keptsS ns p)) :
    Calls Try.prog 49 #[.slice A ns.length c] w fun e w' => e = .returned (.int .i64 p) ∧ w = w' := by
  have hl : (Sh.keptsS ns p).length = ns.length := by simp [Sh.keptsS]
  have hs : (Sh.keptsS ns p).sum = p := by
    have h1 := kepts_take ns p (Nat.le_refl _)
    rw [Sh.keptSum_all hg hp.1, ← hl, List.take_length] at h1
    exact h1
  have := sum_any A c (Sh.keptsS ns p) (by rw [hl]; have := hg.l8; omega) (fun k hk => by
    rw [hl] at hk
    rw [kepts_take ns p hk]
    have := Sh.keptSum_bd hg hp.1 hk
    omega) w h
  rw [hl, hs] at this
  exact this
theorem Sh.gots_at {ns : List Sh.Node} {p : Int} {k : Nat} (hk : k < ns.length) : (Sh.gotsS ns p)[k]? = some (Sh.gotS ns p k) := by simp [Sh.gotsS, hk]
theorem Gets_ok (A : Option Addr) (c : Nat) (ns : List Sh.Node) (hn : ns.length ≤ 1000) (hk : Sh.ckE ns = 0) {n : Int} (hp : 0 ≤ n ∧ n ≤ 400) (w : World) (hN : Sh.Nodes w w.heap.size A ns) :
    Calls Try.prog 112 #[.agg #[.slice A ns.length c], .int .i64 n] w fun e w' => (∃ A7 c7, e = .returned (.tuple #[.slice A7 ns.length c7, .int .i64 0]) ∧ IntsAt w' w'.heap.size A7 (Sh.gotsS ns n)) ∧ Below w.heap.size w w' := by
  refine (Sh.gets_all A c ns n hn w hN (Sh.gotsS ns n) (if_pos (Sh.pence_zero hk hp.1 hp.2)) 0 (Sh.pence_zero hk hp.1 hp.2)).mono ?_
  rintro e w' ⟨B, d, rfl, hI, hb⟩
  have hl : (Sh.gotsS ns n).length = ns.length := by simp [Sh.gotsS]
  exact ⟨⟨B, d, by rw [hl], hI⟩, hb⟩
set_option maxRecDepth 100000 in
set_option maxHeartbeats 4000000 in
theorem part_any (A : Option Addr) (c : Nat) (ns : List Sh.Node) (hn : ns.length ≤ 1000) (hk : Sh.ckE ns = 0) (m : Nat) (hm : m < ns.length) {n : Int} (hp : 0 ≤ n ∧ n ≤ 400) (w : World) (hN : Sh.Nodes w w.heap.size A ns) :
    Calls Try.prog 52 #[.agg #[.slice A ns.length c], .int .i64 m, .int .i64 n] w fun e w' => e = .returned (.tuple #[.int .i64 (Sh.gotS ns n m), .bool true]) ∧ Below w.heap.size w w' := by
  have bC := Boxed.new w 76 (.slice A ns.length c)
  have c1 := bC.cell
  have HB := Lib.hid (al_below w (.cells #[.slice A ns.length c] 76))
  have HG := Lib.hid (Gets_ok A c ns hn hk hp (w.alloc (.cells #[.slice A ns.length c] 76)) (Sh.Nodes.alloc hN _))
  clear hN hk hp
  go_enter Try.func52, Try.ntmps52
  go_wp2_with (go_at_call 112; go_must (refine HG.out.mono ?_; rintro e w1 ⟨⟨A7, c7, rfl, hI⟩, hb1⟩; have m1 := (Sh.boxed_ext hb1 bC).cell; have HB1 := Lib.hid hb1; obtain ⟨b1, o1, rfl, _, d1⟩ := IntsAt.at_ hI (Sh.gots_at hm); clear hI hb1))
  go_ret2
  exact ⟨rfl, hb0to HB.out HB1.out⟩
theorem exPaid : paidRet exF = (42, 0) := by kernel_rfl
theorem exC39 {W : World} {F : FL} (H : FairAt W W.heap.size F exF) : Calls Try.prog 39 #[F.enc exF] W fun e w' => e = .returned (.tuple #[.int .i64 42, .int .i64 0]) ∧ Below W.heap.size W w' := by
  refine (Paid_any F _ ex_fn W H).mono ?_
  rintro e w' ⟨h, hb⟩
  unfold NumEnd at h
  rw [exPaid] at h
  exact ⟨h, hb⟩
/-- The memory of divided: the example's fair, and the example's custom. -/
structure ExV (W : World) (s : Nat) (F : FL) : Prop where
  f : FairAt W W.heap.size F exF
  x : FBox W s F exF
theorem ExV.next {W W' : World} {s : Nat} {F : FL} (H : ExV W s F) (hb : Below W.heap.size W W') : ExV W' s F := ⟨H.f.below hb, H.x.of (hb.block _ H.x.lt)⟩
theorem ExV.new {W : World} {F : FL} (hF : FairAt W W.heap.size F exF) (o : Obj) : ExV ((W.alloc (.cells (F.cells exF) 62)).alloc o) W.heap.size F := by
  have hb := hb0to (al_below W (.cells (F.cells exF) 62)) (al_below _ o)
  exact ⟨hF.below hb, (FBox.new W F exF).of (Below.heap_alloc _ _ _ (by simp))⟩
set_option maxRecDepth 100000 in
set_option maxHeartbeats 4000000 in
theorem divided_any (w : World) : Calls Try.prog 47 #[] w fun e w' => e = .returned (.bool true) ∧ Below w.heap.size w w' := by
  have hq := Sh.eq33 2 5
  go_enter Try.func47, Try.ntmps47
  go_wp2_with (first
    | (go_at_call 81; go_must (refine (example_any _).mono ?_; rintro e w1 ⟨⟨⟨⟨k1, k2, k3, k4, k5, k6⟩, k7, k8, k9, k10⟩, ⟨⟨l1, l2, l3, l4, l5, l6⟩, l7, l8, l9, l10⟩, rfl, hF, hG⟩, hb⟩; have M := Lib.hid (ExV.new hF (.cells #[.slice l1 (dayF exF 5).h.ks.length l2, .int .i64 (dayF exF 5).h.fl, .slice l3 (dayF exF 5).h.ps.length l4, .slice l5 (dayF exF 5).h.bs.length l6, .slice l7 (dayF exF 5).pk.length l8, .int .i64 (dayF exF 5).day, .int .i64 (dayF exF 5).nb, .slice l9 (dayF exF 5).q.length l10] 62)); have B := Lib.hid (hb0to hb (hb0to (al_below w1 (.cells #[.slice k1 exF.h.ks.length k2, .int .i64 exF.h.fl, .slice k3 exF.h.ps.length k4, .slice k5 exF.h.bs.length k6, .slice k7 exF.pk.length k8, .int .i64 exF.day, .int .i64 exF.nb, .slice k9 exF.q.length k10] 62)) (al_below _ (.cells #[.slice l1 (dayF exF 5).h.ks.length l2, .int .i64 (dayF exF 5).h.fl, .slice l3 (dayF exF 5).h.ps.length l4, .slice l5 (dayF exF 5).h.bs.length l6, .slice l7 (dayF exF 5).pk.length l8, .int .i64 (dayF exF 5).day, .int .i64 (dayF exF 5).nb, .slice l9 (dayF exF 5).q.length l10] 62)))); obtain ⟨c0, c1, c2, c3, c4, c5, c6, c7⟩ := M.out.x.cells; clear hF hG hb))
    | (go_at_call 97; go_must (refine (Sh.example_any _).mono ?_; rintro e w2 ⟨g, h, rfl, hC, hD, hb⟩; have hb2 := hb0to hb (hb0to (al_below w2 (.cells #[.slice (some ⟨g, 0, none⟩) 8 8] 76)) (al_below _ (.cells #[.slice (some ⟨h, 0, none⟩) 5 5] 76))); have M2 := Lib.hid (M.out.next hb2); have B2 := Lib.hid (hb0to B.out hb2); have hC2 := Lib.hid (Sh.Nodes.alloc (Sh.Nodes.alloc hC (.cells #[.slice (some ⟨g, 0, none⟩) 8 8] 76)) (.cells #[.slice (some ⟨h, 0, none⟩) 5 5] 76)); have bC := (Boxed.new w2 76 (.slice (some ⟨g, 0, none⟩) 8 8)).alloc (.cells #[.slice (some ⟨h, 0, none⟩) 5 5] 76); have bc0 := bC.cell; obtain ⟨c0, c1, c2, c3, c4, c5, c6, c7⟩ := M2.out.x.cells; clear hC hD hb hb2))
    | (go_at_call 39; go_must (refine (exC39 M2.out.f).mono ?_; rintro e w3 ⟨rfl, hb⟩; have hC3 := Lib.hid (Sh.Nodes.lt hC2.out hb); have bC3 := Sh.boxed_ext hb bC; have bc0 := bC3.cell; have B3 := Lib.hid (hb0to B2.out hb); clear hb))
    | (go_at_call 100; go_must (refine (Sh.exX g _ hC3.out).mono ?_; rintro e w4 ⟨rfl, hb⟩; have B4 := Lib.hid (hb0to B3.out hb); clear hb)))
  go_ret
  exact ⟨rfl, hb0to B4.out (al_below _ _)⟩

end Go.Proofs.Ytmbcpmnigggbaaa
