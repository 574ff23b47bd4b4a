import Derived.Test.YtohoonbbjkefaaaF6
namespace Go.Proofs.Ytohoonbbjkefaaa
open Go.RowKit

/-! The part of a node, as the specification reckons it. -/
def exOf (ns : List Node) : Nat → Nat → Int × Int
  | 0, _ => (1, 1)
  | f + 1, n => if n = 0 then (1, 1) else if wsum ns (upN ns n) = 0 then (0, 1) else ((exOf ns f (upN ns n)).1 * (nodeAt ns n).w, (exOf ns f (upN ns n)).2 * wsum ns (upN ns n))
def exN (ns : List Node) (n : Nat) : Int × Int := exOf ns n n
theorem exOf_more {ns : List Node} (h : GoodC ns) : ∀ (n f : Nat), n < ns.length → n ≤ f → exOf ns f n = exN ns n := by
  intro n
  induction n using Nat.strongRecOn with
  | _ n ih =>
    intro f hn hf
    cases n with
    | zero => cases f <;> simp [exOf, exN]
    | succ n =>
      obtain ⟨f, rfl⟩ : ∃ g, f = g + 1 := ⟨f - 1, by omega⟩
      have hu : upN ns (n + 1) < n + 1 := (h.upN hn (by omega)).1
      rw [exN]
      simp only [exOf, if_neg (Nat.succ_ne_zero n)]
      rw [ih _ hu f (by omega) (by omega), ih _ hu n (by omega) (by omega)]
theorem exN_up {ns : List Node} (h : GoodC ns) {n : Nat} (hn : n < ns.length) (h0 : 0 < n) : exN ns n = if wsum ns (upN ns n) = 0 then (0, 1) else ((exN ns (upN ns n)).1 * (nodeAt ns n).w, (exN ns (upN ns n)).2 * wsum ns (upN ns n)) := by
  obtain ⟨m, rfl⟩ : ∃ m, n = m + 1 := ⟨n - 1, by omega⟩
  have hu : upN ns (m + 1) < m + 1 := (h.upN hn (by omega)).1
  rw [exN]
  simp only [exOf, if_neg (Nat.succ_ne_zero m)]
  rw [exOf_more h _ m (by omega) (by omega)]
theorem exN_bd {ns : List Node} (h : GoodC ns) : ∀ n, n < ns.length → ExB (7 - n) (exN ns n).1 (exN ns n).2 := by
  intro n
  induction n using Nat.strongRecOn with
  | _ n ih =>
    intro hn
    have h8 := h.l8
    by_cases h0 : n = 0
    · subst h0; exact ExB.start
    · have hu : upN ns n < n := (h.upN hn (by omega)).1
      rw [exN_up h hn (by omega)]
      split
      · exact ⟨by decide, by have := (ExB.start (k := 7 - n)).2.1; simp only; omega, by decide, (ExB.start (k := 7 - n)).2.2.2⟩
      · rename_i hs
        have hw := h.ws n _ (GoodC.at_ hn)
        have hb := wsum_bd h (upN ns n)
        exact (ih _ hu (by omega)).step (by omega) (by omega) hw (by omega)
theorem ex_rel {ns : List Node} (h : GoodC ns) : ∀ n, n < ns.length → ∀ a b : Int, exGo ns n n a b = some (a * (exN ns n).1, b * (exN ns n).2) ∨ (exGo ns n n a b = none ∧ (exN ns n).1 = 0) := by
  intro n
  induction n using Nat.strongRecOn with
  | _ n ih =>
    intro hn a b
    by_cases h0 : n = 0
    · subst h0; exact .inl (by rw [exGo_zero]; simp [exN, exOf])
    · have hu : upN ns n < n := (h.upN hn (by omega)).1
      rw [exN_up h hn (by omega)]
      by_cases hs : wsum ns (upN ns n) = 0
      · rw [exGo_none (by omega) a b hs, if_pos hs]
        exact .inr ⟨rfl, rfl⟩
      · rw [exGo_up h hn (by omega) a b hs, if_neg hs]
        rcases ih _ hu (by omega) (a * (nodeAt ns n).w) (b * wsum ns (upN ns n)) with h1 | ⟨h1, h2⟩
        · refine .inl ?_
          rw [h1]
          simp only [Option.some.injEq, Prod.mk.injEq]
          exact ⟨by rw [Int.mul_assoc, Int.mul_comm (nodeAt ns n).w], by rw [Int.mul_assoc, Int.mul_comm (wsum ns (upN ns n))]⟩
        · refine .inr ⟨h1, ?_⟩
          simp only
          rw [h2, Int.zero_mul]
theorem red_exN {ns : List Node} (h : GoodC ns) {n : Nat} (hn : n < ns.length) : redS (exN ns n) = exactV ns n := by
  have hb := (exN_bd h n hn).top
  rcases ex_rel h n hn 1 1 with h1 | ⟨h1, h2⟩
  · unfold exactV
    rw [h1]
    simp
  · unfold exactV
    rw [h1]
    simp only
    unfold redS
    rw [h2]
    have e : (Int.gcd 0 (exN ns n).2 : Int) = (exN ns n).2 := by rw [Int.gcd_zero_left]; omega
    rw [e, Int.zero_ediv, Int.ediv_self (by omega)]

set_option maxRecDepth 100000 in
set_option maxHeartbeats 4000000 in
theorem reduced_any (num den : Int) (h0 : 0 ≤ num) (h1 : num ≤ 3938980639167) (h2 : 1 ≤ den) (h3 : den ≤ 3938980639167) (w : World) :
    Calls Try.prog 30 #[.int .i64 num, .int .i64 den] w fun e w' => e = .returned (.agg #[.int .i64 (redS (num, den)).1, .int .i64 (redS (num, den)).2]) ∧ Below w.heap.size w w' := by
  obtain ⟨W0, hW0⟩ : ∃ W0, w.alloc (.cells #[.int .i64 0, .int .i64 0] 33) = W0 := ⟨_, rfl⟩
  have b2 : Two W0 w.heap.size 0 0 := by rw [← hW0]; exact World.alloc_heap_new _ _
  have hB0 : Below w.heap.size w W0 := by rw [← hW0]; exact (Below.refl _ w).alloc (Nat.le_refl _) _
  have hmx : ¬ num < -num := by omega
  have hmx2 : -num ≤ num := by omega
  have hgp := gcd_pos (num := num) h2
  go_enter Try.func30, Try.ntmps30
  go_wp2
  clear hW0
  go_loopw [5, 6] (fun x y wr => ∃ a b : Int, x = .int .i64 a ∧ y = .int .i64 b ∧ 0 ≤ a ∧ a ≤ 3938980639167 ∧ 0 ≤ b ∧ b ≤ 3938980639167 ∧ Hid (Int.gcd a b = Int.gcd num den) ∧ Below W0.heap.size W0 wr)
    (fun _ y _ => (intOf y).toNat)
  case atStart => exact ⟨num, den, rfl, rfl, by omega, by omega, by omega, by omega, Lib.hid rfl, Below.refl _ _⟩
  case round =>
    obtain ⟨a, b, rfl, rfl, ha, ha2, hb, hbb, HG, hb4⟩ := hrel
    by_cases hb0 : 0 < b
    · have hbe : (b == 0) = false := by rw [beq_eq_false_iff_ne]; omega
      have hst := gcd_step (a := a) hb0
      have HG2 := Lib.hid (hst.1.trans HG.out)
      have h5 := hst.2.1
      have h6 := hst.2.2
      clear hst HG
      go_wp2
      refine wp_region_ext (by kernel_rfl) (by kernel_rfl) ?_
      repeat (go_big_quiet_step (fail))
      refine wpQuiet_nil ?_
      rintro _ ⟨x2, rfl⟩
      have hb5 := hb4.trans ((extB_below wr x2).mono hb4.size)
      go_wp2
      go_roundw
      case rel => exact ⟨b, _, rfl, rfl, by omega, by omega, h5, by omega, HG2, hb5⟩
      case measure => simp [intOf]; omega
    · obtain rfl : b = 0 := by omega
      have ea : (Int.gcd num den : Int) = a := by rw [← HG.out]; exact gcd_end ha
      have hapos : 0 < a := by omega
      have ha0 : (a == 0) = false := by rw [beq_eq_false_iff_ne]; omega
      have t1 := b2.below hb4 b2.lt
      have q1 := t1.c0
      have q2 := t1.c1
      have q3 := t1.fr
      have q4 := fun v => (t1.set0 v).c1
      have q5 := fun v => (t1.set0 v).fr
      have Q := Lib.hid t1.end_
      have hbf := hb0to hB0 hb4
      have EA := Lib.hid ea
      clear t1 HG ea
      go_wp2
      go_region
      go_wp2
      have z1 := (Q.out (num / a) (den / a)).c0
      have z2 := (Q.out (num / a) (den / a)).c1
      refine bodyPost_ret (v := .agg #[.int .i64 (num / a), .int .i64 (den / a)]) (by simp [results, Try.results30, go_sem, z1, z2]) rfl ⟨by rw [redS]; simp only; rw [EA.out], ?_⟩
      exact ((hbf.setCell (p := ⟨w.heap.size, 0, none⟩) (Nat.le_refl _) _).setCell (p := ⟨w.heap.size, 1, none⟩) (Nat.le_refl _) _).drew

set_option maxRecDepth 100000 in
set_option maxHeartbeats 4000000 in
theorem exactOf_any (A : Option Addr) (c : Nat) (ns : List Node) (hg : GoodC ns) : ∀ (m : Nat) (w : World), m < ns.length → Nodes w w.heap.size A ns →
    Calls Try.prog 70 #[.agg #[.slice A ns.length c], .int .i64 m] w fun e w' => e = .returned (.tuple #[.int .i64 (exN ns m).1, .int .i64 (exN ns m).2]) ∧ Below w.heap.size w w' := by
  intro m
  induction m using Nat.strongRecOn with
  | _ m ih =>
    intro w hm hN
    have EH := Lib.hid (Env.new c hN)
    have hl8 := hg.l8
    clear hN
    by_cases h0 : m = 0
    · subst h0
      have HQ := Lib.hid (show exN ns 0 = (1, 1) from rfl)
      clear ih
      go_enter Try.func70, Try.ntmps70
      go_wp2
      go_ret2
      exact ⟨by rw [HQ.out]; rfl, EH.out.hb⟩
    · have h1 : 0 < m := by omega
      have hmb : ((m : Int) == 0) = false := by rw [beq_eq_false_iff_ne]; omega
      have hu := hg.upN hm h1
      have hup : (upN ns m : Int) = (nodeAt ns m).u := hu.2
      have hum : upN ns m < m := hu.1
      have HU := Lib.hid (exN_up hg hm h1)
      have IH := Lib.hid (fun (W : World) (hW : Nodes W W.heap.size A ns) => (show Calls Try.prog 70 #[.agg #[.slice A ns.length c], .int .i64 (nodeAt ns m).u] W fun e w' => e = .returned (.tuple #[.int .i64 (exN ns (upN ns m)).1, .int .i64 (exN ns (upN ns m)).2]) ∧ Below W.heap.size W w' from by rw [← hup]; exact ih (upN ns m) hum W (by omega) hW))
      obtain ⟨b, off, hA, _, d1, _, _⟩ := EH.out.hN.at_ (GoodC.at_ hm)
      subst hA
      have q0 := EH.out.bC.cell
      have hw := hg.ws m _ (GoodC.at_ hm)
      have hbd := (exN_bd hg (upN ns m) (by omega))
      have hsb := wsum_bd hg (upN ns m)
      have SU := Lib.hid (fun (W : World) (hW : Nodes W W.heap.size (some ⟨b, off, none⟩) ns) (s : Int) (hs : wsum ns (upN ns m) = s) => (show Calls Try.prog 31 #[.agg #[.slice (some ⟨b, off, none⟩) ns.length c], .int .i64 (nodeAt ns m).u] W fun e w' => e = .returned (.int .i64 s) ∧ Below W.heap.size W w' from by rw [← hup, ← hs]; exact refSum_any _ c ns (upN ns m) hg W hW))
      by_cases hz : wsum ns (upN ns m) = 0
      · have HZ := Lib.hid hz
        have HQ := Lib.hid (show exN ns m = (0, 1) from by rw [HU.out, if_pos hz])
        clear h0 hu ih hz
        go_enter Try.func70, Try.ntmps70
        go_wp2_with (go_at_call 31; go_must (refine (SU.out _ EH.out.hN 0 HZ.out).mono ?_; rintro e w1 ⟨rfl, hb1⟩))
        go_ret2
        exact ⟨by rw [HQ.out]; rfl, (EH.out.next hb1).hb⟩
      · obtain ⟨s, hsS⟩ : ∃ s, wsum ns (upN ns m) = s := ⟨_, rfl⟩
        have hzb : (s == 0) = false := by rw [beq_eq_false_iff_ne]; omega
        have hst := (hbd.step (j := 7 - m) (w := (nodeAt ns m).w) (s := s) (by omega) (by omega) hw (by omega)).top
        have hbt := hbd.top
        have HSS := Lib.hid hsS
        have HQ := Lib.hid (show exN ns m = ((exN ns (upN ns m)).1 * (nodeAt ns m).w, (exN ns (upN ns m)).2 * s) from by rw [HU.out, if_neg hz, hsS])
        have hs2 : 1 ≤ s ∧ s ≤ 63 := by omega
        generalize (exN ns (upN ns m)).1 = xn at *
        generalize (exN ns (upN ns m)).2 = xd at *
        clear h0 hu ih hz hsS hbd hsb
        go_enter Try.func70, Try.ntmps70
        go_wp2_with (first
          | (go_at_call 70; go_must (refine (IH.out w1 E1.hN).mono ?_; rintro e w2 ⟨rfl, hb2⟩; have E2 := E1.next hb2))
          | (go_at_call 31; go_must (refine (SU.out _ EH.out.hN s HSS.out).mono ?_; rintro e w1 ⟨rfl, hb1⟩; have E1 := EH.out.next hb1; have r0 := E1.bC.cell)))
        have E2H := Lib.hid E2
        have x0 := extB_cell E2.bC.cell
        obtain ⟨_, _, ee, _, _, d2, _⟩ := E2.hN.at_ (GoodC.at_ hm)
        cases ee
        have x1c := extB_cell d2
        clear E1 E2 d2
        refine wp_region_ext (by kernel_rfl) (by kernel_rfl) ?_
        repeat (go_big_quiet_step ((go_at_call 31; exact ext_call (SU.out _ (Nodes.lt E2H.out.hN (extB_below _ _)) s HSS.out))))
        refine wpQuiet_nil ?_
        rintro _ ⟨x2, rfl⟩
        have hbE := (E2H.out.next (extB_below w2 x2)).hb
        go_wp2
        go_ret2
        exact ⟨by rw [HQ.out]; rfl, hbE⟩
end Go.Proofs.Ytohoonbbjkefaaa
