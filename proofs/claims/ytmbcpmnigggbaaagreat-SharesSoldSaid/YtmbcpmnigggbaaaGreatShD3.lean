import Derived.Deep.RegionHeld3
import Derived.Test.YtmbcpmnigggbaaaGreatS2
import Derived.Test.YtmbcpmnigggbaaaGreatShF2
import Derived.Test.YtmbcpmnigggbaaaGreatRows
import Derived.WalkKit
import Derived.ProofKit
import Derived.OpenShut
import Derived.Carry
import Derived.Deep.Slices
import Derived.Deep.Fields
import Derived.ChangeSame
import Derived.Lib.SmallJoins
import Derived.ChangeSlices
/- Four operations of a drawn region, each looked at once. -/
namespace Go.Proofs.YtmbcpmnigggbaaaGreat
section
variable {P : Program} {ops : Array Oper} {Q : Exit → Act → World → Prop} {md : Region.Mode} {S : World → Prop}
theorem listed_count {listed : Array Bool} {i : Nat} (h : listed.getD i true = false) : (listed.setIfInBounds i true).toList.count false + 1 = listed.toList.count false := by
  have hi : i < listed.size := by
    rcases Nat.lt_or_ge i listed.size with h' | h'
    · exact h'
    · simp [Array.getElem?_eq_none h'] at h
  obtain ⟨l⟩ := listed
  simp at hi h
  have h0 : l[i] = false := by simpa [hi] using h
  have hp : 0 < l.count false := List.count_pos_iff.2 (h0 ▸ List.getElem_mem hi)
  simp [List.count_set, h0, hi]
  omega
/-- Four operations of a region that come up in whatever order: each is looked at once, whatever of the others has come up; J says what holds (the four booleans: which has come up; the four values: what they yielded). Behind the four the region goes on. -/
theorem wpAnyH_four {i1 i2 i3 i4 n : Nat} {l0 : Array Bool} {a0 : Act} {w0 : World}
    (J : Bool → Bool → Bool → Bool → Value → Value → Value → Value → World → Prop) (L : Bool → Bool → Bool → Bool → Array Bool)
    (A : Act → Value → Value → Value → Value → Act)
    (hL : L false false false false = l0)
    (hl : ∀ b1 b2 b3 b4, (L b1 b2 b3 b4).setIfInBounds i1 true = L true b2 b3 b4 ∧ (L b1 b2 b3 b4).setIfInBounds i2 true = L b1 true b3 b4 ∧ (L b1 b2 b3 b4).setIfInBounds i3 true = L b1 b2 true b4 ∧ (L b1 b2 b3 b4).setIfInBounds i4 true = L b1 b2 b3 true)
    (hr : ∀ b1 b2 b3 b4, (b1 && b2 && b3 && b4) = true ∨ ((Region.ready md ops (L b1 b2 b3 b4)).isEmpty = false ∧ (Region.ready md ops (L b1 b2 b3 b4)).all (fun i => (i == i1 && !b1) || (i == i2 && !b2) || (i == i3 && !b3) || (i == i4 && !b4)) = true))
    (h0 : ∃ x1 x2 x3 x4, a0 = A a0 x1 x2 x3 x4 ∧ J false false false false x1 x2 x3 x4 w0)
    (h1 : ∀ b2 b3 b4 x1 x2 x3 x4 w, S w → J false b2 b3 b4 x1 x2 x3 x4 w → wpOp P ops Q i1 (fun a' w' => S w' ∧ ∃ v, a' = A a0 v x2 x3 x4 ∧ J true b2 b3 b4 v x2 x3 x4 w') (A a0 x1 x2 x3 x4) w)
    (h2 : ∀ b1 b3 b4 x1 x2 x3 x4 w, S w → J b1 false b3 b4 x1 x2 x3 x4 w → wpOp P ops Q i2 (fun a' w' => S w' ∧ ∃ v, a' = A a0 x1 v x3 x4 ∧ J b1 true b3 b4 x1 v x3 x4 w') (A a0 x1 x2 x3 x4) w)
    (h3 : ∀ b1 b2 b4 x1 x2 x3 x4 w, S w → J b1 b2 false b4 x1 x2 x3 x4 w → wpOp P ops Q i3 (fun a' w' => S w' ∧ ∃ v, a' = A a0 x1 x2 v x4 ∧ J b1 b2 true b4 x1 x2 v x4 w') (A a0 x1 x2 x3 x4) w)
    (h4 : ∀ b1 b2 b3 x1 x2 x3 x4 w, S w → J b1 b2 b3 false x1 x2 x3 x4 w → wpOp P ops Q i4 (fun a' w' => S w' ∧ ∃ v, a' = A a0 x1 x2 x3 v ∧ J b1 b2 b3 true x1 x2 x3 v w') (A a0 x1 x2 x3 x4) w)
    (hE : ∀ x1 x2 x3 x4 w, S w → J true true true true x1 x2 x3 x4 w → wpAnyH P md ops Q S n (L true true true true) (A a0 x1 x2 x3 x4) w)
    (hS : S w0) : wpAnyH P md ops Q S (n + 4) l0 a0 w0 := by
  have main : ∀ (k : Nat) b1 b2 b3 b4 x1 x2 x3 x4 w, (!b1).toNat + (!b2).toNat + (!b3).toNat + (!b4).toNat = k → S w → J b1 b2 b3 b4 x1 x2 x3 x4 w →
      wpAnyH P md ops Q S (n + k) (L b1 b2 b3 b4) (A a0 x1 x2 x3 x4) w := by
    intro k
    induction k with
    | zero =>
      intro b1 b2 b3 b4 x1 x2 x3 x4 w hk hS hJ
      cases b1 <;> cases b2 <;> cases b3 <;> cases b4 <;> first | exact hE _ _ _ _ _ hS hJ | exact absurd hk (by decide)
    | succ k ih =>
      intro b1 b2 b3 b4 x1 x2 x3 x4 w hk hS hJ
      rcases hr b1 b2 b3 b4 with h | ⟨hne, hall⟩
      · cases b1 <;> cases b2 <;> cases b3 <;> cases b4 <;> first | (exact absurd h (by decide)) | exact absurd hk (by simp)
      · refine ⟨fun h => by rw [h] at hne; exact absurd hne (by decide), fun i hi => ?_⟩
        have hx := List.all_eq_true.1 hall i hi
        simp only [Bool.or_eq_true, Bool.and_eq_true, beq_iff_eq, Bool.not_eq_true'] at hx
        rcases hx with ((⟨rfl, rfl⟩ | ⟨rfl, rfl⟩) | ⟨rfl, rfl⟩) | ⟨rfl, rfl⟩
        · refine wpOp_mono ?_ (h1 _ _ _ _ _ _ _ _ hS hJ)
          rintro a' w' ⟨hS', v, rfl, hJ'⟩
          rw [(hl _ _ _ _).1]
          exact ⟨hS', ih _ _ _ _ _ _ _ _ _ (by simp at hk ⊢; omega) hS' hJ'⟩
        · refine wpOp_mono ?_ (h2 _ _ _ _ _ _ _ _ hS hJ)
          rintro a' w' ⟨hS', v, rfl, hJ'⟩
          rw [(hl _ _ _ _).2.1]
          exact ⟨hS', ih _ _ _ _ _ _ _ _ _ (by simp at hk ⊢; omega) hS' hJ'⟩
        · refine wpOp_mono ?_ (h3 _ _ _ _ _ _ _ _ hS hJ)
          rintro a' w' ⟨hS', v, rfl, hJ'⟩
          rw [(hl _ _ _ _).2.2.1]
          exact ⟨hS', ih _ _ _ _ _ _ _ _ _ (by simp at hk ⊢; omega) hS' hJ'⟩
        · refine wpOp_mono ?_ (h4 _ _ _ _ _ _ _ _ hS hJ)
          rintro a' w' ⟨hS', v, rfl, hJ'⟩
          rw [(hl _ _ _ _).2.2.2]
          exact ⟨hS', ih _ _ _ _ _ _ _ _ _ (by simp at hk ⊢; omega) hS' hJ'⟩
  obtain ⟨x1, x2, x3, x4, ha, hJ⟩ := h0
  have := main 4 false false false false x1 x2 x3 x4 w0 rfl hS hJ
  rw [hL, ← ha] at this
  exact this
end
end Go.Proofs.YtmbcpmnigggbaaaGreat
namespace Go.Proofs.YtmbcpmnigggbaaaGreat
open Go.RowKit
set_option maxRecDepth 100000 in
set_option maxHeartbeats 4000000 in
theorem sold_law (A : Option Addr) (c : Nat) (ns : List Sh.Node) (hA : A = none → c = 0 ∧ ns = []) (hn : ns.length ≤ 9223372036854775807) (F : FL) (f : Fair) (hok : FLOK F f) (w : World) (hN : Sh.Nodes w w.heap.size A ns) (hF : FairAt w w.heap.size F f) :
    Calls Tryz.prog 3 #[.agg #[.slice A ns.length c], F.enc f] w fun e w' => e = .returned (.bool true) ∧ Below w.heap.size w w' := by
  obtain ⟨W0, hW0⟩ : ∃ W0, (w.alloc (.cells #[.slice A ns.length c] 24)).alloc (.cells #[.slice F.L.Ak f.h.ks.length F.L.ck, .int .i64 f.h.fl, .slice F.L.Ap f.h.ps.length F.L.cp, .slice F.L.Ab f.h.bs.length F.L.cb, .slice F.Ap f.pk.length F.cp, .int .i64 f.day, .int .i64 f.nb, .slice F.Aq f.q.length F.cq] 32) = W0 := ⟨_, rfl⟩
  have hbw : Below w.heap.size w W0 := by rw [← hW0]; exact hb0to (al_below _ _) (al_below _ _)
  have hx0 : FBox W0 (w.heap.size + 1) F f := by rw [← hW0]; exact heap_new2 _ _ _
  have hy0 : W0.heap[w.heap.size]? = some (.cells #[.slice A ns.length c] 24) := by rw [← hW0]; exact heap_keep (heap_new1 _ _)
  have HW0 := Lib.hid hW0
  have HBW := Lib.hid hbw
  have M := Lib.hid (SIn.mk (Sh.Nodes.lt hN hbw) hy0 (hF.below hbw) hx0)
  have B := Lib.hid (Below.refl W0.heap.size W0)
  obtain ⟨r0, r1, r2, r3, r4, r5, r6, r7⟩ := hx0.cells
  have k0 := cell_of_heap (o := 0) hy0 rfl
  clear hW0 hbw hx0 hy0 hN hF
  have HF5 := Lib.hid (fun W hW => farF_any F f W hW)
  by_cases h40 : 40 < ns.length
  · have HF4 := Lib.hid (fun W => Sh.far_big A ns.length c W hn true (by simpa using h40))
    clear h40 hok hA hn
    obtain ⟨L, Ap, cp, Aq, cq⟩ := F
    go_enter Tryz.func3, Tryz.ntmps3
    go_upto_region 1 with (fail)
    have e := HW0.out
    rw [e]
    clear e
    go_wp2_with (first
      | (go_at_call 4; refine (HF4.out _).mono ?_; rintro e wn ⟨rfl, hb⟩; have MN := Lib.hid (M.out.next hb); have BN := Lib.hid (hb0to B.out hb); have M := MN; have B := BN; clear MN BN; skip; obtain ⟨r0, r1, r2, r3, r4, r5, r6, r7⟩ := M.out.x.cells; have k0 := cell_of_heap (o := 0) M.out.bx rfl; clear hb)
      | (go_at_call 6; refine (Sh.works_any _).mono ?_; rintro e wn ⟨rfl, hb⟩; have MN := Lib.hid (M.out.next hb); have BN := Lib.hid (hb0to B.out hb); have M := MN; have B := BN; clear MN BN; skip; obtain ⟨r0, r1, r2, r3, r4, r5, r6, r7⟩ := M.out.x.cells; have k0 := cell_of_heap (o := 0) M.out.bx rfl; clear hb))
    go_ret
    exact ⟨rfl, hb0to HBW.out B.out⟩
  · have HF4 := Lib.hid (fun W => Sh.far_big A ns.length c W hn false (by simpa using h40))
    have hn4 : ns.length ≤ 1000 := by omega
    cases hh : farF f
    · rw [hh] at HF5
      have hfn := hugeF_fn (farF_no hh).1
      have H9 := Lib.hid (fun A5 k5 G W hN hF => Sold_any A5 k5 ns hn4 G f hfn W hN hF)
      have H10 := Lib.hid (fun W hN hF => rSold_any A c ns hn4 F f hfn hok W hN hF)
      have HFN := Lib.hid hfn
      have HC7 := Lib.hid (fun W hW => Sh.copy_own A c ns hA hn4 W hW)
      have HC8 := Lib.hid (fun W hW => copy_line F f hfn hok W hW)
      have hrl : (soldRet ns f).1.length ≤ 1000 := by
        unfold soldRet
        split
        · split
          · simpa [Sh.keptsS] using hn4
          · simp
        · simp
      obtain ⟨rl, er, hq⟩ : ∃ m e, soldRet ns f = (m, e) := ⟨_, _, rfl⟩
      rw [hq] at H9 H10 hrl
      have HRL := Lib.hid hrl
      clear h40 hok hA hn hh hfn hq hrl
      obtain ⟨L, Ap, cp, Aq, cq⟩ := F
      go_enter Tryz.func3, Tryz.ntmps3
      go_upto_region 1 with (fail)
      have e := HW0.out
      rw [e]
      clear e
      go_upto_region 3 with (first
        | (go_at_call 4; refine (HF4.out _).mono ?_; rintro e wn ⟨rfl, hb⟩; have MN := Lib.hid (M.out.next hb); have BN := Lib.hid (hb0to B.out hb); have M := MN; have B := BN; clear MN BN; skip; obtain ⟨r0, r1, r2, r3, r4, r5, r6, r7⟩ := M.out.x.cells; have k0 := cell_of_heap (o := 0) M.out.bx rfl; clear hb)
        | (go_at_call 5; refine (HF5.out _ M.out.H).mono ?_; rintro e wn ⟨rfl, hb⟩; have MN := Lib.hid (M.out.next hb); have BN := Lib.hid (hb0to B.out hb); have M := MN; have B := BN; clear MN BN; skip; obtain ⟨r0, r1, r2, r3, r4, r5, r6, r7⟩ := M.out.x.cells; have k0 := cell_of_heap (o := 0) M.out.bx rfl; clear hb))
      obtain ⟨wm, hwm⟩ : ∃ x : World, x = wn := ⟨_, rfl⟩
      clear hwm wm
      have hwl1 : w.heap.size + 1 < wn.heap.size := M.out.x.lt
      have hwl : w.heap.size < wn.heap.size := Nat.lt_of_succ_lt hwl1
      have u1 := Nat.ne_of_lt hwl
      have u2 := Nat.ne_of_gt hwl
      have u3 := Nat.ne_of_lt hwl1
      have u4 := Nat.ne_of_gt hwl1
      have HNC := Lib.hid True.intro
      go_cut [5, 6] (fun s5 s6 wx => NewCF wn ns f s5 s6 wx)
      case first =>
        have HSO := Lib.hid (fun (w' : World) (hb : Below wn.heap.size wn w') => cells9 (M.out.next hb))
        have hS0 := HSO.out wn.drew (Below.drew (Below.refl _ _))
        refine wp_region_held_drew (S := fun w' => w'.cell? ⟨w.heap.size + 1, 0, none⟩ = some (.slice L.Ak f.h.ks.length L.ck) ∧ w'.cell? ⟨w.heap.size + 1, 1, none⟩ = some (.int .i64 f.h.fl) ∧ w'.cell? ⟨w.heap.size + 1, 2, none⟩ = some (.slice L.Ap f.h.ps.length L.cp) ∧ w'.cell? ⟨w.heap.size + 1, 3, none⟩ = some (.slice L.Ab f.h.bs.length L.cb) ∧ w'.cell? ⟨w.heap.size + 1, 4, none⟩ = some (.slice Ap f.pk.length cp) ∧ w'.cell? ⟨w.heap.size + 1, 5, none⟩ = some (.int .i64 f.day) ∧ w'.cell? ⟨w.heap.size + 1, 6, none⟩ = some (.int .i64 f.nb) ∧ w'.cell? ⟨w.heap.size + 1, 7, none⟩ = some (.slice Aq f.q.length cq) ∧ w'.cell? ⟨w.heap.size, 0, none⟩ = some (.slice A ns.length c)) (by kernel_rfl) hS0 (fun hHeld => ?_)
        change wpAnyH _ _ _ _ _ 8 #[false, false, false, false, false, false, false, false] _ _
        refine wpAnyH_take (i := 0) (oi := ⟨some 18, _, _, _, _, _⟩) (v := ?_) rfl (by kernel_rfl) (by kernel_rfl) (by kernel_rfl) (fun _ _ _ h => h) (Or.inl ⟨by rfl, ?_⟩) hHeld ?_
        rotate_left
        · intro w1 hSw; (try dsimp only at hSw); go_simp; (try with_reducible rfl)
        simp only [Act.put, List.setIfInBounds_toArray, List.set_cons_zero, List.set_cons_succ]
        change wpAnyH _ _ _ _ _ 7 #[true, false, false, false, false, false, false, false] _ _
        refine wpAnyH_take (i := 2) (oi := ⟨some 20, _, _, _, _, _⟩) (v := ?_) rfl (by kernel_rfl) (by kernel_rfl) (by kernel_rfl) (fun _ _ _ h => h) (Or.inl ⟨by rfl, ?_⟩) hHeld ?_
        rotate_left
        · intro w1 hSw; (try dsimp only at hSw); go_simp; (try with_reducible rfl)
        simp only [Act.put, List.setIfInBounds_toArray, List.set_cons_zero, List.set_cons_succ]
        change wpAnyH _ _ _ _ _ 6 #[true, false, true, false, false, false, false, false] _ _

        refine wpAnyH_four (i1 := 1) (i2 := 3) (i3 := 4) (i4 := 5) (n := 2) (JC wn ns f) (fun b1 b2 b3 b4 => #[true, b1, true, b2, b3, b4, false, false]) (fun a0 x1 x2 x3 x4 => (((a0.put (some 19) x1).put (some 21) x2).put (some 5) x3).put (some 6) x4) rfl
          (fun _ _ _ _ => ⟨rfl, rfl, rfl, rfl⟩) (fun b1 b2 b3 b4 => ?_) ⟨undef, undef, undef, undef, rfl, ?_⟩ ?_ ?_ ?_ ?_ ?_ hHeld
        · cases b1 <;> cases b2 <;> cases b3 <;> cases b4 <;> first | exact .inl rfl | exact .inr ⟨by kernel_rfl, by kernel_rfl⟩
        · exact ⟨Below.drew (Below.refl _ _), fun e => (by cases e), fun e => (by cases e), fun e => (by cases e), fun e => (by cases e)⟩
        · intro b2 b3 b4 x1 x2 x3 x4 w1 hS1 hJ
          refine wpOp_step (o := ⟨some 19, _, _, _, _, _⟩) rfl (fun K hK => ?_)
          simp only [Act.put, List.setIfInBounds_toArray, List.set_cons_zero, List.set_cons_succ]
          have HJ := Lib.hid hJ
          have HK := Lib.hid hK
          clear hJ hK
          go_simp
          go_wp2_with ((go_at_call 7; refine (HC7.out _ (Sh.Nodes.lt M.out.N HJ.out.B)).mono ?_; rintro e w5 ⟨A5, k5, rfl, how, hb⟩))
          refine HK.out _ _ ⟨HSO.out _ (HJ.out.next hb).B, _, rfl, { HJ.out.next hb with c := fun _ => ⟨A5, k5, rfl, Sh.own_mono how HJ.out.size⟩ }⟩
        · intro b1 b3 b4 x1 x2 x3 x4 w1 hS1 hJ
          refine wpOp_step (o := ⟨some 21, _, _, _, _, _⟩) rfl (fun K hK => ?_)
          simp only [Act.put, List.setIfInBounds_toArray, List.set_cons_zero, List.set_cons_succ]
          have HJ := Lib.hid hJ
          have HK := Lib.hid hK
          clear hJ hK
          go_simp
          go_wp2_with ((go_at_call 8; refine (HC8.out _ (M.out.H.below HJ.out.B)).mono ?_; rintro e w5 ⟨⟨G, rfl, hcf, hq⟩, hb⟩))
          refine HK.out _ _ ⟨HSO.out _ (HJ.out.next hb).B, _, rfl, { HJ.out.next hb with p := fun _ => ⟨G, rfl, hcf.mono HJ.out.size, hq.mono HJ.out.size⟩ }⟩
        · intro b1 b2 b4 x1 x2 x3 x4 w1 hS1 hJ
          refine wpOp_step (o := ⟨some 5, _, _, _, _, _⟩) rfl (fun K hK => ?_)
          simp only [Act.put, List.setIfInBounds_toArray, List.set_cons_zero, List.set_cons_succ]
          have HJ := Lib.hid hJ
          have HK := Lib.hid hK
          clear hJ hK
          go_simp
          refine HK.out _ _ ⟨HSO.out _ (HJ.out.next (al_below _ _)).B, .pointer (some ⟨w1.heap.size, 0, none⟩), rfl, { HJ.out.next (al_below _ _) with z := fun _ => ⟨w1.heap.size, rfl, HJ.out.size, heap_new1 _ _⟩ }⟩
        · intro b1 b2 b3 x1 x2 x3 x4 w1 hS1 hJ
          refine wpOp_step (o := ⟨some 6, _, _, _, _, _⟩) rfl (fun K hK => ?_)
          simp only [Act.put, List.setIfInBounds_toArray, List.set_cons_zero, List.set_cons_succ]
          have HJ := Lib.hid hJ
          have HK := Lib.hid hK
          clear hJ hK
          go_simp
          refine HK.out _ _ ⟨HSO.out _ (HJ.out.next (al_below _ _)).B, .pointer (some ⟨w1.heap.size, 0, none⟩), rfl, { HJ.out.next (al_below _ _) with y := fun _ => ⟨w1.heap.size, rfl, HJ.out.size, heap_new1 _ _⟩ }⟩
        · intro x1 x2 x3 x4 w1 hS1 hJ
          obtain ⟨B1, hc, hp, hz, hy⟩ := hJ
          obtain ⟨A5, k5, rfl, how⟩ := hc rfl
          obtain ⟨⟨⟨j1, j2, j3, j4, j5, j6⟩, j7, j8, j9, j10⟩, rfl, hcf, hq⟩ := hp rfl
          obtain ⟨z1, rfl, hl1, hz1⟩ := hz rfl
          obtain ⟨z2, rfl, hl2, hz2⟩ := hy rfl
          clear hc hp hz hy
          have hne : ¬ z1 = z2 := fun e => by rw [← e, hz1] at hz2; exact absurd hz2 (by simp)
          have hne' : ¬ z2 = z1 := fun e => hne e.symm
          have chz10 := cell_of_heap (o := 0) hz1 rfl; have chz1f := frozen_of_heap hz1
          have chz20 := cell_of_heap (o := 0) hz2 rfl; have chz21 := cell_of_heap (o := 1) hz2 rfl; have chz22 := cell_of_heap (o := 2) hz2 rfl; have chz23 := cell_of_heap (o := 3) hz2 rfl; have chz24 := cell_of_heap (o := 4) hz2 rfl; have chz25 := cell_of_heap (o := 5) hz2 rfl; have chz26 := cell_of_heap (o := 6) hz2 rfl; have chz27 := cell_of_heap (o := 7) hz2 rfl; have chz2f := frozen_of_heap hz2
          have HZ1 := Lib.hid hz1
          have HZ2 := Lib.hid hz2
          have HB1 := Lib.hid B1
          have HW := Lib.hid how
          have HC := Lib.hid hcf
          have HQ := Lib.hid hq
          have HL1 := Lib.hid hl1
          have HL2 := Lib.hid hl2
          clear hz1 hz2 B1 how hcf hq hl1 hl2
          simp only [Act.put, List.setIfInBounds_toArray, List.set_cons_zero, List.set_cons_succ]
          refine wpAnyH_ready (rs := [6]) (by kernel_rfl) (by simp) (AllReadyH.cons (o := ⟨none, _, _, _, _, _⟩) rfl (fun K hK => ?_) AllReadyH.nil)
          have HK := Lib.hid hK
          clear hK
          go_simp
          refine HK.out.out _ _ (HSO.out _ (below_s1 HB1.out HL1.out _)) (fun hHeld2 => ?_)
          change wpAnyH _ _ _ _ _ 1 #[true, true, true, true, true, true, true, false] _ _
          refine wpAnyH_ready (rs := [7]) (by kernel_rfl) (by simp) (AllReadyH.cons (o := ⟨none, _, _, _, _, _⟩) rfl (fun K hK => ?_) AllReadyH.nil)
          have HK2 := Lib.hid hK
          clear HK hK
          go_simp
          refine HK2.out.out _ _ (HSO.out _ (below_s8 (below_s1 HB1.out HL1.out _) HL2.out _ _ _ _ _ _ _ _)) (fun hHeld3 => wpAnyH_done (by kernel_rfl) ?_ _)
          clear HK2
          go_wp2_with (fail)
          go_meet
          have h2 := set1_other (x := .slice A5 ns.length k5) (o' := 0) HZ2.out hne'
          exact ⟨z1, z2, A5, k5, ⟨⟨j1, j2, j3, j4, j5, j6⟩, j7, j8, j9, j10⟩, rfl, rfl, Two2.of HW.out HC.out HQ.out (((K2.refl _).set1z HZ1.out).set8z h2) (set8_other (set1_same HZ1.out) hne) (set8_same h2) HL1.out HL2.out (below_s8 (below_s1 HB1.out HL1.out _) HL2.out _ _ _ _ _ _ _ _)⟩

      case rest =>
        obtain ⟨z1, z2, A5, k5, ⟨⟨g1, g2, g3, g4, g5, g6⟩, g7, g8, g9, g10⟩, rfl, rfl, T⟩ := hcut
        have O := Lib.hid (OIn.new M.out T)
        have BN := Lib.hid (hb0to B.out T.B)
        have B := BN
        clear BN T HC7 HC8 r0 r1 r2 r3 r4 r5 r6 r7 k0
        obtain ⟨r0, r1, r2, r3, r4, r5, r6, r7⟩ := O.out.M.x.cells; have k0 := cell_of_heap (o := 0) O.out.M.bx rfl; obtain ⟨q0, q1, q2, q3, q4, q5, q6, q7⟩ := O.out.y.cells; have p0 := cell_of_heap (o := 0) O.out.by_ rfl
        go_wp2_with (first
          | (go_at_call 9; refine (H9.out A5 k5 ⟨⟨g1, g2, g3, g4, g5, g6⟩, g7, g8, g9, g10⟩ _ O.out.N O.out.H).mono ?_; rintro e wn2 ⟨⟨A7, c7, rfl, hv7⟩, hb⟩; have ON := Lib.hid (O.out.next hb); have BN := Lib.hid (hb0to B.out hb); have O := ON; have B := BN; clear ON BN; have V := Lib.hid hv7; clear hv7; obtain ⟨r0, r1, r2, r3, r4, r5, r6, r7⟩ := O.out.M.x.cells; have k0 := cell_of_heap (o := 0) O.out.M.bx rfl; obtain ⟨q0, q1, q2, q3, q4, q5, q6, q7⟩ := O.out.y.cells; have p0 := cell_of_heap (o := 0) O.out.by_ rfl; clear hb)
          | (go_at_call 10; refine (H10.out _ O.out.M.N O.out.M.H).mono ?_; rintro e wn2 ⟨⟨A8, c8, rfl, hv8⟩, hb⟩; have ON := Lib.hid (O.out.next hb); have BN := Lib.hid (hb0to B.out hb); have O := ON; have B := BN; clear ON BN; have U := Lib.hid hv8; have VN := Lib.hid (ints_later V.out hb); have V := VN; clear hv8 VN; obtain ⟨r0, r1, r2, r3, r4, r5, r6, r7⟩ := O.out.M.x.cells; have k0 := cell_of_heap (o := 0) O.out.M.bx rfl; obtain ⟨q0, q1, q2, q3, q4, q5, q6, q7⟩ := O.out.y.cells; have p0 := cell_of_heap (o := 0) O.out.by_ rfl; clear hb)
          | (go_at_call 11; refine (sameInts_is A7 A8 c7 c8 rl HRL.out _ V.out U.out).mono ?_; rintro e wn2 ⟨rfl, hb⟩; have ON := Lib.hid (O.out.next hb); have BN := Lib.hid (hb0to B.out hb); have O := ON; have B := BN; clear ON BN; skip; obtain ⟨r0, r1, r2, r3, r4, r5, r6, r7⟩ := O.out.M.x.cells; have k0 := cell_of_heap (o := 0) O.out.M.bx rfl; obtain ⟨q0, q1, q2, q3, q4, q5, q6, q7⟩ := O.out.y.cells; have p0 := cell_of_heap (o := 0) O.out.by_ rfl; clear hb)
          | (go_at_call 12; refine (Sh.same_is A5 A k5 c ns hn4 _ O.out.N O.out.M.N).mono ?_; rintro e wn2 ⟨rfl, hb⟩; have ON := Lib.hid (O.out.next hb); have BN := Lib.hid (hb0to B.out hb); have O := ON; have B := BN; clear ON BN; skip; obtain ⟨r0, r1, r2, r3, r4, r5, r6, r7⟩ := O.out.M.x.cells; have k0 := cell_of_heap (o := 0) O.out.M.bx rfl; obtain ⟨q0, q1, q2, q3, q4, q5, q6, q7⟩ := O.out.y.cells; have p0 := cell_of_heap (o := 0) O.out.by_ rfl; clear hb)
          | (go_at_call 13; refine (sameF_is ⟨⟨g1, g2, g3, g4, g5, g6⟩, g7, g8, g9, g10⟩ ⟨L, Ap, cp, Aq, cq⟩ f HFN.out _ O.out.H O.out.M.H).mono ?_; rintro e wn2 ⟨rfl, hb⟩; have ON := Lib.hid (O.out.next hb); have BN := Lib.hid (hb0to B.out hb); have O := ON; have B := BN; clear ON BN; skip; obtain ⟨r0, r1, r2, r3, r4, r5, r6, r7⟩ := O.out.M.x.cells; have k0 := cell_of_heap (o := 0) O.out.M.bx rfl; obtain ⟨q0, q1, q2, q3, q4, q5, q6, q7⟩ := O.out.y.cells; have p0 := cell_of_heap (o := 0) O.out.by_ rfl; clear hb)
          | (go_at_call 6; refine (Sh.works_any _).mono ?_; rintro e wn2 ⟨rfl, hb⟩; have ON := Lib.hid (O.out.next hb); have BN := Lib.hid (hb0to B.out hb); have O := ON; have B := BN; clear ON BN; skip; obtain ⟨r0, r1, r2, r3, r4, r5, r6, r7⟩ := O.out.M.x.cells; have k0 := cell_of_heap (o := 0) O.out.M.bx rfl; obtain ⟨q0, q1, q2, q3, q4, q5, q6, q7⟩ := O.out.y.cells; have p0 := cell_of_heap (o := 0) O.out.by_ rfl; clear hb))
        go_ret
        exact ⟨rfl, hb0to HBW.out B.out⟩
    · rw [hh] at HF5
      clear h40 hok hA hn hh hn4
      obtain ⟨L, Ap, cp, Aq, cq⟩ := F
      go_enter Tryz.func3, Tryz.ntmps3
      go_upto_region 1 with (fail)
      have e := HW0.out
      rw [e]
      clear e
      go_wp2_with (first
        | (go_at_call 4; refine (HF4.out _).mono ?_; rintro e wn ⟨rfl, hb⟩; have MN := Lib.hid (M.out.next hb); have BN := Lib.hid (hb0to B.out hb); have M := MN; have B := BN; clear MN BN; skip; obtain ⟨r0, r1, r2, r3, r4, r5, r6, r7⟩ := M.out.x.cells; have k0 := cell_of_heap (o := 0) M.out.bx rfl; clear hb)
        | (go_at_call 5; refine (HF5.out _ M.out.H).mono ?_; rintro e wn ⟨rfl, hb⟩; have MN := Lib.hid (M.out.next hb); have BN := Lib.hid (hb0to B.out hb); have M := MN; have B := BN; clear MN BN; skip; obtain ⟨r0, r1, r2, r3, r4, r5, r6, r7⟩ := M.out.x.cells; have k0 := cell_of_heap (o := 0) M.out.bx rfl; clear hb)
        | (go_at_call 6; refine (Sh.works_any _).mono ?_; rintro e wn ⟨rfl, hb⟩; have MN := Lib.hid (M.out.next hb); have BN := Lib.hid (hb0to B.out hb); have M := MN; have B := BN; clear MN BN; skip; obtain ⟨r0, r1, r2, r3, r4, r5, r6, r7⟩ := M.out.x.cells; have k0 := cell_of_heap (o := 0) M.out.bx rfl; clear hb))
      go_ret
      exact ⟨rfl, hb0to HBW.out B.out⟩

end Go.Proofs.YtmbcpmnigggbaaaGreat
namespace Go.Proofs.YtmbcpmnigggbaaaGreat.Sh
open Go.Joins Go.ChangeShapes Go.WideShapes Go.ChangeAt Go.RowKit Go.Deep

section
variable {H : Type} {enc : TypeId × Value → H} {P : Program} {w : World} {base : Nat} {spare : Nat → Bool} {held : Bool}
theorem open_slice_fields {t e : TypeId} {fs : Array Field} {fuel : Nat} {cs : List Value} {x : DataW H × List MemPlace} (ht : P.underlying t = some (.slice e)) (he : P.underlying e = some (.struct fs))
    (hone : oneCellFields P fs = true) (hC : P.cellsOf e = fs.size) (h : DataW.trod enc P w base spare held fuel t cs = some x) :
    (cs = [.slice none 0 0] ∧ x = (.nil, [])) ∨
    ∃ (a : Addr) (len cap m : Nat) (D : Nat → DataW H) (Pl : Nat → List MemPlace), cs = [.slice (some a) len cap] ∧ base ≤ a.block ∧ len ≤ cap ∧ cap ≤ maxLen ∧ m = (if spare a.block then cap else len) ∧
      x = (.slice ((List.range len).map D) ((List.range (m - len)).map fun j => D (len + j)), MemPlace.row a (m * fs.size) ++ (List.range m).flatMap Pl) ∧
      ∀ i, i < m → ∃ (ys : List (DataW H × List MemPlace)) (n : Nat), D i = .agg (ys.map (·.1)) ∧ Pl i = ys.flatMap (·.2) ∧ ys.length = fs.size ∧
        ∀ (j : Nat) (f : Field), fs[j]? = some f → ∃ (v : Value) (y : DataW H × List MemPlace), w.cell? (a.add (i * fs.size + j)) = some v ∧ ys[j]? = some y ∧ DataW.trod enc P w base spare held n f.type [v] = some y := by
  rcases open_slice ht h with h0 | ⟨a, len, cap, m, n, D, Pl, hcs, hb, hl, hm, hmm, hx, hi⟩
  · exact .inl h0
  · refine .inr ⟨a, len, cap, m, D, Pl, hcs, hb, hl, hm, hmm, by rw [hC] at hx; exact hx, fun i him => ?_⟩
    obtain ⟨cs', hc, ht'⟩ := hi i him
    rw [hC] at hc
    obtain ⟨ys, n', hn', hy, hlen, hyl, hf⟩ := DataW.trod_struct he ht'
    obtain ⟨_, hcl, hat⟩ := World.cells?_some hc
    simp only [Prod.mk.injEq] at hy
    refine ⟨ys, n', hy.1, hy.2, hyl, fun j f hj => ?_⟩
    obtain ⟨ho, hk⟩ := hone_of hone j f hj
    have hjl : j < fs.size := (Array.getElem?_eq_some_iff.1 hj).1
    have hcell := hat j hjl
    have hv : cs'[j]? = some (cs'[j]'(by omega)) := List.getElem?_eq_getElem (by omega)
    have h1 := hf j f hj
    rw [ho, hk] at h1
    have hone' : (cs'.drop j).take 1 = [cs'[j]'(by omega)] := by
      rw [List.drop_eq_getElem_cons (by omega)]
      rfl
    rw [hone'] at h1
    have hys : ys[j]? = some (ys[j]'(by omega)) := List.getElem?_eq_getElem (by omega)
    refine ⟨_, _, ?_, hys, h1.trans hys⟩
    rw [← Go.Deep.add_add, hcell, hv]
theorem open_agg1 {r : Reach} {b0 : Nat} {t : TypeId} {f0 : Field} {v : Value} {d : DataW H} {p : List MemPlace} (hs : P.underlying t = some (.struct #[f0])) (hone : oneCellFields P #[f0] = true) (hC : P.cellsOf t = 1)
    (hv : Value.okWide P w r b0 t v) (h : DataW.Trod enc P w base spare held t v d p) :
    ∃ (v0 : Value) (y0 : DataW H × List MemPlace) (n : Nat), v = .agg #[v0] ∧ d = .agg [y0.1] ∧ p = y0.2 ∧ DataW.trod enc P w base spare held n f0.type [v0] = some y0 := by
  obtain ⟨cs, rfl, hsz⟩ := okWide_struct hs hv
  obtain ⟨l⟩ := cs
  match l, hsz.trans hC with
  | [c0], _ =>
    obtain ⟨fuel, hf⟩ := h
    obtain ⟨xs, n, _, hx, _, hlen, hg⟩ := DataW.trod_struct hs hf
    obtain ⟨o0, k0⟩ := hone_of hone 0 f0 rfl
    match xs, hlen with
    | [y0], _ =>
      simp only [Prod.mk.injEq] at hx
      exact ⟨c0, y0, n, rfl, by simpa using hx.1, by simpa using hx.2, by simpa [Value.cells, o0, k0] using hg 0 f0 rfl⟩

end

theorem list_of {α : Type} {Q : Nat → α → Prop} : ∀ (n : Nat), (∀ i, i < n → ∃ x, Q i x) → ∃ l : List α, l.length = n ∧ ∀ i x, l[i]? = some x → Q i x
  | 0, _ => ⟨[], rfl, fun i x h => by simp at h⟩
  | n + 1, h => by
    obtain ⟨l, hl, hq⟩ := list_of n (fun i hi => h i (by omega))
    obtain ⟨x, hx⟩ := h n (by omega)
    refine ⟨l ++ [x], by simp [hl], fun i y hy => ?_⟩
    by_cases hi : i < n
    · rw [List.getElem?_append_left (by omega)] at hy; exact hq i y hy
    · have hil := (List.getElem?_eq_some_iff.1 hy).1
      rw [List.length_append, List.length_singleton] at hil
      obtain rfl : i = n := by omega
      rw [List.getElem?_append_right (by omega), hl] at hy
      simp at hy
      subst hy
      exact hx
theorem spot_none {W : World} {a : Addr} {v : Value} (h : W.cell? a = some v) : a.spot = none := by
  unfold World.cell? at h
  split at h
  · cases hs : a.spot with
    | none => rfl
    | some s => simp [hs] at h
  · cases h
section
variable {H : Type} {enc : TypeId × Value → H} {W : World} {spare : Nat → Bool} {held : Bool}
/-- A list of structs of three numbers that came in. -/
theorem open_nodes {t e : TypeId} {f0 f1 f2 : Field} {n : Nat} {v0 : Value} {y0 : DataW H × List MemPlace} (hsp : ∀ b, spare b = true) (ht : Tryz.prog.underlying t = some (.slice e)) (he : Tryz.prog.underlying e = some (.struct #[f0, f1, f2])) (h3 : f0.type = 3 ∧ f1.type = 3 ∧ f2.type = 3)
    (hone : oneCellFields Tryz.prog #[f0, f1, f2] = true) (hC : Tryz.prog.cellsOf e = 3) (h : DataW.trod enc Tryz.prog W 0 spare held n t [v0] = some y0) :
    ∃ (A : Option Addr) (c : Nat) (ns : List Node), v0 = .slice A ns.length c ∧ (A = none → c = 0 ∧ ns = []) ∧ ns.length ≤ 9223372036854775807 ∧ Nodes W W.heap.size A ns := by
  rcases open_slice_fields ht he hone hC h with ⟨e1, _⟩ | ⟨a, len, cap, m, D, Pl, hcs, hb, hl, hm, hmm, hx, hi⟩
  · simp only [List.cons.injEq, and_true] at e1
    exact ⟨none, 0, [], e1, fun _ => ⟨rfl, rfl⟩, by simp, .inl rfl⟩
  · simp only [List.cons.injEq, and_true] at hcs
    rw [hsp, if_pos rfl] at hmm
    subst hmm
    obtain ⟨ns, hnl, hq⟩ := list_of (Q := fun i (x : Node) => W.cell? (a.add (i * 3)) = some (.int .i64 x.u) ∧ W.cell? (a.add (i * 3 + 1)) = some (.int .i64 x.w) ∧ W.cell? (a.add (i * 3 + 2)) = some (.int .i64 x.f)) len (fun i hil => by
      obtain ⟨ys, n', _, _, _, hf⟩ := hi i (by omega)
      obtain ⟨u0, z0, k0, _, t0⟩ := hf 0 f0 rfl
      obtain ⟨u1, z1, k1, _, t1⟩ := hf 1 f1 rfl
      obtain ⟨u2, z2, k2, _, t2⟩ := hf 2 f2 rfl
      rw [h3.1] at t0
      rw [h3.2.1] at t1
      rw [h3.2.2] at t2
      obtain ⟨i0, e0, _⟩ := DataW.trod_int Tryz.underlying3 t0
      obtain ⟨i1, e1, _⟩ := DataW.trod_int Tryz.underlying3 t1
      obtain ⟨i2, e2, _⟩ := DataW.trod_int Tryz.underlying3 t2
      simp only [List.cons.injEq, and_true] at e0 e1 e2
      subst e0 e1 e2
      exact ⟨⟨i0, i1, i2⟩, k0, k1, k2⟩)
    refine ⟨some a, _, ns, by rw [hnl]; exact hcs, fun h => (by cases h), by unfold maxLen at hm; omega, ?_⟩
    by_cases h0 : ns = []
    · exact .inl h0
    · have hlen : 0 < ns.length := List.length_pos_iff.2 h0
      have hx0 : ns[0]? = some ns[0] := List.getElem?_eq_getElem hlen
      have hs := (hq 0 _ hx0).1
      have hs1 := spot_none hs
      have hlt := cell_lt hs
      obtain ⟨b, off, sp⟩ := a
      have hb2 : ((⟨b, off, sp⟩ : Addr).add (0 * 3)) = ⟨b, off, sp⟩ := by simp [Addr.add]
      rw [hb2] at hs1 hlt
      simp only at hs1 hlt
      subst hs1
      refine .inr ⟨b, off, rfl, hlt, fun i x hx => ?_⟩
      have := hq i x hx
      rw [addr_add, addr_add, addr_add] at this
      exact this
set_option maxRecDepth 100000 in
/-- A custom that came in. -/
theorem open_custom {r : Reach} {b0 : Nat} {v : Value} {d : DataW H} {p : List MemPlace} (hsp : ∀ b, spare b = true) (hv : Value.okWide Tryz.prog W r b0 24 v) (h : DataW.Trod enc Tryz.prog W 0 spare held 24 v d p) :
    ∃ (A : Option Addr) (c : Nat) (ns : List Node), v = .agg #[.slice A ns.length c] ∧ (A = none → c = 0 ∧ ns = []) ∧ ns.length ≤ 9223372036854775807 ∧ Nodes W W.heap.size A ns := by
  obtain ⟨v0, y0, n, rfl, _, _, h0⟩ := open_agg1 Tryz.underlying24 (by kernel_rfl) (by kernel_rfl) hv h
  obtain ⟨A, c, ns, rfl, h1, h2, h3⟩ := open_nodes hsp Tryz.underlying22 Tryz.underlying69 ⟨rfl, rfl, rfl⟩ (by kernel_rfl) (by kernel_rfl) h0
  exact ⟨A, c, ns, rfl, h1, h2, h3⟩
end
open Go.Joins Go.ChangeShapes Go.WideShapes Go.ChangeAt Go.RowKit Go.Deep
section
variable {H : Type} {enc : TypeId × Value → H} {W : World} {spare : Nat → Bool} {held : Bool}
end
open Go.Joins Go.ChangeShapes Go.WideShapes Go.ChangeAt Go.RowKit Go.Deep
section
variable {H : Type} {enc : TypeId × Value → H} {W : World} {spare : Nat → Bool} {held : Bool}
end
end Go.Proofs.YtmbcpmnigggbaaaGreat.Sh
