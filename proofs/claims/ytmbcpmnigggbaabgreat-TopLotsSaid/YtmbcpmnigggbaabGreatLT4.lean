import Derived.Test.YtmbcpmnigggbaabGreatCJ
import Derived.Test.YtmbcpmnigggbaabGreatC3
import Derived.Test.YtmbcpmnigggbaabGreatUF
import Derived.Deep.RegionHeld3
namespace Go.Proofs.YtmbcpmnigggbaabGreat
theorem rise_iff {l : List Int} {n : Int} : riseB l n = true ↔ l.Pairwise (· < ·) ∧ ∀ x ∈ l, 0 ≤ x ∧ x < n := by
  constructor
  · intro h
    have hat : ∀ (k : Nat) (x : Int), l[k]? = some x → (0 ≤ x ∧ x < n) ∧ ∀ y, 0 < k → l[k - 1]? = some y → y < x := fun k x hx => by
      have hk := (List.getElem?_eq_some_iff.1 hx).1
      have h1 := riseB_at h hk
      unfold riseOK at h1
      rw [Bool.and_eq_true, inR_true, show l.getD k 0 = x by simp [List.getD, hx]] at h1
      refine ⟨by omega, fun y hk0 hy => ?_⟩
      rw [show l.getD (k - 1) 0 = y by simp [List.getD, hy]] at h1
      have h2 := h1.2
      rw [Bool.or_eq_true, decide_eq_true_eq] at h2
      rcases h2 with h2 | h2
      · simp at h2; omega
      · exact h2
    refine ⟨?_, fun x hx => by obtain ⟨k, hk⟩ := List.mem_iff_getElem?.1 hx; exact (hat k x hk).1⟩
    rw [List.pairwise_iff_getElem]
    have step : ∀ (d i : Nat) (hi : i < l.length) (hj : i + d + 1 < l.length), l[i] < l[i + d + 1] := fun d => by
      induction d with
      | zero => intro i hi hj; exact (hat (i + 0 + 1) _ (List.getElem?_eq_getElem hj)).2 _ (by omega) (by simp)
      | succ d ih =>
        intro i hi hj
        have h1 := ih i hi (by omega)
        have h2 := (hat (i + (d + 1) + 1) _ (List.getElem?_eq_getElem hj)).2 (l[i + d + 1]'(by omega)) (by omega) (by rw [show i + (d + 1) + 1 - 1 = i + d + 1 by omega]; exact List.getElem?_eq_getElem (by omega))
        omega
    intro i j hi hj hij
    obtain ⟨d, rfl⟩ : ∃ d, j = i + d + 1 := ⟨j - i - 1, by omega⟩
    exact step d i hi hj
  · rintro ⟨h1, h2⟩
    refine riseB_yes fun k hk => ?_
    unfold riseOK
    rw [Bool.and_eq_true, inR_true, Bool.or_eq_true, decide_eq_true_eq]
    have hx : l.getD k 0 = l[k] := by simp [List.getD, List.getElem?_eq_getElem hk]
    have hm := h2 _ (List.getElem_mem hk)
    rw [hx]
    refine ⟨by omega, ?_⟩
    cases k with
    | zero => left; rfl
    | succ k =>
      right
      have hy : l.getD k 0 = l[k] := by simp [List.getD, List.getElem?_eq_getElem (show k < l.length by omega)]
      rw [show k + 1 - 1 = k by omega, hy]
      exact List.pairwise_iff_getElem.1 h1 k (k + 1) (by omega) hk (by omega)
end Go.Proofs.YtmbcpmnigggbaabGreat
namespace Go.Proofs.YtmbcpmnigggbaabGreat.Cu
open Go.RowKit
attribute [local go_sem] Oper.semAt_some

/-! The reference's IsCut 6, IsSold 8; the examples 7. -/
def OkAt (t : List CP) (c : List Int) (k : Nat) : Prop := ∀ a, c[k]? = some a → ∃ (j : Nat) (p : CP), a = (j : Int) ∧ t[j]? = some p ∧ canCut t j = true ∧ (p.of = -1 ∨ p.of ∈ c)
set_option maxRecDepth 100000 in
set_option maxHeartbeats 4000000 in
theorem isCut_any (A : Option Addr) (c0 : Nat) (t : List CP) (hl : t.length ≤ 8) (A2 : Option Addr) (c2 : Nat) (c : List Int) (hcl : c.length ≤ 40) (w : World) (hT : TableAt w w.heap.size A t) (hI : IntsAt w w.heap.size A2 c) :
    Calls Tryz.prog 6 #[.slice A t.length c0, .slice A2 c.length c2] w fun e w' => ∃ b, e = .returned (.bool b) ∧ (b = true ↔ CutOK t c) ∧ Below w.heap.size w w' := by
  have hwk : IntKind.i64.wrap ((t.length : Int) - 1) = (t.length : Int) - 1 := IntWalk.i64_in _ (by omega)
  have H19 := Lib.hid (rising_any c (by omega) (t.length : Int) A2 c2 w hI)
  cases hr : riseB c (t.length : Int)
  · rw [hr] at H19
    go_enter Tryz.func6, Tryz.ntmps6
    go_wp2_with (go_at_call 19; refine H19.out.mono ?_; rintro e w1 ⟨rfl, hb⟩; have HB := Lib.hid hb; clear hb)
    go_ret
    exact ⟨false, rfl, ⟨fun h => (by cases h), fun h => by
      have := (rise_iff (l := c) (n := (t.length : Int))).2 ⟨h.up, fun x hx => by
        obtain ⟨k, hk⟩ := List.getElem?_of_mem hx
        obtain ⟨j, p, rfl, hp, _⟩ := h.ok k x hk
        have := (List.getElem?_eq_some_iff.1 hp).1
        omega⟩
      rw [hr] at this
      cases this⟩, HB.out⟩
  · rw [hr] at H19
    have HRI := Lib.hid (rise_iff.1 hr)
    have HT := Lib.hid hT
    have HI := Lib.hid hI
    clear hT hI hr
    go_enter Tryz.func6, Tryz.ntmps6
    go_wp2_with (go_at_call 19; refine H19.out.mono ?_; clear H19; rintro e w1 ⟨rfl, hb⟩; have B0 := Lib.hid hb; clear hb)
    go_loopw [5] (fun iv wr => ∃ k : Nat, k ≤ c.length ∧ iv = .int .i64 k ∧ Hid (Below w.heap.size w wr) ∧ Hid (∀ m, m < k → OkAt t c m)) (fun iv _ => c.length - (intOf iv).toNat)
    case atStart => exact ⟨0, Nat.zero_le _, rfl, B0, Lib.hid (fun m h => absurd h (by omega))⟩
    case round =>
      clear B0
      obtain ⟨k, hk, rfl, B, HK⟩ := hrel
      by_cases hlt : k < c.length
      · obtain ⟨a, ha⟩ : ∃ a, c[k]? = some a := ⟨_, List.getElem?_eq_getElem hlt⟩
        have hab := HRI.out.2 a (List.mem_of_getElem? ha)
        obtain ⟨j, rfl⟩ : ∃ j : Nat, a = (j : Int) := ⟨a.toNat, by omega⟩
        have hj : j < t.length := by omega
        obtain ⟨p, hp⟩ : ∃ p, t[j]? = some p := ⟨_, List.getElem?_eq_getElem hj⟩
        obtain ⟨b, off, rfl, hbb, d1, d2, d3, d4, d5, d6⟩ := (HT.out.lt B.out).at_ hp
        obtain ⟨b3, o3, rfl, hb3, e3⟩ := (ints_lt7 HI.out B.out).at_ ha
        have HKA := Lib.hid (fun (q : OkAt t c k) (m : Nat) (hm : m < k + 1) => show OkAt t c m from by
          by_cases e : m = k
          · rw [e]; exact q
          · exact HK.out m (by omega))
        have HNO := Lib.hid (fun (q : ¬ (canCut t j = true ∧ (p.of = -1 ∨ p.of ∈ c))) (h : CutOK t c) => show False from by
          obtain ⟨j', p', e1, e2, e3, e4⟩ := h.ok k _ ha
          have e5 : j = j' := by omega
          subst e5
          rw [hp] at e2
          cases e2
          exact q ⟨e3, e4⟩)
        have HYES := Lib.hid (fun (q : canCut t j = true) (q2 : p.of = -1 ∨ p.of ∈ c) => show OkAt t c k from fun a ha' => by
          rw [ha] at ha'
          cases ha'
          exact ⟨j, p, rfl, hp, q, q2⟩)
        have H20 := Lib.hid (fun W hW => canCut7_any (some ⟨b, off, none⟩) c0 t (by omega) j W hW)
        have H21 := Lib.hid (fun (x : Int) W hW => rIn_any c (by omega) x (some ⟨b3, o3, none⟩) c2 W hW)
        obtain ⟨of, wl, wh, sl, sh, pe⟩ := p
        simp only at d1 HNO HYES
        clear d2 d3 d4 d5 d6 hp ha hab
        cases hcc : canCut t j
        · rw [hcc] at H20
          have HN := Lib.hid (fun h : CutOK t c => HNO.out (fun q => by rw [hcc] at q; cases q.1) h)
          clear HNO HYES HKA H21
          go_wp2_with (go_at_call 20; refine (H20.out _ (HT.out.lt B.out)).mono ?_; clear H20; rintro e w2 ⟨rfl, rfl⟩)
          go_ret
          exact ⟨false, rfl, ⟨fun h => (by cases h), fun h => (HN.out h).elim⟩, B.out⟩
        · rw [hcc] at H20
          by_cases hof : of = -1
          · subst hof
            have HOK := Lib.hid (HKA.out (HYES.out hcc (.inl rfl)))
            clear HNO HYES HKA H21
            go_wp2_with (go_at_call 20; refine (H20.out _ (HT.out.lt B.out)).mono ?_; clear H20; rintro e w2 ⟨rfl, rfl⟩)
            go_roundw
            case rel => exact ⟨k + 1, by omega, by go_num, B, HOK⟩
            case measure => simp [intOf]; omega
          · have g1 : (of != -1) = true := bne_iff_ne.2 hof
            have g2 : decide (of = -1) = false := decide_eq_false hof
            have H22 := Lib.hid (H21.out of)
            clear H21
            by_cases hm : of ∈ c
            · rw [decide_eq_true hm] at H22
              have HOK := Lib.hid (HKA.out (HYES.out hcc (.inr hm)))
              clear HNO HYES HKA hm
              go_wp2_with (first
                | (go_at_call 20; refine (H20.out _ (HT.out.lt B.out)).mono ?_; clear H20; rintro e w2 ⟨rfl, rfl⟩)
                | (go_at_call 21; refine (H22.out _ (ints_lt7 HI.out B.out)).mono ?_; clear H22; rintro e w3 ⟨rfl, hb⟩; have BN := Lib.hid (hb0to B.out hb); clear B hb; have B := BN; clear BN))
              go_roundw
              case rel => exact ⟨k + 1, by omega, by go_num, B, HOK⟩
              case measure => simp [intOf]; omega
            · rw [decide_eq_false hm] at H22
              have HN := Lib.hid (fun h : CutOK t c => HNO.out (fun q => q.2.elim hof hm) h)
              clear HNO HYES HKA hm
              go_wp2_with (first
                | (go_at_call 20; refine (H20.out _ (HT.out.lt B.out)).mono ?_; clear H20; rintro e w2 ⟨rfl, rfl⟩)
                | (go_at_call 21; refine (H22.out _ (ints_lt7 HI.out B.out)).mono ?_; clear H22; rintro e w3 ⟨rfl, hb⟩; have BN := Lib.hid (hb0to B.out hb); clear B hb; have B := BN; clear BN))
              go_ret
              exact ⟨false, rfl, ⟨fun h => (by cases h), fun h => (HN.out h).elim⟩, B.out⟩
      · obtain rfl : k = c.length := by omega
        go_wp2
        go_ret
        exact ⟨true, rfl, ⟨fun _ => ⟨HRI.out.1, fun k a ha => HK.out k (List.getElem?_eq_some_iff.1 ha).1 a ha⟩, fun _ => rfl⟩, B.out⟩
set_option maxRecDepth 100000 in
set_option maxHeartbeats 4000000 in
theorem isSold_any (A : Option Addr) (c0 : Nat) (t : List CP) (hl : t.length ≤ 8) (A2 : Option Addr) (c2 : Nat) (c : List Int) (hcl : c.length ≤ 40) (i : Nat) (hi : i < t.length) (w : World) (hT : TableAt w w.heap.size A t) (hI : IntsAt w w.heap.size A2 c) :
    Calls Tryz.prog 8 #[.slice A t.length c0, .slice A2 c.length c2, .int .i64 i] w fun e w' => e = .returned (.bool (soldB t c i)) ∧ Below w.heap.size w w' := by
  obtain ⟨p, hp⟩ : ∃ p, t[i]? = some p := ⟨_, List.getElem?_eq_getElem hi⟩
  obtain ⟨r, hr⟩ : ∃ r, soldB t c i = r := ⟨_, rfl⟩
  rw [hr]
  unfold soldB at hr
  rw [hp] at hr
  obtain ⟨b, off, rfl, hbb, d1, d2, d3, d4, d5, d6⟩ := hT.at_ hp
  obtain ⟨of, wl, wh, sl, sh, pe⟩ := p
  simp only at d1 hr
  have HI := Lib.hid hI
  have H1 := Lib.hid (rIn_any c (by omega) (i : Int) A2 c2 w hI)
  have H2 := Lib.hid (fun W hW => rIn_any c (by omega) of A2 c2 W hW)
  have HR := Lib.hid hr
  clear hT hI hp d2 d3 d4 d5 d6 hr
  have T1 := Lib.hid True.intro
  by_cases m1 : (i : Int) ∈ c
  · rw [decide_eq_true m1] at H1 HR
    obtain rfl : r = false := HR.out.symm
    clear HR m1
    go_enter Tryz.func8, Tryz.ntmps8
    go_wp2_with (go_at_call 21; refine H1.out.mono ?_; rintro e w1 ⟨rfl, hb⟩; have B1 := Lib.hid hb; clear hb)
    go_ret
    exact ⟨rfl, B1.out⟩
  · rw [decide_eq_false m1] at H1 HR
    clear m1
    by_cases m2 : of = -1
    · subst m2
      obtain rfl : r = true := by rw [← HR.out]; simp
      clear HR
      go_enter Tryz.func8, Tryz.ntmps8
      go_wp2_with (go_at_call 21; refine H1.out.mono ?_; rintro e w1 ⟨rfl, hb⟩; have B1 := Lib.hid hb; clear hb)
      go_ret
      exact ⟨rfl, B1.out⟩
    · have g1 : (of == -1) = false := beq_eq_false_iff_ne.2 m2
      have g2 : decide (of = -1) = false := decide_eq_false m2
      obtain rfl : r = decide (of ∈ c) := by rw [← HR.out, g2]; simp
      clear HR
      obtain ⟨v, hv⟩ : ∃ v, decide (of ∈ c) = v := ⟨_, rfl⟩
      rw [hv] at H2 ⊢
      clear hv
      go_enter Tryz.func8, Tryz.ntmps8
      cases v
      all_goals
        go_wp2_with (first
          | (have t9 := T2.out; clear T2 t9; go_at_call 21; refine (H2.out _ (ints_lt7 HI.out B1.out)).mono ?_; rintro e w2 ⟨rfl, hb⟩; have B2 := Lib.hid (hb0to B1.out hb); clear hb)
          | (have t9 := T1.out; clear T1 t9; go_at_call 21; refine H1.out.mono ?_; rintro e w1 ⟨rfl, hb⟩; have B1 := Lib.hid hb; have T2 := Lib.hid True.intro; clear hb))
        go_ret
        exact ⟨rfl, B2.out⟩
theorem exCut : CutOK exT [0] := ⟨by simp, fun k a ha => by
  match k, ha with
  | 0, ha =>
    simp at ha
    subst ha
    exact ⟨0, ⟨-1, 20, 24, 1, 3, 2⟩, rfl, rfl, by decide, .inl rfl⟩⟩
theorem exP_low : lowF exT (eachP exT [0]) = 60 := by kernel_rfl
theorem exP_high : highF exT (eachP exT [0]) = 76 := by kernel_rfl
theorem exT_okL : TOK exT := chkT_ok (by decide)
theorem eq32L (x y : Int) (w : World) : (binOp .eql 32 (.agg #[.int .i64 x, .int .i64 y]) (.agg #[.int .i64 x, .int .i64 y])).run Tryz.prog w = .ok (.bool true) w := by
  simp [go_sem]
theorem one_ints (W : World) (x : Int) : IntsAt (W.alloc (.cells #[.int .i64 x] 3)) (W.alloc (.cells #[.int .i64 x] 3)).heap.size (some ⟨W.heap.size, 0, none⟩) [x] := by
  refine .inr ⟨W.heap.size, 0, rfl, by simp, fun i y hy => ?_⟩
  match i, hy with
  | 0, hy => simp at hy; subst hy; exact cell_of_heap (o := 0) (heap_new1 W (.cells #[.int .i64 x] 3)) rfl
theorem lots25 (A1 A2 : Option Addr) (k1 k2 : Nat) (w : World) (h1 : IntsAt w w.heap.size A1 [1]) (h2 : IntsAt w w.heap.size A2 [1]) :
    Calls Tryz.prog 25 #[.slice A1 1 k1, .slice A2 1 k2] w fun e w' => e = .returned (.bool true) ∧ Below w.heap.size w w' := sameInts_is A1 A2 k1 k2 [1] (by decide) w h1 h2
set_option maxRecDepth 100000 in
set_option maxHeartbeats 4000000 in
theorem lots_any (w : World) : Calls Tryz.prog 7 #[] w fun e w' => e = .returned (.bool true) ∧ Below w.heap.size w w' := by
  have H22 := Lib.hid (fun W => example7_any W)
  have H23 := Lib.hid (fun W => example_any W)
  have H11 := Lib.hid (fun A A2 W hT hI => price_any A 5 exT exT_okL A2 1 [0] exCut (by decide) (by decide) W hT hI (by rw [exP_low]; unfold far; omega))
  rw [exP_low, exP_high] at H11
  have hs1 := eq32L 60 76
  go_enter Tryz.func7, Tryz.ntmps7
  go_upto_region 2 with (go_at_call 22; refine (H22.out _).mono ?_; rintro e w1 ⟨⟨tb, tu, rfl, hT⟩, hb⟩; have HT := Lib.hid hT; have HB1 := Lib.hid hb; clear hb hT)
  go_upto_region 3 with (go_at_call 23; refine (H23.out _).mono ?_; rintro e w2 ⟨⟨⟨⟨k1, k2, k3, k4, k5, k6⟩, k7, k8, k9, k10⟩, ⟨⟨l1, l2, l3, l4, l5, l6⟩, l7, l8, l9, l10⟩, rfl, hF, hG⟩, hb⟩; have HF := Lib.hid hF; have HG := Lib.hid hG; have HB2 := Lib.hid (hb0to HB1.out hb); have HT2 := Lib.hid (HT.out.lt hb); clear hb hF hG)
  have X0 := ExW.new HF.out HG.out
  have hb3 := hb0to (al_below w2 (.cells #[.slice k1 exF.h.ks.length k2, .int .i64 exF.h.fl, .slice k3 exF.h.ps.length k4, .slice k5 exF.h.bs.length k6, .slice k7 exF.pk.length k8, .int .i64 exF.day, .int .i64 exF.nb, .slice k9 exF.q.length k10] 41)) (al_below _ (.cells #[.slice l1 (dayF exF 5).h.ks.length l2, .int .i64 (dayF exF 5).h.fl, .slice l3 (dayF exF 5).h.ps.length l4, .slice l5 (dayF exF 5).h.bs.length l6, .slice l7 (dayF exF 5).pk.length l8, .int .i64 (dayF exF 5).day, .int .i64 (dayF exF 5).nb, .slice l9 (dayF exF 5).q.length l10] 41))
  obtain ⟨W3, hW3⟩ : ∃ W3, W3 = (w2.alloc (.cells #[.slice k1 exF.h.ks.length k2, .int .i64 exF.h.fl, .slice k3 exF.h.ps.length k4, .slice k5 exF.h.bs.length k6, .slice k7 exF.pk.length k8, .int .i64 exF.day, .int .i64 exF.nb, .slice k9 exF.q.length k10] 41)).alloc (.cells #[.slice l1 (dayF exF 5).h.ks.length l2, .int .i64 (dayF exF 5).h.fl, .slice l3 (dayF exF 5).h.ps.length l4, .slice l5 (dayF exF 5).h.bs.length l6, .slice l7 (dayF exF 5).pk.length l8, .int .i64 (dayF exF 5).day, .int .i64 (dayF exF 5).nb, .slice l9 (dayF exF 5).q.length l10] 41) := ⟨_, rfl⟩
  have X := Lib.hid (show ExW W3 w2.heap.size ⟨⟨k1, k2, k3, k4, k5, k6⟩, k7, k8, k9, k10⟩ ⟨⟨l1, l2, l3, l4, l5, l6⟩, l7, l8, l9, l10⟩ from by rw [hW3]; exact X0)
  rw [← hW3] at hb3 ⊢
  have HB3 := Lib.hid (hb0to HB2.out hb3)
  have HT3 := Lib.hid (HT2.out.lt hb3)
  clear X0 hb3 hW3 HF HG
  go_upto_region 4 with (go_at_call 11; refine (H11.out _ _ _ (HT3.out.lt (al_below _ _)) (one_ints _ 0)).mono ?_; rintro e w4 ⟨rfl, hb⟩; have X4 := Lib.hid (X.out.next (hb0to (al_below W3 (.cells #[.int .i64 0] 3)) hb)); have HB4 := Lib.hid (hb0to HB3.out (hb0to (al_below W3 (.cells #[.int .i64 0] 3)) hb)); clear hb)
  have hq := heap_new1 w4 (.cells #[.int .i64 60, .int .i64 76] 32)
  have hb5 := al_below w4 (.cells #[.int .i64 60, .int .i64 76] 32)
  have X5 := Lib.hid (X4.out.next hb5)
  have HB5 := Lib.hid (hb0to HB4.out hb5)
  obtain ⟨W5, hW5⟩ : ∃ W5, w4.alloc (.cells #[.int .i64 60, .int .i64 76] 32) = W5 := ⟨_, rfl⟩
  rw [hW5] at hq X5 HB5 ⊢
  obtain ⟨qz, hqz⟩ : ∃ qz, w4.heap.size = qz := ⟨_, rfl⟩
  rw [hqz] at hq ⊢
  have HQ := Lib.hid hq
  clear hq hb5 hW5 hqz X X4
  obtain ⟨c0, c1, c2, c3, c4, c5, c6, c7⟩ := X5.out.x.cells
  go_upto_region 5 with (go_at_call 24; refine (exC42 X5.out).mono ?_; rintro e w6 ⟨⟨A6, k6', rfl, hI⟩, hb⟩; have HI := Lib.hid hI; have HB6 := Lib.hid (hb0to HB5.out hb); have q6 := (hb.block _ (heap_lt HQ.out)).trans HQ.out; have f0 := cell_of_heap (o := 0) q6 rfl; have f1 := cell_of_heap (o := 1) q6 rfl; clear hb hI q6)
  clear c0 c1 c2 c3 c4 c5 c6 c7
  go_wp2_with (go_at_call 25; refine (lots25 _ _ _ _ _ (ints_lt7 HI.out (al_below _ _)) (one_ints _ 1)).mono ?_; rintro e w7 ⟨rfl, hb⟩; have HB7 := Lib.hid (hb0to (hb0to HB6.out (al_below _ _)) hb); clear hb)
  go_ret
  exact ⟨rfl, HB7.out⟩
end Go.Proofs.YtmbcpmnigggbaabGreat.Cu
namespace Go.Proofs.YtmbcpmnigggbaabGreat.Cu
section
variable {P : Program} {ops : Array Oper} {Q : Exit → Act → World → Prop} {md : Region.Mode} {S : World → Prop}
theorem listed_count {listed : Array Bool} {i : Nat} (h : listed.getD i true = false) : (listed.setIfInBounds i true).toList.count false + 1 = listed.toList.count false := by
  have hi : i < listed.size := by
    rcases Nat.lt_or_ge i listed.size with h' | h'
    · exact h'
    · simp [Array.getElem?_eq_none h'] at h
  obtain ⟨l⟩ := listed
  simp at hi h
  have h0 : l[i] = false := by simpa [hi] using h
  have hp : 0 < l.count false := List.count_pos_iff.2 (h0 ▸ List.getElem_mem hi)
  simp [List.count_set, h0, hi]
  omega
theorem not_ready {l : List Nat} {i : Nat} (h : l.contains i = false) (hi : i ∈ l) : False := by
  have := List.contains_iff_mem.2 hi
  rw [h] at this
  cases this
/-- Four operations of a region that come up in whatever order: each is looked at once, where it is ready, whatever of the others has come up; J says what holds (the four booleans: which has come up; the four values: what they yielded). Behind the four the region goes on. -/
theorem wpAnyH_fourR {i1 i2 i3 i4 n : Nat} {l0 : Array Bool} {a0 : Act} {w0 : World}
    (J : Bool → Bool → Bool → Bool → Value → Value → Value → Value → World → Prop) (L : Bool → Bool → Bool → Bool → Array Bool)
    (A : Act → Value → Value → Value → Value → Act)
    (hL : L false false false false = l0)
    (hl : ∀ b1 b2 b3 b4, (L b1 b2 b3 b4).setIfInBounds i1 true = L true b2 b3 b4 ∧ (L b1 b2 b3 b4).setIfInBounds i2 true = L b1 true b3 b4 ∧ (L b1 b2 b3 b4).setIfInBounds i3 true = L b1 b2 true b4 ∧ (L b1 b2 b3 b4).setIfInBounds i4 true = L b1 b2 b3 true)
    (V : Bool → Bool → Bool → Bool → Bool) (hV : ∀ b1 b2 b3 b4 x1 x2 x3 x4 w, J b1 b2 b3 b4 x1 x2 x3 x4 w → V b1 b2 b3 b4 = true)
    (hr : ∀ b1 b2 b3 b4, V b1 b2 b3 b4 = true → (b1 && b2 && b3 && b4) = true ∨ ((Region.ready md ops (L b1 b2 b3 b4)).isEmpty = false ∧ (Region.ready md ops (L b1 b2 b3 b4)).all (fun i => (i == i1 && !b1) || (i == i2 && !b2) || (i == i3 && !b3) || (i == i4 && !b4)) = true))
    (h0 : ∃ x1 x2 x3 x4, a0 = A a0 x1 x2 x3 x4 ∧ J false false false false x1 x2 x3 x4 w0)
    (h1 : ∀ b2 b3 b4 x1 x2 x3 x4 w, i1 ∈ Region.ready md ops (L false b2 b3 b4) → S w → J false b2 b3 b4 x1 x2 x3 x4 w → wpOp P ops Q i1 (fun a' w' => S w' ∧ ∃ v, a' = A a0 v x2 x3 x4 ∧ J true b2 b3 b4 v x2 x3 x4 w') (A a0 x1 x2 x3 x4) w)
    (h2 : ∀ b1 b3 b4 x1 x2 x3 x4 w, i2 ∈ Region.ready md ops (L b1 false b3 b4) → S w → J b1 false b3 b4 x1 x2 x3 x4 w → wpOp P ops Q i2 (fun a' w' => S w' ∧ ∃ v, a' = A a0 x1 v x3 x4 ∧ J b1 true b3 b4 x1 v x3 x4 w') (A a0 x1 x2 x3 x4) w)
    (h3 : ∀ b1 b2 b4 x1 x2 x3 x4 w, i3 ∈ Region.ready md ops (L b1 b2 false b4) → S w → J b1 b2 false b4 x1 x2 x3 x4 w → wpOp P ops Q i3 (fun a' w' => S w' ∧ ∃ v, a' = A a0 x1 x2 v x4 ∧ J b1 b2 true b4 x1 x2 v x4 w') (A a0 x1 x2 x3 x4) w)
    (h4 : ∀ b1 b2 b3 x1 x2 x3 x4 w, i4 ∈ Region.ready md ops (L b1 b2 b3 false) → S w → J b1 b2 b3 false x1 x2 x3 x4 w → wpOp P ops Q i4 (fun a' w' => S w' ∧ ∃ v, a' = A a0 x1 x2 x3 v ∧ J b1 b2 b3 true x1 x2 x3 v w') (A a0 x1 x2 x3 x4) w)
    (hE : ∀ x1 x2 x3 x4 w, S w → J true true true true x1 x2 x3 x4 w → wpAnyH P md ops Q S n (L true true true true) (A a0 x1 x2 x3 x4) w)
    (hS : S w0) : wpAnyH P md ops Q S (n + 4) l0 a0 w0 := by
  have main : ∀ (k : Nat) b1 b2 b3 b4 x1 x2 x3 x4 w, (!b1).toNat + (!b2).toNat + (!b3).toNat + (!b4).toNat = k → S w → J b1 b2 b3 b4 x1 x2 x3 x4 w →
      wpAnyH P md ops Q S (n + k) (L b1 b2 b3 b4) (A a0 x1 x2 x3 x4) w := by
    intro k
    induction k with
    | zero =>
      intro b1 b2 b3 b4 x1 x2 x3 x4 w hk hS hJ
      cases b1 <;> cases b2 <;> cases b3 <;> cases b4 <;> first | exact hE _ _ _ _ _ hS hJ | exact absurd hk (by decide)
    | succ k ih =>
      intro b1 b2 b3 b4 x1 x2 x3 x4 w hk hS hJ
      rcases hr b1 b2 b3 b4 (hV _ _ _ _ _ _ _ _ _ hJ) with h | ⟨hne, hall⟩
      · cases b1 <;> cases b2 <;> cases b3 <;> cases b4 <;> first | (exact absurd h (by decide)) | exact absurd hk (by simp)
      · refine ⟨fun h => by rw [h] at hne; exact absurd hne (by decide), fun i hi => ?_⟩
        have hx := List.all_eq_true.1 hall i hi
        simp only [Bool.or_eq_true, Bool.and_eq_true, beq_iff_eq, Bool.not_eq_true'] at hx
        rcases hx with ((⟨rfl, rfl⟩ | ⟨rfl, rfl⟩) | ⟨rfl, rfl⟩) | ⟨rfl, rfl⟩
        · refine wpOp_mono ?_ (h1 _ _ _ _ _ _ _ _ hi hS hJ)
          rintro a' w' ⟨hS', v, rfl, hJ'⟩
          rw [(hl _ _ _ _).1]
          exact ⟨hS', ih _ _ _ _ _ _ _ _ _ (by simp at hk ⊢; omega) hS' hJ'⟩
        · refine wpOp_mono ?_ (h2 _ _ _ _ _ _ _ _ hi hS hJ)
          rintro a' w' ⟨hS', v, rfl, hJ'⟩
          rw [(hl _ _ _ _).2.1]
          exact ⟨hS', ih _ _ _ _ _ _ _ _ _ (by simp at hk ⊢; omega) hS' hJ'⟩
        · refine wpOp_mono ?_ (h3 _ _ _ _ _ _ _ _ hi hS hJ)
          rintro a' w' ⟨hS', v, rfl, hJ'⟩
          rw [(hl _ _ _ _).2.2.1]
          exact ⟨hS', ih _ _ _ _ _ _ _ _ _ (by simp at hk ⊢; omega) hS' hJ'⟩
        · refine wpOp_mono ?_ (h4 _ _ _ _ _ _ _ _ hi hS hJ)
          rintro a' w' ⟨hS', v, rfl, hJ'⟩
          rw [(hl _ _ _ _).2.2.2]
          exact ⟨hS', ih _ _ _ _ _ _ _ _ _ (by simp at hk ⊢; omega) hS' hJ'⟩
  obtain ⟨x1, x2, x3, x4, ha, hJ⟩ := h0
  have := main 4 false false false false x1 x2 x3 x4 w0 rfl hS hJ
  rw [hL, ← ha] at this
  exact this
end
end Go.Proofs.YtmbcpmnigggbaabGreat.Cu
namespace Go.Proofs.YtmbcpmnigggbaabGreat.Cu
open Go.RowKit
attribute [local go_sem] Oper.semAt_some

/-! TopLots: the rows that grow, and the plain law whole. -/
/-- 'append(out, x)' at a step of a region that draws its order; what grows, and where it lies then, is told. -/
theorem step_appD {ops : Array Oper} {o : Oper} {a : Act} {w : World} {K : Act → World → Prop} {Q : Exit → Act → World → Prop} {E : Prop} (hgd : o.guard = none) (s x : Operand)
    (ho : o.op = .call { callee := .builtin .append, args := #[s, x], argTypes := #[23, 23] }) (n₀ base : Nat) (v : Value) (l : List Int) (k : Int) (hs : a.eval s = v) (hown : Ints w base v l)
    (ad : Addr) (c : Nat) (hx : a.eval x = .slice (some ad) 1 c) (hc : w.cell? ad = some (.int .i64 k)) (hl : l.length ≤ 1000) (hbase : base ≤ w.heap.size) (hn : n₀ ≤ base)
    (h : ∀ v' w', Ints w' base v' (l ++ [k]) → Below n₀ w w' → w.grownBy w' v.ownBlock → (∀ g, v'.ownBlock = some g → v.ownBlock = some g ∨ w.heap.size ≤ g) → K (a.put o.dst v') w') :
    if Region.wanted o (yielded ops a.tmps) = true then Oper.wp Tryz.prog o a w K Q else E := by
  have hw : Region.wanted o (yielded ops a.tmps) = true := by simp [Region.wanted, hgd]
  rw [if_pos hw]
  obtain ⟨i0, hi, hz0, hz1, hz2⟩ := info_parts info3'
  obtain ⟨v', w', hr, h2, h3, _⟩ := run_append_own (P := Tryz.prog) w base 23 o.type 3 i0 (.int .i64 0) 1 8 Tryz.underlying23 hi hz0 hz1 hz2 rfl (by decide) v l.length (l.map (.int .i64)) hown ad 1 c [.int .i64 k] rfl
    (fun j u hj => by
      match j, hj with
      | 0, hj => simp at hj; subst hj; simpa [Addr.add] using hc) (fun u hu => by simp at hu; subst hu; rfl) (by unfold maxLen; omega) (by omega) hbase
  have h5 := run_app_where hi hz0 hz1 hz2 base o.type v l.length _ hown ad c _ hc rfl (by omega) hr
  unfold Oper.wp execOp
  simp only [ho, resolve, invoke, builtin, Sem.run_bind, Sem.run_pure, Result.andThen_ok, List.map_toArray, List.map_cons, List.map_nil, hs, hx, hr]
  refine h v' w' ?_ (own_below hown h3 (by omega) hn) h3 h5
  unfold Ints
  rw [List.length_append, List.map_append]
  exact h2

/-- 'append(bids, b)'. -/
theorem wpl_appQ {ops : Array Oper} {rest : List Oper} {o : Oper} {a : Act} {w : World} {Q : Exit → Act → World → Prop} (hgd : o.guard = none) (s x : Operand)
    (ho : o.op = .call { callee := .builtin .append, args := #[s, x], argTypes := #[39, 39] }) (I : World → Value → List Int → Prop) (n₀ : Nat) (v : Value) (q : List Bid) (hs : a.eval s = v) (hown : OwnsQ I w n₀ v q)
    (g : Nat) (c : Nat) (k : Bid) (A' : Option Addr) (c' : Nat) (hx : a.eval x = .slice (some ⟨g, 0, none⟩) 1 c) (h0 : w.cell? ⟨g, 0, none⟩ = some (.int .i64 k.who)) (h1 : w.cell? ⟨g, 1, none⟩ = some (.slice A' k.bar.length c')) (h2 : w.cell? ⟨g, 2, none⟩ = some (.int .i64 k.pay)) (hl : q.length ≤ 1000) (hn : n₀ ≤ w.heap.size)
    (hI : ∀ w', Below n₀ w w' → KeepT 3 w w' → I w' (.slice A' k.bar.length c') k.bar ∧ ∀ u l, I w u l → I w' u l)
    (h : ∀ v' w', OwnsQ I w' n₀ v' (q ++ [k]) → Below n₀ w w' → (∀ t, t ≠ 44 → KeepT t w w') → wpList Tryz.prog ops Q rest (a.put o.dst v') w') : wpList Tryz.prog ops Q (o :: rest) a w := by
  obtain ⟨i0, hi, hz0, hz1, hz2⟩ := info_parts info38'
  obtain ⟨rows, rfl, hown, hin⟩ := hown
  rw [List.length_map] at hl
  refine wpList_append_own w hgd s x 39 ho n₀ 44 i0 _ 3 40 Tryz.underlying39 hi hz0 hz1 hz2 rfl (by decide) v rows.length _ hs hown ⟨g, 0, none⟩ 1 c [.int .i64 k.who, .slice A' k.bar.length c', .int .i64 k.pay] hx rfl ?_ ?_ ?_ ?_ hn ?_
  · intro j u hj
    match j, hj with
    | 0, hj => simp at hj; subst hj; exact h0
    | 1, hj => simp at hj; subst hj; exact h1
    | 2, hj => simp at hj; subst hj; exact h2
  · intro u hu
    simp at hu
    rcases hu with rfl | rfl | rfl <;> rfl
  · unfold maxLen; omega
  · omega
  · intro v' w' g2 g3 _
    have hb := own_below hown g3 hn (Nat.le_refl _)
    have hk : ∀ t, t ≠ 44 → KeepT t w w' := fun t ht => KeepT.grown hown g3 (Ne.symm ht)
    obtain ⟨i1, i2⟩ := hI w' hb (hk 3 (by decide))
    refine h v' w' ⟨rows ++ [(k, .slice A' k.bar.length c')], by simp, ?_, fun r hr => ?_⟩ hb hk
    · rw [List.length_append, rowCells_app]
      exact g2
    · rcases List.mem_append.1 hr with hr | hr
      · exact i2 _ _ (hin r hr)
      · rw [List.mem_singleton] at hr
        subst hr
        exact i1
/-- Two lists that grow by turns. -/
structure TwoK (base : Nat) (lv hv : Value) (ls hs : List Int) (W0 W : World) : Prop where
  B : Below base W0 W
  lo : Ints W base lv ls
  hi : Ints W base hv hs
  ne : ∀ g, lv.ownBlock = some g → hv.ownBlock ≠ some g
section
variable {base : Nat} {lv hv v' : Value} {ls hs : List Int} {a b : Int} {W0 W W' : World}
theorem TwoK.next (M : TwoK base lv hv ls hs W0 W) (hb : Below W.heap.size W W') (hz : base ≤ W.heap.size) : TwoK base lv hv ls hs W0 W' :=
  ⟨M.B.trans (hb.mono hz), M.lo.below_ hb (Nat.le_refl _), M.hi.below_ hb (Nat.le_refl _), M.ne⟩
theorem TwoK.appL (M : TwoK base lv hv ls hs W0 W) (h1 : Ints W' base v' (ls ++ [a])) (hb : Below base W W') (hg : W.grownBy W' lv.ownBlock) (hw : ∀ g, v'.ownBlock = some g → lv.ownBlock = some g ∨ W.heap.size ≤ g) : TwoK base v' hv (ls ++ [a]) hs W0 W' := by
  refine ⟨M.B.trans hb, h1, M.hi.keepG hg (fun g e1 e2 => M.ne g e2 e1), fun g e1 e2 => ?_⟩
  rcases hw g e1 with h | h
  · exact M.ne g h e2
  · have := ints_blk M.hi g e2
    omega
theorem TwoK.appH (M : TwoK base lv hv ls hs W0 W) (h1 : Ints W' base v' (hs ++ [b])) (hb : Below base W W') (hg : W.grownBy W' hv.ownBlock) (hw : ∀ g, v'.ownBlock = some g → hv.ownBlock = some g ∨ W.heap.size ≤ g) : TwoK base lv v' ls (hs ++ [b]) W0 W' := by
  refine ⟨M.B.trans hb, M.lo.keepG hg (fun g e1 e2 => M.ne g e1 e2), h1, fun g e1 e2 => ?_⟩
  rcases hw g e2 with h | h
  · exact M.ne g e1 h
  · have := ints_blk M.lo g e1
    omega
end
/-- What holds in the region of the two appends, whatever of it has come up. -/
structure J9 (base : Nat) (lv hv : Value) (ls hs : List Int) (a b : Int) (W0 : World) (b1 b2 b3 b4 : Bool) (x1 x2 x3 x4 : Value) (w : World) : Prop where
  M : TwoK base (bif b2 then x2 else lv) (bif b4 then x4 else hv) (bif b2 then ls ++ [a] else ls) (bif b4 then hs ++ [b] else hs) W0 w
  z : base ≤ w.heap.size
  o2 : b2 = true → b1 = true
  o4 : b4 = true → b3 = true ∧ b2 = true
  c : b1 = true → b2 = false → ∃ z, x1 = .slice (some ⟨z, 0, none⟩) 1 1 ∧ w.cell? ⟨z, 0, none⟩ = some (.int .i64 a)
  d : b3 = true → b4 = false → ∃ z, x3 = .slice (some ⟨z, 0, none⟩) 1 1 ∧ w.cell? ⟨z, 0, none⟩ = some (.int .i64 b) ∧ (b2 = false → ∀ g, lv.ownBlock = some g → g ≠ z)
section
variable {base : Nat} {lv hv : Value} {ls hs : List Int} {a b : Int} {W0 : World} {b1 b2 b3 b4 : Bool} {x1 x2 x3 x4 : Value} {w w' : World}
theorem J9.next (h : J9 base lv hv ls hs a b W0 b1 b2 b3 b4 x1 x2 x3 x4 w) (hb : Below w.heap.size w w') : J9 base lv hv ls hs a b W0 b1 b2 b3 b4 x1 x2 x3 x4 w' := by
  refine ⟨h.M.next hb h.z, Nat.le_trans h.z hb.size, h.o2, h.o4, fun e1 e2 => ?_, fun e1 e2 => ?_⟩
  · obtain ⟨z, e, hc⟩ := h.c e1 e2
    exact ⟨z, e, below_cell hb hc⟩
  · obtain ⟨z, e, hc, hn⟩ := h.d e1 e2
    exact ⟨z, e, below_cell hb hc, hn⟩
theorem J9.one (h : J9 base lv hv ls hs a b W0 false b2 b3 b4 x1 x2 x3 x4 w) : J9 base lv hv ls hs a b W0 true b2 b3 b4 (.slice (some ⟨w.heap.size, 0, none⟩) 1 1) x2 x3 x4 (w.alloc (.cells #[.int .i64 a] 3)) := by
  have h' := h.next (al_below w (.cells #[.int .i64 a] 3))
  exact ⟨h'.M, h'.z, fun _ => rfl, h.o4, fun _ _ => ⟨w.heap.size, rfl, cell_of_heap (heap_new1 w _) rfl⟩, h'.d⟩
theorem J9.three (h : J9 base lv hv ls hs a b W0 b1 b2 false b4 x1 x2 x3 x4 w) : J9 base lv hv ls hs a b W0 b1 b2 true b4 x1 x2 (.slice (some ⟨w.heap.size, 0, none⟩) 1 1) x4 (w.alloc (.cells #[.int .i64 b] 3)) := by
  have h' := h.next (al_below w (.cells #[.int .i64 b] 3))
  refine ⟨h'.M, h'.z, h'.o2, fun e => ⟨rfl, (h.o4 e).2⟩, h'.c, fun _ _ => ⟨w.heap.size, rfl, cell_of_heap (heap_new1 w _) rfl, fun e g hg => ?_⟩⟩
  subst e
  have := ints_blk h.M.lo g hg
  omega
theorem J9.two {v : Value} (h : J9 base lv hv ls hs a b W0 true false b3 b4 x1 x2 x3 x4 w) (h1 : Ints w' base v (ls ++ [a])) (hb : Below base w w') (hg : w.grownBy w' lv.ownBlock) (hw : ∀ g, v.ownBlock = some g → lv.ownBlock = some g ∨ w.heap.size ≤ g) : J9 base lv hv ls hs a b W0 true true b3 b4 x1 v x3 x4 w' := by
  refine ⟨h.M.appL h1 hb hg hw, Nat.le_trans h.z hg.size, fun _ => rfl, fun e => ⟨(h.o4 e).1, rfl⟩, fun _ e => (by cases e), fun e1 e2 => ?_⟩
  obtain ⟨z, e, hc, hn⟩ := h.d e1 e2
  exact ⟨z, e, hg.cell hc (fun e3 => hn rfl z e3.symm rfl), fun e => (by cases e)⟩
theorem J9.four {v : Value} (h : J9 base lv hv ls hs a b W0 b1 true true false x1 x2 x3 x4 w) (h1 : Ints w' base v (hs ++ [b])) (hb : Below base w w') (hg : w.grownBy w' hv.ownBlock) (hw : ∀ g, v.ownBlock = some g → hv.ownBlock = some g ∨ w.heap.size ≤ g) : J9 base lv hv ls hs a b W0 b1 true true true x1 x2 x3 v w' :=
  ⟨h.M.appH h1 hb hg hw, Nat.le_trans h.z hg.size, h.o2, fun _ => ⟨rfl, rfl⟩, fun _ e => (by cases e), fun _ e => (by cases e)⟩
end
/-! What is sold, up to a part. -/
def peAt (t : List CP) (i : Nat) : Int := match t[i]? with
  | some p => p.pe
  | none => 0
def lotL (t : List CP) (c x : List Int) (k : Nat) : List Int := ((List.range k).filter (soldB t c)).map fun i => peAt t i * x.getD i 0
theorem lotL_zero (t : List CP) (c x : List Int) : lotL t c x 0 = [] := rfl
theorem lotL_yes {t : List CP} {c x : List Int} {k : Nat} {p : CP} {y : Int} (hp : t[k]? = some p) (hy : x[k]? = some y) (hs : soldB t c k = true) : lotL t c x (k + 1) = lotL t c x k ++ [p.pe * y] := by
  unfold lotL
  rw [List.range_succ, List.filter_append, List.map_append]
  simp [hs, peAt, hp, hy]
theorem lotL_no {t : List CP} {c x : List Int} {k : Nat} (hs : soldB t c k = false) : lotL t c x (k + 1) = lotL t c x k := by
  unfold lotL
  rw [List.range_succ, List.filter_append, List.map_append]
  simp [hs]
theorem lotL_len (t : List CP) (c x : List Int) : ∀ k, (lotL t c x k).length ≤ k := fun k => by
  unfold lotL
  rw [List.length_map]
  exact Nat.le_trans (List.length_filter_le _ _) (by simp)
theorem lot_sum (t : List CP) (c x : List Int) : ∀ k, sumTo (lotL t c x k) (lotL t c x k).length = sumE (eachP t c) x k
  | 0 => rfl
  | k + 1 => by
    have ih := lot_sum t c x k
    have e : sumE (eachP t c) x (k + 1) = sumE (eachP t c) x k + eachP t c k * x.getD k 0 := rfl
    rw [e, ← ih]
    cases hs : soldB t c k
    · have h0 : eachP t c k = 0 := by
        unfold eachP
        split
        · rw [if_neg (by rw [hs]; simp)]
        · rfl
      rw [lotL_no hs, h0]
      omega
    · obtain ⟨p, hp⟩ : ∃ p, t[k]? = some p := by
        cases h : t[k]? with
        | some p => exact ⟨p, rfl⟩
        | none => unfold soldB at hs; rw [h] at hs; cases hs
      have h0 : eachP t c k = p.pe := by
        unfold eachP
        rw [hp]
        simp only
        rw [if_pos hs]
      have hl : lotL t c x (k + 1) = lotL t c x k ++ [p.pe * x.getD k 0] := by
        unfold lotL
        rw [List.range_succ, List.filter_append, List.map_append]
        simp [hs, peAt, hp]
      rw [hl, List.length_append, List.length_singleton, sumTo_snoc, h0]
theorem price_bd {t : List CP} (hT : TOK t) {c x : List Int} (hx : ∀ y ∈ x, 0 ≤ y ∧ y ≤ 30) : ∀ k : Nat, 0 ≤ sumE (eachP t c) x k ∧ sumE (eachP t c) x k ≤ 2970 * (k : Int)
  | 0 => ⟨Int.le_refl _, by simp [sumE, sumF]⟩
  | k + 1 => by
    have ih := price_bd hT (c := c) hx k
    have h1 := getD_bd hx k
    have h2 := eachP_bd hT c k
    have h3 := mul_bd (k := eachP t c k) (v := (x.getD k 0).toNat) h2 (by omega)
    rw [show (((x.getD k 0).toNat : Nat) : Int) = x.getD k 0 by omega] at h3
    have e : sumE (eachP t c) x (k + 1) = sumE (eachP t c) x k + eachP t c k * x.getD k 0 := rfl
    rw [e]
    omega
/-! The plain law whole. -/
theorem lots_rd (m : Nat) (hm : m ≤ 3) (q : List Bid) : ∀ i : Nat, i < m → (i : Int) ∈ rdF (hF m ((m : Int) + 1) q) := fun i hi => by
  rw [rd_hire _ _ m (by omega)]
  exact List.mem_map.2 ⟨i, List.mem_range.2 hi, rfl⟩
theorem lots_first {p : List Int} {m : Nat} (hm : m ≤ 3) (hv : validF (hF m ((m : Int) + 1) (lotsQ p m)) = true) :
    mostRet (hF m ((m : Int) + 1) (lotsQ p m)) = (sumTo p m, 0) ∧ paidRet (hF m ((m : Int) + 1) (lotsQ p m)) = (0, 0) := by
  have hf := FOK.of hv
  have hq : ∀ b ∈ lotsQ p m, 0 ≤ b.pay := fun b hb => (hf.pay b hb).1
  have hs := lots_sale p (lots_rd m hm (lotsQ p m))
  constructor
  · refine (numRF_ok (ask_valid hv)).trans ?_
    have := all_most hq hf.ql hs
    rw [lots_brings] at this
    rw [show (hF m ((m : Int) + 1) (lotsQ p m)).q = lotsQ p m from rfl, this]
  · refine (numRF_ok (ask_valid hv)).trans ?_
    rw [show (hF m ((m : Int) + 1) (lotsQ p m)).q = lotsQ p m from rfl, all_paid hq hf.ql hs]
def lastB (m : Nat) (all : Int) : Bid := ⟨(m : Int), intsN (List.range m), all⟩
theorem lots_second {p : List Int} {m : Nat} (hm : m ≤ 3) {all : Int} (hv : validF (hF m ((m : Int) + 1) (lotsQ p m ++ [lastB m all])) = true) :
    wonRet (hF m ((m : Int) + 1) (lotsQ p m ++ [lastB m all])) (m : Int) = (wonN all (sumTo p m), 0) := by
  have hf := FOK.of hv
  have hqs : (hF m ((m : Int) + 1) (lotsQ p m ++ [lastB m all])).q = lotsQ p m ++ [lastB m all] := rfl
  have hq : ∀ b ∈ lotsQ p m, 0 ≤ b.pay := fun b hb => (hf.pay b (by rw [hqs]; exact List.mem_append.2 (.inl hb))).1
  have hb : 0 ≤ (lastB m all).pay := (hf.pay _ (by rw [hqs]; simp)).1
  have hrd := lots_rd m hm (lotsQ p m ++ [lastB m all])
  have hs := lots_sale p hrd
  have h8 := hf.ql
  rw [hqs, List.length_append, List.length_singleton] at h8
  obtain ⟨h1, h2⟩ := one_more (b := lastB m all) hq hb h8 hs (ready_iff.2 fun n hn => by
    obtain ⟨i, hi, rfl⟩ := List.mem_map.1 (show n ∈ intsN (List.range m) from hn)
    exact hrd i (List.mem_range.1 hi)) (fun a ha => by
    obtain ⟨i, hi, rfl⟩ := mem_lotsQ ha
    exact ⟨(i : Int), by simp, List.mem_map.2 ⟨i, List.mem_range.2 hi, rfl⟩⟩)
  rw [lotsQ_len] at h1 h2
  rw [show List.range m = List.range (lotsQ p m).length by rw [lotsQ_len], lots_brings] at h2
  have hbid : isBid (hF m ((m : Int) + 1) (lotsQ p m ++ [lastB m all])) (m : Int) = true := by
    unfold isBid
    rw [hqs, List.length_append, lotsQ_len]
    exact inR_true.2 (by simp)
  unfold wonRet
  rw [hbid]
  refine (numRF_ok (ask_valid hv)).trans ?_
  rw [hqs, Int.toNat_natCast, h1, h2]
  rfl
theorem won_never (a s : Int) : (wonN a s ≠ 2 ↔ s ≤ a) ∧ 1 ≤ wonN a s ∧ wonN a s ≤ 3 := by
  unfold wonN
  split
  · omega
  · split <;> omega
theorem lots_bars {p : List Int} {m : Nat} {all : Int} (hm : m ≤ 3) : (∀ b ∈ lotsQ p m, b.bar.length ≤ 1000) ∧ ∀ b ∈ lotsQ p m ++ [lastB m all], b.bar.length ≤ 1000 := by
  have h1 : ∀ b ∈ lotsQ p m, b.bar.length ≤ 1000 := fun b hb => by
    obtain ⟨i, _, rfl⟩ := mem_lotsQ hb
    simp
  refine ⟨h1, fun b hb => ?_⟩
  rcases List.mem_append.1 hb with h | h
  · exact h1 b h
  · rw [List.mem_singleton] at h
    subst h
    show (intsN (List.range m)).length ≤ 1000
    rw [intsN_len, List.length_range]
    omega
end Go.Proofs.YtmbcpmnigggbaabGreat.Cu
