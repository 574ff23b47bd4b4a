import Derived.Test.YtohoonbbjkefaaaH2
namespace Go.Proofs.Ytohoonbbjkefaaa
open Go.RowKit

theorem coinsOK_no {N : Nat} {l : List Int} {k : Nat} {x : Int} (hx : l[k]? = some x) (h : inR x 0 400 = false) : coinsOK N l = false := by
  have : l.all (fun x => inR x 0 400) = false := by
    rw [List.all_eq_false]
    exact ⟨x, List.mem_of_getElem? hx, by rw [h]; simp⟩
  unfold coinsOK
  rw [this, Bool.and_false]
theorem coinsOK_yes {N : Nat} {l : List Int} (hl : l.length = N) (h : ∀ k x, k < l.length → l[k]? = some x → inR x 0 400 = true) : coinsOK N l = true := by
  have : l.all (fun x => inR x 0 400) = true := by
    rw [List.all_eq_true]
    intro x hx
    obtain ⟨k, hk, rfl⟩ := List.getElem_of_mem hx
    exact h k _ hk (List.getElem?_eq_getElem hk)
  unfold coinsOK
  rw [this, decide_eq_true hl]
  rfl
theorem coinsOK_len {N : Nat} {l : List Int} (hl : ¬ l.length = N) : coinsOK N l = false := by
  unfold coinsOK
  rw [decide_eq_false hl]
  rfl
set_option maxRecDepth 100000 in
set_option maxHeartbeats 2000000 in
theorem areCoins_any (A Al : Option Addr) (N c cl : Nat) (l : List Int) (hn : N ≤ 1000) (hl : l.length ≤ 1000) (w : World) (hI : IntsAt w w.heap.size Al l) :
    Calls Try.prog 55 #[.agg #[.slice A N c], .slice Al l.length cl] w fun e w' => e = .returned (.bool (coinsOK N l)) ∧ Below w.heap.size w w' := by
  obtain ⟨W0, hW0⟩ : ∃ W0, w.alloc (.cells #[.slice A N c] 24) = W0 := ⟨_, rfl⟩
  have b1 : Boxed W0 w.heap.size 24 (.slice A N c) := by rw [← hW0]; exact Boxed.new _ _ _
  have hB0 : Below w.heap.size w W0 := by rw [← hW0]; exact (Below.refl _ w).alloc (Nat.le_refl _) _
  have HI0 := Lib.hid (ilt hI hB0)
  have c1 := b1.cell
  clear hI
  by_cases hll : l.length = N
  · have g1 : ((l.length : Int) != N) = false := by simp [hll]
    have HL := Lib.hid hll
    clear hll
    go_enter Try.func55, Try.ntmps55
    go_wp2
    go_loopw [5] (fun i wr => ∃ k : Nat, k ≤ l.length ∧ i = .int .i64 k ∧ Hid (∀ j x, j < k → l[j]? = some x → inR x 0 400 = true) ∧ W0 = wr) (fun i _ => l.length - (intOf i).toNat)
    case atStart => exact ⟨0, Nat.zero_le _, rfl, Lib.hid (fun j x hj => by omega), by first | rfl | exact hW0.symm | exact hW0⟩
    case round =>
      obtain ⟨k, hk, rfl, HK, rfl⟩ := hrel
      by_cases hlt : k < l.length
      · obtain ⟨x, hx⟩ : ∃ x, l[k]? = some x := ⟨_, List.getElem?_eq_getElem hlt⟩
        obtain ⟨b, off, rfl, hbb, c2⟩ := HI0.out.at_ hx
        have HX := Lib.hid hx
        clear hx
        cases hp : inR x 0 400
        all_goals
          have HP := Lib.hid hp
          clear hp
          go_wp2_with (go_at_call 32; go_must (refine (refIsPence_is _ _ _ HP.out).mono ?_; rintro e w' ⟨rfl, rfl⟩))
        · go_ret
          exact ⟨by rw [coinsOK_no HX.out HP.out]; rfl, hB0⟩
        · go_roundw
          case rel => exact ⟨k + 1, by omega, by go_num, Lib.hid (fun j y hj hy => by
            by_cases e : j = k
            · subst e
              rw [HX.out] at hy
              rw [← Option.some.inj hy]
              exact HP.out
            · exact HK.out j y (by omega) hy), by trivial⟩
          case measure => simp [intOf]; omega
      · obtain rfl : k = l.length := by omega
        go_wp2
        go_ret
        exact ⟨by rw [coinsOK_yes HL.out HK.out]; rfl, hB0⟩
  · have g1 : ((l.length : Int) != N) = true := by simp; omega
    have HL := Lib.hid hll
    clear hll
    go_enter Try.func55, Try.ntmps55
    go_wp2
    go_ret
    exact ⟨by rw [coinsOK_len HL.out]; rfl, hB0⟩
theorem areCoins_is (A Al : Option Addr) (N c cl : Nat) (l : List Int) (hn : N ≤ 1000) (hl : l.length ≤ 1000) (w : World) (hI : IntsAt w w.heap.size Al l) (b : Bool) (hb : coinsOK N l = b) :
    Calls Try.prog 55 #[.agg #[.slice A N c], .slice Al l.length cl] w fun e w' => e = .returned (.bool b) ∧ Below w.heap.size w w' := by
  rw [← hb]; exact areCoins_any A Al N c cl l hn hl w hI

set_option maxRecDepth 100000 in
set_option maxHeartbeats 2000000 in
theorem isEnough_any (A Al : Option Addr) (c cl : Nat) (ns : List Node) (l : List Int) (n : Nat) (hg : GoodC ns) (hll : l.length = ns.length) (hn : n ≤ 400) (w : World) (hN : Nodes w w.heap.size A ns) (hI : IntsAt w w.heap.size Al l) :
    Calls Try.prog 90 #[.agg #[.slice A ns.length c], .slice Al ns.length cl, .int .i64 n] w fun e w' => e = .returned (.bool (enB ns l n)) ∧ Below w.heap.size w w' := by
  have h8 := hg.l8
  have E0 := Env.new c hN
  have EH := Lib.hid E0
  have HI := Lib.hid (ilt hI ((Below.refl _ w).alloc (Nat.le_refl _) (.cells #[.slice A ns.length c] 24)))
  have q0 := E0.bC.cell
  have HL := Lib.hid hll
  clear hN hI E0 hll
  go_enter Try.func90, Try.ntmps90
  go_wp2_with (go_at_call 85; go_must (refine (keepsOf_any A c ns n hg (by omega) (by omega) _ EH.out.hN).mono ?_; rintro e w1 ⟨B, d, rfl, hI, hb1⟩; have E1 := EH.out.next hb1))
  have HK := Lib.hid hI
  have I1 := Lib.hid (ilt HI.out hb1)
  have E1H := Lib.hid E1
  clear hI E1
  go_loopw [8] (fun i wr => ∃ k : Nat, k ≤ ns.length ∧ i = .int .i64 k ∧ Hid (∀ j, j < k → at0 l j ≤ keptS ns n j) ∧ Below w1.heap.size w1 wr) (fun i _ => ns.length - (intOf i).toNat)
  case atStart => exact ⟨0, Nat.zero_le _, rfl, Lib.hid (fun j hj => by omega), Below.refl _ _⟩
  case round =>
    obtain ⟨k, hk, rfl, HF, hb⟩ := hrel
    have hbE := (E1H.out.next hb).hb
    by_cases hlt : k < ns.length
    · obtain ⟨q, hq⟩ : ∃ q, keptS ns n k = q := ⟨_, rfl⟩
      obtain ⟨x, hx⟩ : ∃ x, at0 l k = x := ⟨_, rfl⟩
      obtain ⟨b2, off2, rfl, _, mk⟩ := IntsAt.at_ (ilt HK.out hb) (k := k) (x := q) (by rw [← hq]; simp [keptsS, hlt])
      obtain ⟨b, off, rfl, _, mx⟩ := IntsAt.at_ (ilt I1.out hb) (at0_is (k := k) (by rw [HL.out]; exact hlt))
      rw [hx] at mx
      have e1 := extB_cell mk
      have e2 := extB_cell mx
      have HQ := Lib.hid hq
      have HX := Lib.hid hx
      clear hq hx mk mx
      by_cases hlo : q < x
      · have g1 : decide (q < x) = true := decide_eq_true hlo
        go_wp2
        refine wp_region_ext (by kernel_rfl) (by kernel_rfl) ?_
        repeat (go_big_quiet_step (fail))
        refine wpQuiet_nil ?_
        rintro _ ⟨x1, rfl⟩
        have hb5 := hb0to hbE (extB_below wr x1)
        go_wp2
        go_ret
        exact ⟨by rw [enB_no hlt (by rw [HQ.out, HX.out]; exact hlo)]; rfl, hb5⟩
      · have g1 : decide (q < x) = false := decide_eq_false hlo
        go_wp2
        refine wp_region_ext (by kernel_rfl) (by kernel_rfl) ?_
        repeat (go_big_quiet_step (fail))
        refine wpQuiet_nil ?_
        rintro _ ⟨x1, rfl⟩
        have hb5 := hb0to hb (extB_below wr x1)
        go_wp2
        go_roundw
        case rel => exact ⟨k + 1, by omega, by go_num, Lib.hid (fun j hj => by
          by_cases e : j = k
          · rw [e, HQ.out, HX.out]; omega
          · exact HF.out j (by omega)), hb5⟩
        case measure => simp [intOf]; omega
    · obtain rfl : k = ns.length := by omega
      go_wp2
      go_ret
      exact ⟨by rw [enB_yes HF.out]; rfl, hbE⟩

theorem isEnough_is (A Al : Option Addr) (c cl : Nat) (ns : List Node) (l : List Int) (n : Nat) (hg : GoodC ns) (hll : l.length = ns.length) (hn : n ≤ 400) (w : World) (hN : Nodes w w.heap.size A ns) (hI : IntsAt w w.heap.size Al l) (b : Bool) (hb : enB ns l n = b) :
    Calls Try.prog 90 #[.agg #[.slice A ns.length c], .slice Al l.length cl, .int .i64 n] w fun e w' => e = .returned (.bool b) ∧ Below w.heap.size w w' := by
  rw [hll, ← hb]
  exact isEnough_any A Al c cl ns l n hg hll hn w hN hI
set_option maxRecDepth 100000 in
set_option maxHeartbeats 4000000 in
theorem refEnough_any (A Al : Option Addr) (c cl : Nat) (ns : List Node) (l : List Int) (hn : ns.length ≤ 1000) (hl : l.length ≤ 1000) (w : World) (hN : Nodes w w.heap.size A ns) (hI : IntsAt w w.heap.size Al l) :
    Calls Try.prog 54 #[.agg #[.slice A ns.length c], .slice Al l.length cl] w fun e w' => e = .returned (.tuple #[.int .i64 (enoughS ns l).1, .int .i64 (enoughS ns l).2]) ∧ Below w.heap.size w w' := by
  obtain ⟨W0, hW0⟩ : ∃ W0, w.alloc (.cells #[.slice A ns.length c] 24) = W0 := ⟨_, rfl⟩
  have E0 : Env w A c ns W0 := by rw [← hW0]; exact Env.new c hN
  have HI0 := Lib.hid (show IntsAt W0 W0.heap.size Al l by rw [← hW0]; exact ilt hI ((Below.refl _ w).alloc (Nat.le_refl _) _))
  have EH := Lib.hid E0
  have l1 := extB_cell E0.bC.cell
  clear E0 hN hI
  obtain ⟨t1, h1⟩ : ∃ b, coinsOK ns.length l = b := ⟨_, rfl⟩
  have HT := Lib.hid h1
  obtain ⟨ee, hee⟩ : ∃ ee, enE ns l = ee := ⟨_, rfl⟩
  have hee2 : askE ns t1 [] = ee := by rw [← hee, ← h1]; rfl
  rcases err_cases ee with rfl | ⟨hne, hneb⟩
  · have hs : enoughS ns l = firstE (enB ns l) 401 := if_pos hee
    have HS := Lib.hid hs
    obtain ⟨z1, z2, _, _⟩ := askE_zero hee2
    have hg := good_of z1
    have HE := Lib.hid hee2
    have hll : l.length = ns.length := by
      subst z2
      unfold coinsOK at h1
      rw [Bool.and_eq_true, decide_eq_true_eq] at h1
      exact h1.1
    have HLL := Lib.hid hll
    clear hs hee hee2 h1 z1 z2 hll
    go_enter Try.func54, Try.ntmps54
    go_wp2
    clear hW0
    refine wp_region_ext (by kernel_rfl) (by kernel_rfl) ?_
    repeat (go_big_quiet_step (first
      | (go_at_call 55; exact ext_call (areCoins_is A _ _ c _ l hn hl _ (ilt HI0.out (extB_below _ _)) _ HT.out))
      | (go_at_call 66; exact ext_call (refAsk_is _ _ ns _ hn _ (Nodes.lt EH.out.hN (extB_below _ _)) _ HE.out))))
    refine wpQuiet_nil ?_
    rintro _ ⟨x1, rfl⟩
    obtain ⟨W1, hW1⟩ : ∃ W1, extB W0 x1 = W1 := ⟨_, rfl⟩
    have E1 := Lib.hid (EH.out.next (extB_below W0 x1))
    have I1 := Lib.hid (ilt HI0.out (extB_below W0 x1))
    rw [hW1] at E1 I1 ⊢
    clear hW1 l1
    go_wp2
    go_loopw [7] (fun i wr => ∃ k : Nat, k ≤ 401 ∧ i = .int .i64 k ∧ Hid (∀ j, j < k → enB ns l j = false) ∧ Hid (Env w A c ns wr) ∧ Hid (IntsAt wr wr.heap.size Al l)) (fun i _ => 401 - (intOf i).toNat)
    case atStart => exact ⟨0, by omega, rfl, Lib.hid (fun j hj => by omega), E1, I1⟩
    case round =>
      obtain ⟨k, hk, rfl, HK, HE1, HI1⟩ := hrel
      have q0 := HE1.out.bC.cell
      by_cases hlt : k < 401
      · cases hp : enB ns l k
        all_goals
          have HP := Lib.hid hp
          clear hp
          go_wp2_with (go_at_call 90; go_must (refine (isEnough_is A Al c _ ns l k hg HLL.out (by omega) wr HE1.out.hN HI1.out _ HP.out).mono ?_; rintro e w2 ⟨rfl, hb2⟩))
        · go_roundw
          case rel => exact ⟨k + 1, by omega, by go_num, Lib.hid (fun j hj => by
            by_cases e : j = k
            · rw [e]; exact HP.out
            · exact HK.out j (by omega)), Lib.hid (HE1.out.next hb2), Lib.hid (ilt HI1.out hb2)⟩
          case measure => simp [intOf]; omega
        · go_ret2
          exact ⟨by rw [HS.out, firstE_hit hlt HK.out HP.out]; rfl, (HE1.out.next hb2).hb⟩
      · obtain rfl : k = 401 := by omega
        go_wp2
        go_ret2
        exact ⟨by rw [HS.out, firstE_none HK.out]; rfl, HE1.out.hb⟩
  · have hs : enoughS ns l = (0, ee) := by unfold enoughS; rw [hee]; exact if_neg hne
    have HS := Lib.hid hs
    have HE := Lib.hid hee2
    clear hs hee hee2 h1
    go_enter Try.func54, Try.ntmps54
    go_wp2
    clear hW0
    refine wp_region_ext (by kernel_rfl) (by kernel_rfl) ?_
    repeat (go_big_quiet_step (first
      | (go_at_call 55; exact ext_call (areCoins_is A _ _ c _ l hn hl _ (ilt HI0.out (extB_below _ _)) _ HT.out))
      | (go_at_call 66; exact ext_call (refAsk_is _ _ ns _ hn _ (Nodes.lt EH.out.hN (extB_below _ _)) _ HE.out))))
    refine wpQuiet_nil ?_
    rintro _ ⟨x1, rfl⟩
    have hb1 := (EH.out.next (extB_below W0 x1)).hb
    go_wp2
    go_ret2
    exact ⟨by rw [HS.out]; rfl, hb1⟩
end Go.Proofs.Ytohoonbbjkefaaa
