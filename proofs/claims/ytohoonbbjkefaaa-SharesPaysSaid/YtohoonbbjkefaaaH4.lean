import Derived.Test.YtohoonbbjkefaaaF10
import Derived.Test.YtohoonbbjkefaaaF8
namespace Go.Proofs.Ytohoonbbjkefaaa
open Go.RowKit

/-- A number of coins for each node. -/
def coinsOK (N : Nat) (l : List Int) : Bool := decide (l.length = N) && l.all (fun x => inR x 0 400)
/-- Each node keeps enough. -/
def enB (ns : List Node) (l : List Int) (p : Nat) : Bool := (List.range ns.length).all (fun i => decide (at0 l i ≤ keptS ns p i))
def enE (ns : List Node) (l : List Int) : Int := askE ns (coinsOK ns.length l) []
def enoughS (ns : List Node) (l : List Int) : Int × Int := if enE ns l = 0 then firstE (enB ns l) 401 else (0, enE ns l)
theorem enB_yes {ns : List Node} {l : List Int} {p : Nat} (h : ∀ i, i < ns.length → at0 l i ≤ keptS ns p i) : enB ns l p = true := by
  unfold enB
  rw [List.all_eq_true]
  intro i hi
  exact decide_eq_true (h i (List.mem_range.1 hi))
theorem enB_no {ns : List Node} {l : List Int} {p i : Nat} (hi : i < ns.length) (h : keptS ns p i < at0 l i) : enB ns l p = false := by
  unfold enB
  rw [List.all_eq_false]
  exact ⟨i, List.mem_range.2 hi, by simp; omega⟩

theorem at0_is {l : List Int} {k : Nat} (hk : k < l.length) : l[k]? = some (at0 l k) := by
  unfold at0
  rw [List.getElem?_eq_getElem hk]
  rfl
theorem enough1_any (x : Int) (w : World) : Calls Try.prog 88 #[.int .i64 x] w fun e w' => e = .returned (.bool (!inR x 0 400)) ∧ w = w' := by
  go_enter Try.func88, Try.ntmps88
  go_wp2_with (go_at_call 62; go_must (refine (isPence_is _ _ _ rfl).mono ?_; rintro e w' ⟨rfl, rfl⟩))
  go_ret
  exact ⟨rfl, rfl⟩
/-- Where the first one stands of which something is so, or -1. -/
def IdxI (p : Int → Bool) (l : List Int) (r : Int) : Prop := decide (0 ≤ r) = l.any p
set_option maxHeartbeats 1000000 in
theorem indexInt_any (c : Nat) (A : Option Addr) (l : List Int) (hl : l.length ≤ 1000) (w : World) (hP : IntsAt w w.heap.size A l) :
    Calls Try.prog 98 #[.slice A l.length c, .func (.func 88) #[] #[]] w fun e w' => ∃ r, e = .returned (.int .i64 r) ∧ IdxI (fun x => !inR x 0 400) l r ∧ w = w' := by
  have eg := enters_of Try.func88 (by kernel_rfl) rfl
  have HPn := Lib.hid hP
  clear hP
  go_enter Try.func98, Try.ntmps98
  go_wp2
  go_loopw [5, 8] (fun _ i wr => ∃ k : Nat, k ≤ l.length ∧ i = .int .i64 k ∧ Hid (∀ x ∈ l.take k, (!inR x 0 400) = false) ∧ w = wr) (fun _ i _ => l.length - (intOf i).toNat)
  case atStart => exact ⟨0, Nat.zero_le _, rfl, Lib.hid (fun j hj => by simp at hj), rfl⟩
  case round =>
    obtain ⟨k, hk, rfl, HK, rfl⟩ := hrel
    by_cases hlt : k < l.length
    · obtain ⟨x, hx⟩ : ∃ x, l[k]? = some x := ⟨_, List.getElem?_eq_getElem hlt⟩
      obtain ⟨b, off, rfl, hbb, c1⟩ := HPn.out.at_ hx
      have hmem : x ∈ l := List.mem_of_getElem? hx
      have htk : l.take (k + 1) = l.take k ++ [x] := by rw [List.take_add_one, hx]; rfl
      have HT := Lib.hid htk
      clear hx htk
      cases hp : (!inR x 0 400)
      all_goals
        have hc := enough1_any x w
        rw [hp] at hc
        have HC := Lib.hid hc
        have HP := Lib.hid hp
        clear hc hp
        go_wp2_with (refine HC.out.mono ?_; rintro e w1 ⟨rfl, rfl⟩)
      · go_roundw
        case rel => exact ⟨k + 1, by omega, by go_num, Lib.hid (fun y hy => by
            rw [HT.out, List.mem_append] at hy
            rcases hy with hy | hy
            · exact HK.out y hy
            · rw [List.mem_singleton.1 hy]; exact HP.out), by trivial⟩
        case measure => simp [intOf]; omega
      · go_ret
        refine ⟨k, rfl, ?_, rfl⟩
        rw [IdxI, List.any_eq_true.2 ⟨x, hmem, HP.out⟩]
        simp
    · obtain rfl : k = l.length := by omega
      go_wp2
      go_ret
      refine ⟨-1, rfl, ?_, rfl⟩
      have : l.any (fun x => !inR x 0 400) = false := by
        rw [List.any_eq_false]
        intro y hy
        rw [HK.out y (by rw [List.take_length]; exact hy)]
        simp
      rw [IdxI, this]
      rfl
theorem containsInt_is (c : Nat) (A : Option Addr) (l : List Int) (hl : l.length ≤ 1000) (w : World) (hP : IntsAt w w.heap.size A l) (b : Bool) (hb : l.any (fun x => !inR x 0 400) = b) :
    Calls Try.prog 87 #[.slice A l.length c, .func (.func 88) #[] #[]] w fun e w' => e = .returned (.bool b) ∧ w = w' := by
  rw [← hb]
  have H := Lib.hid (indexInt_any c A l hl w hP)
  clear hP
  go_enter Try.func87, Try.ntmps87
  go_wp2_with (go_at_call 98; refine H.out.mono ?_; rintro e w1 ⟨r, rfl, hr, rfl⟩; have HR := Lib.hid hr; clear hr)
  go_ret
  exact ⟨by rw [← HR.out]; rfl, rfl⟩

set_option maxRecDepth 100000 in
set_option maxHeartbeats 2000000 in
/-- Enough's own question. -/
theorem enough2_any (pc pl c cl : Nat) (A Al : Option Addr) (ns : List Node) (l : List Int) (n : Nat) (hg : GoodC ns) (hll : l.length = ns.length) (hn : n ≤ 400) (w : World) (hN : Nodes w w.heap.size A ns) (hI : IntsAt w w.heap.size Al l)
    (b1 : Boxed w pc 24 (.slice A ns.length c)) (b2 : Boxed w pl 40 (.slice Al ns.length cl)) :
    Calls Try.prog 89 #[.int .i64 n, .pointer (some ⟨pc, 0, none⟩), .pointer (some ⟨pl, 0, none⟩)] w fun e w' => e = .returned (.bool (enB ns l n)) ∧ Below w.heap.size w w' := by
  have h8 := hg.l8
  have c1 := b1.cell
  have HN := Lib.hid hN
  have HI := Lib.hid hI
  have B2 := Lib.hid b2
  clear hN hI b1 b2
  go_enter Try.func89, Try.ntmps89
  go_wp2_with (go_at_call 84; go_must (refine (share_good c A hg (by omega) (by omega) w HN.out).mono ?_; rintro e w1 ⟨gb, kb, rfl, _, _, _, h4, h5, h6⟩))
  have HK := Lib.hid h5
  have B3 := boxed_ext h6 B2.out
  have I3 := Lib.hid (ilt HI.out h6)
  have m1 := B3.cell
  clear h4 h5 c1
  go_loopw [7, 8, 18] (fun _ _ i wr => ∃ k : Nat, k ≤ ns.length ∧ i = .int .i64 k ∧ Hid (∀ j, j < k → at0 l j ≤ keptS ns n j) ∧ w1 = wr) (fun _ _ i _ => ns.length - (intOf i).toNat)
  case atStart => exact ⟨0, Nat.zero_le _, rfl, Lib.hid (fun j hj => by omega), rfl⟩
  case round =>
    obtain ⟨k, hk, rfl, HF, rfl⟩ := hrel
    by_cases hlt : k < ns.length
    · obtain ⟨q, hq⟩ : ∃ q, keptS ns n k = q := ⟨_, rfl⟩
      obtain ⟨x, hx⟩ : ∃ x, at0 l k = x := ⟨_, rfl⟩
      have mk := Row.cell HK.out (k := k) (by rw [keptsS_len]; exact hlt)
      rw [keptsS_at hlt, hq] at mk
      obtain ⟨b, off, rfl, _, mx⟩ := IntsAt.at_ I3.out (at0_is (k := k) (by rw [hll]; exact hlt))
      rw [hx] at mx
      have HQ := Lib.hid hq
      have HX := Lib.hid hx
      clear hq hx
      by_cases hlo : q < x
      · go_wp2
        go_ret
        exact ⟨by rw [enB_no hlt (by rw [HQ.out, HX.out]; exact hlo)]; rfl, h6⟩
      · go_wp2
        go_roundw
        case rel => exact ⟨k + 1, by omega, by go_num, Lib.hid (fun j hj => by
          by_cases e : j = k
          · rw [e, HQ.out, HX.out]; omega
          · exact HF.out j (by omega)), by trivial⟩
        case measure => simp [intOf]; omega
    · obtain rfl : k = ns.length := by omega
      go_wp2
      go_ret
      exact ⟨by rw [enB_yes HF.out]; rfl, h6⟩
end Go.Proofs.Ytohoonbbjkefaaa
namespace Go.Proofs.Ytohoonbbjkefaaa
open Go.RowKit

theorem enE_of {ns : List Node} {l : List Int} {b1 b2 : Bool} (h1 : decide (l.length = ns.length) = b1) (h2 : l.any (fun x => !inR x 0 400) = b2) : enE ns l = askE ns (b1 && !b2) [] := by
  unfold enE coinsOK
  rw [h1]
  have : l.all (fun x => inR x 0 400) = !b2 := by rw [← h2, ← List.not_all_eq_any_not]; simp
  rw [this]
set_option maxRecDepth 100000 in
set_option maxHeartbeats 4000000 in
theorem enough_any (A Al : Option Addr) (c cl : Nat) (ns : List Node) (l : List Int) (hn : ns.length ≤ 1000) (hl : l.length ≤ 1000) (w : World) (hN : Nodes w w.heap.size A ns) (hI : IntsAt w w.heap.size Al l) :
    Calls Try.prog 53 #[.agg #[.slice A ns.length c], .slice Al l.length cl] w fun e w' => e = .returned (.tuple #[.int .i64 (enoughS ns l).1, .int .i64 (enoughS ns l).2]) ∧ Below w.heap.size w w' := by
  obtain ⟨W0, hW0⟩ : ∃ W0, (w.alloc (.cells #[.slice A ns.length c] 24)).alloc (.cells #[.slice Al l.length cl] 40) = W0 := ⟨_, rfl⟩
  have b1 : Boxed W0 w.heap.size 24 (.slice A ns.length c) := by rw [← hW0]; exact (Boxed.new _ _ _).alloc _
  have b2 : Boxed W0 (w.heap.size + 1) 40 (.slice Al l.length cl) := by
    have := Boxed.new (w.alloc (.cells #[.slice A ns.length c] 24)) 40 (.slice Al l.length cl)
    rw [← hW0]; simpa only [World.size_alloc] using this
  have hB0 : Below w.heap.size w W0 := by rw [← hW0]; exact ((Below.refl _ w).alloc (Nat.le_refl _) _).alloc (by simp) _
  have hN0 : Nodes W0 W0.heap.size A ns := Nodes.lt hN hB0
  have hI0 : IntsAt W0 W0.heap.size Al l := ilt hI hB0
  have l1 := extB_cell b1.cell
  have l2 := extB_cell b2.cell
  have HN0 := Lib.hid hN0
  have HI0 := Lib.hid hI0
  clear hN hI hN0 hI0
  obtain ⟨t1, h1⟩ : ∃ b, decide (l.length = ns.length) = b := ⟨_, rfl⟩
  obtain ⟨t2, h2⟩ : ∃ b, l.any (fun x => !inR x 0 400) = b := ⟨_, rfl⟩
  have hE := enE_of h1 h2
  have G2 := Lib.hid h2
  have g1 : ((l.length : Int) == ns.length) = t1 := by
    rw [← h1, Bool.eq_iff_iff]
    simp only [beq_iff_eq, decide_eq_true_eq]
    omega
  cases t1 <;> cases t2
  all_goals
    simp only [Bool.and_true, Bool.and_false, Bool.not_true, Bool.not_false] at hE
    obtain ⟨ee, hee⟩ : ∃ ee, enE ns l = ee := ⟨_, rfl⟩
    rcases err_cases ee with rfl | ⟨hne, hneb⟩
    · have hs : enoughS ns l = firstE (enB ns l) 401 := if_pos hee
      have HS := Lib.hid hs
      rw [hE] at hee
      obtain ⟨z1, z2, _, _⟩ := askE_zero hee
      have HE := Lib.hid hee
      have hll := h1
      clear hs hE hee h1 h2
      first
        | (exfalso; revert z2; decide)
        | (have hg := good_of z1
           have HLL := Lib.hid (of_decide_eq_true hll)
           clear z1 z2 hll
           go_enter Try.func53, Try.ntmps53
           go_wp2
           clear hW0
           refine wp_region_ext (by kernel_rfl) (by kernel_rfl) ?_
           repeat (go_big_quiet_step (first
             | (go_at_call 87; exact ext_same (containsInt_is _ _ l hl _ (ilt HI0.out (extB_below _ _)) _ G2.out))
             | (go_at_call 60; exact ext_call (ask_is _ none _ 0 ns [] _ hn (by simp) _ (Nodes.lt HN0.out (extB_below _ _)) nodes_nil _ HE.out))))
           refine wpQuiet_nil ?_
           rintro _ ⟨x1, rfl⟩
           obtain ⟨W1, hW1⟩ : ∃ W1, extB W0 x1 = W1 := ⟨_, rfl⟩
           have hb1 := extB_below W0 x1
           rw [hW1] at hb1 ⊢
           rw [HLL.out] at b2
           clear hW1 l1 l2 g1
           have hb2 := hb0to hB0 hb1
           have HF := Lib.hid (first2_any 89 w.heap.size (w.heap.size + 1) 401 (by omega) (enB ns l) W1 (enters_of Try.func89 (by kernel_rfl) rfl) (fun k W hk hW => enough2_any w.heap.size (w.heap.size + 1) c cl A Al ns l k hg HLL.out (by omega) W (Nodes.lt HN0.out (hb1.trans (hW.mono hb1.size))) (ilt HI0.out (hb1.trans (hW.mono hb1.size)))
             ((hW.block _ (Nat.lt_of_lt_of_le b1.lt hb1.size)).trans ((hb1.block _ b1.lt).trans b1)) ((hW.block _ (Nat.lt_of_lt_of_le b2.lt hb1.size)).trans ((hb1.block _ b2.lt).trans b2))))
           go_wp2_with (go_at_call 63; refine HF.out.mono ?_; rintro e w2 ⟨rfl, hb3⟩)
           go_ret2
           exact ⟨by rw [HS.out]; rfl, hb2.trans (hb3.mono (by have := hB0.size; have := hb1.size; omega))⟩)
    · have hs : enoughS ns l = (0, ee) := by unfold enoughS; rw [hee]; exact if_neg hne
      have HS := Lib.hid hs
      rw [hE] at hee
      have HE := Lib.hid hee
      clear hs hE hee h1 h2
      go_enter Try.func53, Try.ntmps53
      go_wp2
      clear hW0
      refine wp_region_ext (by kernel_rfl) (by kernel_rfl) ?_
      repeat (go_big_quiet_step (first
        | (go_at_call 87; exact ext_same (containsInt_is _ _ l hl _ (ilt HI0.out (extB_below _ _)) _ G2.out))
        | (go_at_call 60; exact ext_call (ask_is _ none _ 0 ns [] _ hn (by simp) _ (Nodes.lt HN0.out (extB_below _ _)) nodes_nil _ HE.out))))
      refine wpQuiet_nil ?_
      rintro _ ⟨x1, rfl⟩
      have hb1 := hb0to hB0 (extB_below W0 x1)
      go_wp2
      go_ret2
      exact ⟨by rw [HS.out]; rfl, hb1⟩
end Go.Proofs.Ytohoonbbjkefaaa
namespace Go.Proofs.Ytohoonbbjkefaaa
open Go.RowKit

theorem coinsOK_no {N : Nat} {l : List Int} {k : Nat} {x : Int} (hx : l[k]? = some x) (h : inR x 0 400 = false) : coinsOK N l = false := by
  have : l.all (fun x => inR x 0 400) = false := by
    rw [List.all_eq_false]
    exact ⟨x, List.mem_of_getElem? hx, by rw [h]; simp⟩
  unfold coinsOK
  rw [this, Bool.and_false]
theorem coinsOK_yes {N : Nat} {l : List Int} (hl : l.length = N) (h : ∀ k x, k < l.length → l[k]? = some x → inR x 0 400 = true) : coinsOK N l = true := by
  have : l.all (fun x => inR x 0 400) = true := by
    rw [List.all_eq_true]
    intro x hx
    obtain ⟨k, hk, rfl⟩ := List.getElem_of_mem hx
    exact h k _ hk (List.getElem?_eq_getElem hk)
  unfold coinsOK
  rw [this, decide_eq_true hl]
  rfl
theorem coinsOK_len {N : Nat} {l : List Int} (hl : ¬ l.length = N) : coinsOK N l = false := by
  unfold coinsOK
  rw [decide_eq_false hl]
  rfl
set_option maxRecDepth 100000 in
set_option maxHeartbeats 2000000 in
theorem areCoins_any (A Al : Option Addr) (N c cl : Nat) (l : List Int) (hl : l.length ≤ 1000) (w : World) (hI : IntsAt w w.heap.size Al l) :
    Calls Try.prog 55 #[.agg #[.slice A N c], .slice Al l.length cl] w fun e w' => e = .returned (.bool (coinsOK N l)) ∧ Below w.heap.size w w' := by
  obtain ⟨W0, hW0⟩ : ∃ W0, w.alloc (.cells #[.slice A N c] 24) = W0 := ⟨_, rfl⟩
  have b1 : Boxed W0 w.heap.size 24 (.slice A N c) := by rw [← hW0]; exact Boxed.new _ _ _
  have hB0 : Below w.heap.size w W0 := by rw [← hW0]; exact (Below.refl _ w).alloc (Nat.le_refl _) _
  have HI0 := Lib.hid (ilt hI hB0)
  have c1 := b1.cell
  clear hI
  by_cases hll : l.length = N
  · have g1 : ((l.length : Int) != N) = false := by simp [hll]
    have HL := Lib.hid hll
    clear hll
    go_enter Try.func55, Try.ntmps55
    go_wp2
    go_loopw [5] (fun i wr => ∃ k : Nat, k ≤ l.length ∧ i = .int .i64 k ∧ Hid (∀ j x, j < k → l[j]? = some x → inR x 0 400 = true) ∧ W0 = wr) (fun i _ => l.length - (intOf i).toNat)
    case atStart => exact ⟨0, Nat.zero_le _, rfl, Lib.hid (fun j x hj => by omega), by first | rfl | exact hW0.symm | exact hW0⟩
    case round =>
      obtain ⟨k, hk, rfl, HK, rfl⟩ := hrel
      by_cases hlt : k < l.length
      · obtain ⟨x, hx⟩ : ∃ x, l[k]? = some x := ⟨_, List.getElem?_eq_getElem hlt⟩
        obtain ⟨b, off, rfl, hbb, c2⟩ := HI0.out.at_ hx
        have HX := Lib.hid hx
        clear hx
        cases hp : inR x 0 400
        all_goals
          have HP := Lib.hid hp
          clear hp
          go_wp2_with (go_at_call 32; go_must (refine (refIsPence_is _ _ _ HP.out).mono ?_; rintro e w' ⟨rfl, rfl⟩))
        · go_ret
          exact ⟨by rw [coinsOK_no HX.out HP.out]; rfl, hB0⟩
        · go_roundw
          case rel => exact ⟨k + 1, by omega, by go_num, Lib.hid (fun j y hj hy => by
            by_cases e : j = k
            · subst e
              rw [HX.out] at hy
              rw [← Option.some.inj hy]
              exact HP.out
            · exact HK.out j y (by omega) hy), by trivial⟩
          case measure => simp [intOf]; omega
      · obtain rfl : k = l.length := by omega
        go_wp2
        go_ret
        exact ⟨by rw [coinsOK_yes HL.out HK.out]; rfl, hB0⟩
  · have g1 : ((l.length : Int) != N) = true := by simp; omega
    have HL := Lib.hid hll
    clear hll
    go_enter Try.func55, Try.ntmps55
    go_wp2
    go_ret
    exact ⟨by rw [coinsOK_len HL.out]; rfl, hB0⟩
theorem areCoins_is (A Al : Option Addr) (N c cl : Nat) (l : List Int) (hl : l.length ≤ 1000) (w : World) (hI : IntsAt w w.heap.size Al l) (b : Bool) (hb : coinsOK N l = b) :
    Calls Try.prog 55 #[.agg #[.slice A N c], .slice Al l.length cl] w fun e w' => e = .returned (.bool b) ∧ Below w.heap.size w w' := by
  rw [← hb]; exact areCoins_any A Al N c cl l hl w hI

set_option maxRecDepth 100000 in
set_option maxHeartbeats 2000000 in
theorem isEnough_any (A Al : Option Addr) (c cl : Nat) (ns : List Node) (l : List Int) (n : Nat) (hg : GoodC ns) (hll : l.length = ns.length) (hn : n ≤ 400) (w : World) (hN : Nodes w w.heap.size A ns) (hI : IntsAt w w.heap.size Al l) :
    Calls Try.prog 90 #[.agg #[.slice A ns.length c], .slice Al ns.length cl, .int .i64 n] w fun e w' => e = .returned (.bool (enB ns l n)) ∧ Below w.heap.size w w' := by
  have h8 := hg.l8
  have E0 := Env.new c hN
  have EH := Lib.hid E0
  have HI := Lib.hid (ilt hI ((Below.refl _ w).alloc (Nat.le_refl _) (.cells #[.slice A ns.length c] 24)))
  have q0 := E0.bC.cell
  have HL := Lib.hid hll
  clear hN hI E0 hll
  go_enter Try.func90, Try.ntmps90
  go_wp2_with (go_at_call 85; go_must (refine (keepsOf_any A c ns n hg (by omega) (by omega) _ EH.out.hN).mono ?_; rintro e w1 ⟨B, d, rfl, hI, hb1⟩; have E1 := EH.out.next hb1))
  have HK := Lib.hid hI
  have I1 := Lib.hid (ilt HI.out hb1)
  have E1H := Lib.hid E1
  clear hI E1
  go_loopw [8] (fun i wr => ∃ k : Nat, k ≤ ns.length ∧ i = .int .i64 k ∧ Hid (∀ j, j < k → at0 l j ≤ keptS ns n j) ∧ Below w1.heap.size w1 wr) (fun i _ => ns.length - (intOf i).toNat)
  case atStart => exact ⟨0, Nat.zero_le _, rfl, Lib.hid (fun j hj => by omega), Below.refl _ _⟩
  case round =>
    obtain ⟨k, hk, rfl, HF, hb⟩ := hrel
    have hbE := (E1H.out.next hb).hb
    by_cases hlt : k < ns.length
    · obtain ⟨q, hq⟩ : ∃ q, keptS ns n k = q := ⟨_, rfl⟩
      obtain ⟨x, hx⟩ : ∃ x, at0 l k = x := ⟨_, rfl⟩
      obtain ⟨b2, off2, rfl, _, mk⟩ := IntsAt.at_ (ilt HK.out hb) (k := k) (x := q) (by rw [← hq]; simp [keptsS, hlt])
      obtain ⟨b, off, rfl, _, mx⟩ := IntsAt.at_ (ilt I1.out hb) (at0_is (k := k) (by rw [HL.out]; exact hlt))
      rw [hx] at mx
      have e1 := extB_cell mk
      have e2 := extB_cell mx
      have HQ := Lib.hid hq
      have HX := Lib.hid hx
      clear hq hx mk mx
      by_cases hlo : q < x
      · have g1 : decide (q < x) = true := decide_eq_true hlo
        go_wp2
        refine wp_region_ext (by kernel_rfl) (by kernel_rfl) ?_
        repeat (go_big_quiet_step (fail))
        refine wpQuiet_nil ?_
        rintro _ ⟨x1, rfl⟩
        have hb5 := hb0to hbE (extB_below wr x1)
        go_wp2
        go_ret
        exact ⟨by rw [enB_no hlt (by rw [HQ.out, HX.out]; exact hlo)]; rfl, hb5⟩
      · have g1 : decide (q < x) = false := decide_eq_false hlo
        go_wp2
        refine wp_region_ext (by kernel_rfl) (by kernel_rfl) ?_
        repeat (go_big_quiet_step (fail))
        refine wpQuiet_nil ?_
        rintro _ ⟨x1, rfl⟩
        have hb5 := hb0to hb (extB_below wr x1)
        go_wp2
        go_roundw
        case rel => exact ⟨k + 1, by omega, by go_num, Lib.hid (fun j hj => by
          by_cases e : j = k
          · rw [e, HQ.out, HX.out]; omega
          · exact HF.out j (by omega)), hb5⟩
        case measure => simp [intOf]; omega
    · obtain rfl : k = ns.length := by omega
      go_wp2
      go_ret
      exact ⟨by rw [enB_yes HF.out]; rfl, hbE⟩

theorem isEnough_is (A Al : Option Addr) (c cl : Nat) (ns : List Node) (l : List Int) (n : Nat) (hg : GoodC ns) (hll : l.length = ns.length) (hn : n ≤ 400) (w : World) (hN : Nodes w w.heap.size A ns) (hI : IntsAt w w.heap.size Al l) (b : Bool) (hb : enB ns l n = b) :
    Calls Try.prog 90 #[.agg #[.slice A ns.length c], .slice Al l.length cl, .int .i64 n] w fun e w' => e = .returned (.bool b) ∧ Below w.heap.size w w' := by
  rw [hll, ← hb]
  exact isEnough_any A Al c cl ns l n hg hll hn w hN hI
set_option maxRecDepth 100000 in
set_option maxHeartbeats 4000000 in
theorem refEnough_any (A Al : Option Addr) (c cl : Nat) (ns : List Node) (l : List Int) (hn : ns.length ≤ 1000) (hl : l.length ≤ 1000) (w : World) (hN : Nodes w w.heap.size A ns) (hI : IntsAt w w.heap.size Al l) :
    Calls Try.prog 54 #[.agg #[.slice A ns.length c], .slice Al l.length cl] w fun e w' => e = .returned (.tuple #[.int .i64 (enoughS ns l).1, .int .i64 (enoughS ns l).2]) ∧ Below w.heap.size w w' := by
  obtain ⟨W0, hW0⟩ : ∃ W0, w.alloc (.cells #[.slice A ns.length c] 24) = W0 := ⟨_, rfl⟩
  have E0 : Env w A c ns W0 := by rw [← hW0]; exact Env.new c hN
  have HI0 := Lib.hid (show IntsAt W0 W0.heap.size Al l by rw [← hW0]; exact ilt hI ((Below.refl _ w).alloc (Nat.le_refl _) _))
  have EH := Lib.hid E0
  have l1 := extB_cell E0.bC.cell
  clear E0 hN hI
  obtain ⟨t1, h1⟩ : ∃ b, coinsOK ns.length l = b := ⟨_, rfl⟩
  have HT := Lib.hid h1
  obtain ⟨ee, hee⟩ : ∃ ee, enE ns l = ee := ⟨_, rfl⟩
  have hee2 : askE ns t1 [] = ee := by rw [← hee, ← h1]; rfl
  rcases err_cases ee with rfl | ⟨hne, hneb⟩
  · have hs : enoughS ns l = firstE (enB ns l) 401 := if_pos hee
    have HS := Lib.hid hs
    obtain ⟨z1, z2, _, _⟩ := askE_zero hee2
    have hg := good_of z1
    have HE := Lib.hid hee2
    have hll : l.length = ns.length := by
      subst z2
      unfold coinsOK at h1
      rw [Bool.and_eq_true, decide_eq_true_eq] at h1
      exact h1.1
    have HLL := Lib.hid hll
    clear hs hee hee2 h1 z1 z2 hll
    go_enter Try.func54, Try.ntmps54
    go_wp2
    clear hW0
    refine wp_region_ext (by kernel_rfl) (by kernel_rfl) ?_
    repeat (go_big_quiet_step (first
      | (go_at_call 55; exact ext_call (areCoins_is A _ _ c _ l hl _ (ilt HI0.out (extB_below _ _)) _ HT.out))
      | (go_at_call 66; exact ext_call (refAsk_is _ _ ns _ hn _ (Nodes.lt EH.out.hN (extB_below _ _)) _ HE.out))))
    refine wpQuiet_nil ?_
    rintro _ ⟨x1, rfl⟩
    obtain ⟨W1, hW1⟩ : ∃ W1, extB W0 x1 = W1 := ⟨_, rfl⟩
    have E1 := Lib.hid (EH.out.next (extB_below W0 x1))
    have I1 := Lib.hid (ilt HI0.out (extB_below W0 x1))
    rw [hW1] at E1 I1 ⊢
    clear hW1 l1
    go_wp2
    go_loopw [7] (fun i wr => ∃ k : Nat, k ≤ 401 ∧ i = .int .i64 k ∧ Hid (∀ j, j < k → enB ns l j = false) ∧ Hid (Env w A c ns wr) ∧ Hid (IntsAt wr wr.heap.size Al l)) (fun i _ => 401 - (intOf i).toNat)
    case atStart => exact ⟨0, by omega, rfl, Lib.hid (fun j hj => by omega), E1, I1⟩
    case round =>
      obtain ⟨k, hk, rfl, HK, HE1, HI1⟩ := hrel
      have q0 := HE1.out.bC.cell
      by_cases hlt : k < 401
      · cases hp : enB ns l k
        all_goals
          have HP := Lib.hid hp
          clear hp
          go_wp2_with (go_at_call 90; go_must (refine (isEnough_is A Al c _ ns l k hg HLL.out (by omega) wr HE1.out.hN HI1.out _ HP.out).mono ?_; rintro e w2 ⟨rfl, hb2⟩))
        · go_roundw
          case rel => exact ⟨k + 1, by omega, by go_num, Lib.hid (fun j hj => by
            by_cases e : j = k
            · rw [e]; exact HP.out
            · exact HK.out j (by omega)), Lib.hid (HE1.out.next hb2), Lib.hid (ilt HI1.out hb2)⟩
          case measure => simp [intOf]; omega
        · go_ret2
          exact ⟨by rw [HS.out, firstE_hit hlt HK.out HP.out]; rfl, (HE1.out.next hb2).hb⟩
      · obtain rfl : k = 401 := by omega
        go_wp2
        go_ret2
        exact ⟨by rw [HS.out, firstE_none HK.out]; rfl, HE1.out.hb⟩
  · have hs : enoughS ns l = (0, ee) := by unfold enoughS; rw [hee]; exact if_neg hne
    have HS := Lib.hid hs
    have HE := Lib.hid hee2
    clear hs hee hee2 h1
    go_enter Try.func54, Try.ntmps54
    go_wp2
    clear hW0
    refine wp_region_ext (by kernel_rfl) (by kernel_rfl) ?_
    repeat (go_big_quiet_step (first
      | (go_at_call 55; exact ext_call (areCoins_is A _ _ c _ l hl _ (ilt HI0.out (extB_below _ _)) _ HT.out))
      | (go_at_call 66; exact ext_call (refAsk_is _ _ ns _ hn _ (Nodes.lt EH.out.hN (extB_below _ _)) _ HE.out))))
    refine wpQuiet_nil ?_
    rintro _ ⟨x1, rfl⟩
    have hb1 := (EH.out.next (extB_below W0 x1)).hb
    go_wp2
    go_ret2
    exact ⟨by rw [HS.out]; rfl, hb1⟩
end Go.Proofs.Ytohoonbbjkefaaa
namespace Go.Proofs.Ytohoonbbjkefaaa
open Go.RowKit

theorem ints_made (w : World) (n₀ : Nat) (hn : n₀ ≤ w.heap.size) : Ints (w.alloc (.cells #[] 3)) n₀ (.slice (some ⟨w.heap.size, 0, none⟩) 0 0) [] :=
  World.ownsRow_made w #[] 0 hn (by unfold maxLen; omega) rfl
/-- 'append([]int{}, xs...)'. -/
theorem wpl_copyI {ops : Array Oper} {rest : List Oper} {o : Oper} {a : Act} {w : World} {Q : Exit → Act → World → Prop} (hgd : o.guard = none) (s x : Operand)
    (ho : o.op = .call { callee := .builtin .append, args := #[s, x], argTypes := #[40, 40] }) (n₀ : Nat) (v : Value) (hs : a.eval s = v) (hown : Ints w n₀ v [])
    (A : Option Addr) (c : Nat) (l : List Int) (hA : A = none → c = 0 ∧ l = []) (hx : a.eval x = .slice A l.length c) (hI : IntsAt w w.heap.size A l) (hl : l.length ≤ 1000) (hn : n₀ ≤ w.heap.size)
    (h : ∀ v' w', Ints w' n₀ v' l → Below n₀ w w' → wpList Try.prog ops Q rest (a.put o.dst v') w') : wpList Try.prog ops Q (o :: rest) a w := by
  obtain ⟨i0, hi, hz0, hz1, hz2⟩ := info_parts info3
  cases A with
  | none =>
    obtain ⟨rfl, rfl⟩ := hA rfl
    exact wpList_append_own_none hgd s x 40 ho n₀ 3 i0 1 Try.underlying40 hi v 0 [] hs hown hx (h v w hown (Below.refl _ _))
  | some ad =>
    refine wpList_append_own w hgd s x 40 ho n₀ 3 i0 (.int .i64 0) 1 8 Try.underlying40 hi hz0 hz1 hz2 rfl (by decide) v 0 [] hs hown ad l.length c (l.map (.int .i64)) hx (by simp) ?_ ?_ ?_ ?_ hn ?_
    · intro j u hj
      rcases hI with rfl | ⟨b, off, e, _, hc⟩
      · simp at hj
      · cases e
        rw [List.getElem?_map] at hj
        cases hx : l[j]? with
        | none => rw [hx] at hj; simp at hj
        | some y =>
          rw [hx] at hj
          simp at hj
          subst hj
          rw [addr_add]
          exact hc j y hx
    · intro u hu
      obtain ⟨y, _, rfl⟩ := List.mem_map.1 hu
      rfl
    · unfold maxLen; omega
    · omega
    · intro v' w' h2 h3 _
      refine h v' w' ?_ (own_below hown h3 hn (Nat.le_refl _))
      unfold Ints
      simpa using h2
theorem enough_is (A Al : Option Addr) (c cl : Nat) (ns : List Node) (l : List Int) (hn : ns.length ≤ 1000) (hl : l.length ≤ 1000) (w : World) (hN : Nodes w w.heap.size A ns) (hI : IntsAt w w.heap.size Al l) (n e : Int) (h : enoughS ns l = (n, e)) :
    Calls Try.prog 53 #[.agg #[.slice A ns.length c], .slice Al l.length cl] w fun x w' => x = .returned (.tuple #[.int .i64 n, .int .i64 e]) ∧ Below w.heap.size w w' := by
  have := enough_any A Al c cl ns l hn hl w hN hI
  rw [h] at this
  exact this
theorem refEnough_is (A Al : Option Addr) (c cl : Nat) (ns : List Node) (l : List Int) (hn : ns.length ≤ 1000) (hl : l.length ≤ 1000) (w : World) (hN : Nodes w w.heap.size A ns) (hI : IntsAt w w.heap.size Al l) (n e : Int) (h : enoughS ns l = (n, e)) :
    Calls Try.prog 54 #[.agg #[.slice A ns.length c], .slice Al l.length cl] w fun x w' => x = .returned (.tuple #[.int .i64 n, .int .i64 e]) ∧ Below w.heap.size w w' := by
  have := refEnough_any A Al c cl ns l hn hl w hN hI
  rw [h] at this
  exact this

set_option maxRecDepth 100000 in
set_option maxHeartbeats 4000000 in
theorem enough_law (A Al : Option Addr) (c cl : Nat) (ns : List Node) (l : List Int) (hA : A = none → c = 0 ∧ ns = []) (hAl : Al = none → cl = 0 ∧ l = []) (hn : ns.length ≤ 9223372036854775807) (hl : l.length ≤ 9223372036854775807) (w : World) (hN : Nodes w w.heap.size A ns) (hI : IntsAt w w.heap.size Al l) :
    Calls Try.prog 12 #[.agg #[.slice A ns.length c], .slice Al l.length cl] w fun e w' => e = .returned (.bool true) ∧ Below w.heap.size w w' := by
  obtain ⟨W0, hW0⟩ : ∃ W0, w.alloc (.cells #[.slice A ns.length c] 24) = W0 := ⟨_, rfl⟩
  have E0 : Env w A c ns W0 := by rw [← hW0]; exact Env.new c hN
  have I0 : IntsAt W0 W0.heap.size Al l := by rw [← hW0]; exact ilt hI ((Below.refl _ w).alloc (Nat.le_refl _) _)
  have q0 := E0.bC.cell
  have I0H := Lib.hid I0
  clear hN hI I0
  by_cases h40 : 40 < ns.length
  · have HF := Lib.hid (far_big A ns.length c W0 hn true (by simpa using h40))
    go_enter Try.func12, Try.ntmps12
    go_wp2_with (first
      | (go_at_call 16; go_must (refine HF.out.mono ?_; rintro e w1 ⟨rfl, hb1⟩; have E1 := E0.next hb1))
      | (go_at_call 17; go_must (refine (works_any w1).mono ?_; rintro e w2 ⟨rfl, hb2⟩; have E2 := E1.next hb2)))
    go_ret
    exact ⟨rfl, E2.hb⟩
  · have HF := Lib.hid (far_big A ns.length c W0 hn false (by simpa using h40))
    by_cases hl4 : 40 < l.length
    · go_enter Try.func12, Try.ntmps12
      go_wp2_with (first
        | (go_at_call 16; go_must (refine HF.out.mono ?_; rintro e w1 ⟨rfl, hb1⟩; have E1 := E0.next hb1))
        | (go_at_call 17; go_must (refine (works_any w1).mono ?_; rintro e w2 ⟨rfl, hb2⟩; have E2 := E1.next hb2)))
      go_ret
      exact ⟨rfl, E2.hb⟩
    · obtain ⟨n1, e1, h1⟩ : ∃ n e, enoughS ns l = (n, e) := ⟨_, _, rfl⟩
      have H1 := Lib.hid h1
      have HA := Lib.hid hA
      have HAl := Lib.hid hAl
      have hn4 : ns.length ≤ 1000 := by omega
      have hl40 : l.length ≤ 1000 := by omega
      clear h1 hA hAl
      go_enter Try.func12, Try.ntmps12
      go_wp2_with (first
        | (go_at_call 16; go_must (refine HF.out.mono ?_; rintro e w1 ⟨rfl, hb1⟩; have E1 := E0.next hb1; have a1 := E1.bC.cell; have I1 := ilt I0H.out hb1))
        | (go_at_call 18; go_must (refine (copy_is A c ns HA.out hn4 w1 E1.hN).mono ?_; rintro e w2 ⟨A', c', rfl, hA', hN', _, hb2⟩; have I2 := ilt (ilt I1 hb2) ((Below.refl _ w2).alloc (Nat.le_refl _) (.cells #[] 3)); have ow := ints_made w2 w2.heap.size (Nat.le_refl _)))
        | (at_builtin; go_must (refine wpl_copyI rfl _ _ rfl w2.heap.size _ rfl ow Al cl l HAl.out rfl I2 hl40 (by simp) ?_; intro v' w3 hown hb3; obtain ⟨B, d, rfl, hB, hI3⟩ := Ints.lay hown; have hb23 := ((Below.refl _ w2).alloc (Nat.le_refl _) (.cells #[] 3)).trans hb3; have F3 : EnvF w A c ns w3.heap.size A' c' (w3.alloc (.cells #[.slice A' ns.length c'] 24)) := ⟨((E1.next hb2).next hb23).alloc _, Boxed.new _ _ _, Nodes.alloc (Nodes.lt hN' hb23) _⟩; have a3 := F3.b.cell; have J3 := ilt hI3 ((Below.refl _ w3).alloc (Nat.le_refl _) (.cells #[.slice A' ns.length c'] 24)); have K3 := ilt (ilt (ilt I1 hb2) hb23) ((Below.refl _ w3).alloc (Nat.le_refl _) (.cells #[.slice A' ns.length c'] 24))))
        | (go_at_call 53; go_must (refine (enough_is A' B c' d ns l hn4 hl40 _ F3.hN J3 _ _ H1.out).mono ?_; rintro e w4 ⟨rfl, hb4⟩; have F4 := F3.next hb4; have a4 := F4.e.bC.cell; have J4 := ilt J3 hb4; have K4 := ilt K3 hb4))
        | (go_at_call 54; go_must (refine (refEnough_is A Al c cl ns l hn4 hl40 _ F4.e.hN K4 _ _ H1.out).mono ?_; rintro e w5 ⟨rfl, hb5⟩; have F5 := F4.next hb5; have a5 := F5.e.bC.cell; have b5 := F5.b.cell; have J5 := ilt J4 hb5; have K5 := ilt K4 hb5))
        | (go_at_call 25; go_must (refine (same_is A' A c' c ns hn4 _ F5.hN F5.e.hN).mono ?_; rintro e w6 ⟨rfl, hb6⟩; have F6 := F5.next hb6; have J6 := ilt J5 hb6; have K6 := ilt K5 hb6))
        | (go_at_call 37; go_must (refine (sameInts_is B Al d cl l hl40 _ J6 K6).mono ?_; rintro e w7 ⟨rfl, hb7⟩; have F7 := F6.next hb7))
        | (go_at_call 17; go_must (refine (works_any _).mono ?_; rintro e w8 ⟨rfl, hb8⟩; have F8 := F7.next hb8)))
      go_ret
      exact ⟨rfl, F8.e.hb⟩
end Go.Proofs.Ytohoonbbjkefaaa
