import Derived.Test.YtohoonbbjkefaaaF1
import Derived.Test.YtohoonbbjkefaaaM7
import Derived.StillTailTactics
namespace Go.Proofs.Ytohoonbbjkefaaa
open Go.RowKit

theorem below_is (A : Option Addr) (c : Nat) (ns : List Node) (m : Nat) (u : Int) (hu : (m : Int) = u) (hn : ns.length ≤ 1000) (h1 : 1 ≤ ns.length) (w : World) (hN : Nodes w w.heap.size A ns) :
    Calls Try.prog 29 #[.agg #[.slice A ns.length c], .int .i64 u] w fun e w' => ∃ B d, e = .returned (.slice B (kidsN ns m).length d) ∧ IntsAt w' w'.heap.size B ((kidsN ns m).map (fun i : Nat => (i : Int))) ∧ Below w.heap.size w w' := by
  subst hu
  exact below_any A c ns m hn h1 w hN

theorem firstI_snoc (ns : List Node) (l : List Nat) (x : Nat) : firstI ns (l ++ [x]) = if firstI ns l < 0 then (if 0 < (nodeAt ns x).w then (x : Int) else -1) else firstI ns l := by
  unfold firstI
  rw [List.find?_append]
  cases h : l.find? (fun i => decide (0 < (nodeAt ns i).w)) with
  | some i =>
    simp only [Option.some_or]
    rw [if_neg (by omega)]
  | none =>
    simp only [Option.none_or]
    rw [if_pos (by omega)]
    by_cases hx : 0 < (nodeAt ns x).w
    · simp [hx]
    · simp [hx]
theorem firstI_neg (ns : List Node) (l : List Nat) : firstI ns l = -1 ∨ ∃ x, x ∈ l ∧ firstI ns l = (x : Int) := by
  unfold firstI
  cases h : l.find? (fun i => decide (0 < (nodeAt ns i).w)) with
  | some i => exact .inr ⟨i, List.mem_of_find?_eq_some h, rfl⟩
  | none => exact .inl rfl

/-- The world in which a list of the nodes below stands. -/
structure EnvL (w : World) (A : Option Addr) (c : Nat) (ns : List Node) (B : Option Addr) (l : List Nat) (W : World) : Prop where
  e : Env w A c ns W
  hI : IntsAt W W.heap.size B (l.map (fun i : Nat => (i : Int)))
theorem EnvL.next {w : World} {A : Option Addr} {c : Nat} {ns : List Node} {B : Option Addr} {l : List Nat} {W W' : World} (h : EnvL w A c ns B l W) (hb : Below W.heap.size W W') : EnvL w A c ns B l W' :=
  ⟨h.e.next hb, ilt h.hI hb⟩

set_option maxRecDepth 100000 in
set_option maxHeartbeats 8000000 in
theorem isFirst_any (A : Option Addr) (c : Nat) (ns : List Node) (m : Nat) (hg : GoodC ns) (hm : m < ns.length) (w : World) (hN : Nodes w w.heap.size A ns) :
    Calls Try.prog 36 #[.agg #[.slice A ns.length c], .int .i64 m] w fun e w' => e = .returned (.bool (isFirstB ns m)) ∧ Below w.heap.size w w' := by
  have EH := Lib.hid (Env.new c hN)
  have hl8 := hg.l8
  clear hN
  go_enter Try.func36, Try.ntmps36
  go_wp2
  go_loopw [1, 5, 6, 7] (fun i _ _ _ wr => ∃ n : Nat, n < ns.length ∧ i = .int .i64 n ∧ Hid (isFirstB ns n = isFirstB ns m ∧ Env w A c ns wr)) (fun i _ _ _ _ => (intOf i).toNat)
  case atStart => exact ⟨m, hm, rfl, Lib.hid ⟨rfl, EH.out⟩⟩
  case round =>
    obtain ⟨n, hn, rfl, HR⟩ := hrel
    by_cases h0 : 0 < n
    · have E1 := HR.out.2
      have HE1 := Lib.hid E1
      obtain ⟨u1, u2⟩ := hg.upN hn h0
      obtain ⟨b, off, rfl, _, d1, _, _⟩ := E1.hN.at_ (GoodC.at_ hn)
      have q0 := extB_cell E1.bC.cell
      have q1 := extB_cell d1
      have p0 := E1.bC.cell
      have p1 := d1
      have hu : (upN ns n : Int) = (nodeAt ns n).u := u2
      have hun : upN ns n < n := u1
      have HUP := Lib.hid (isFirst_up hg hn h0)
      clear d1 u1 u2 E1
      go_wp2
      go_still_tail 7, (by kernel_rfl)
      change wpList _ _ _ _ _ wr.drew
      obtain ⟨W2, hW2⟩ : ∃ W2, wr.drew = W2 := ⟨_, rfl⟩
      have E2 : Env w (some ⟨b, off, none⟩) c ns W2 := by rw [← hW2]; exact HE1.out.next (drew_below wr)
      rw [hW2]
      clear hW2
      go_wp2_with (go_at_call 29; go_must (refine (below_is _ _ _ (upN ns n) _ hu (by omega) hg.l1 W2 E2.hN).mono ?_; rintro e w1 ⟨B, d, rfl, hI, hb1⟩))
      have EL := Lib.hid (show EnvL w (some ⟨b, off, none⟩) c ns B (kidsN ns (upN ns n)) w1 from ⟨E2.next hb1, hI⟩)
      have hkl := kidsN_len hg (upN ns n)
      clear hI E2
      go_loopw [6, 7] (fun f i wr2 => ∃ j : Nat, j ≤ (kidsN ns (upN ns n)).length ∧ i = .int .i64 j ∧ f = .int .i64 (firstI ns ((kidsN ns (upN ns n)).take j)) ∧ Hid (EnvL w (some ⟨b, off, none⟩) c ns B (kidsN ns (upN ns n)) wr2))
        (fun _ i _ => (kidsN ns (upN ns n)).length - (intOf i).toNat)
      case atStart => exact ⟨0, Nat.zero_le _, rfl, rfl, EL⟩
      case round =>
        obtain ⟨j, hj, rfl, rfl, HL⟩ := hrel
        by_cases hlt : j < (kidsN ns (upN ns n)).length
        · obtain ⟨x, hx⟩ : ∃ x, (kidsN ns (upN ns n))[j]? = some x := ⟨_, List.getElem?_eq_getElem hlt⟩
          have hxl := (mem_kids.1 (List.mem_of_getElem? hx)).1
          have hs := firstI_snoc ns ((kidsN ns (upN ns n)).take j) x
          rw [← show (kidsN ns (upN ns n)).take (j + 1) = (kidsN ns (upN ns n)).take j ++ [x] from by rw [List.take_add_one, hx]; rfl] at hs
          have HX := Lib.hid hx
          have hneg := firstI_neg ns ((kidsN ns (upN ns n)).take j)
          generalize firstI ns ((kidsN ns (upN ns n)).take j) = f at *
          have r0 := extB_cell HL.out.e.bC.cell
          obtain ⟨b2, o2, hB, _, e2⟩ := IntsAt.at_ HL.out.hI (k := j) (x := (x : Int)) (by rw [List.getElem?_map, hx]; rfl)
          subst hB
          obtain ⟨_, _, ee, _, _, d2, _⟩ := HL.out.e.hN.at_ (GoodC.at_ hxl)
          cases ee
          have r1 := extB_cell e2
          have r2 := extB_cell d2
          have e2' := e2
          clear hx e2 d2
          rcases hneg with rfl | ⟨y, _, rfl⟩
          · by_cases hpos : 0 < (nodeAt ns x).w
            · rw [if_pos (by omega), if_pos hpos] at hs
              have HS := Lib.hid hs
              have hp1 : decide (0 < (nodeAt ns x).w) = true := decide_eq_true hpos
              clear hs hpos
              go_wp2
              refine wp_region_ext (by kernel_rfl) (by kernel_rfl) ?_
              repeat (go_big_quiet_step (fail))
              refine wpQuiet_nil ?_
              rintro _ ⟨x1, rfl⟩
              have HL2 := Lib.hid (HL.out.next (extB_below wr x1))
              have r3 := r1 x1
              go_wp2
              go_roundw
              case rel => exact ⟨j + 1, by omega, by go_num, by rw [HS.out], HL2⟩
              case measure => simp [intOf]; omega
            · rw [if_pos (by omega), if_neg hpos] at hs
              have HS := Lib.hid hs
              have hp1 : decide (0 < (nodeAt ns x).w) = false := decide_eq_false hpos
              clear hs hpos
              go_wp2
              refine wp_region_ext (by kernel_rfl) (by kernel_rfl) ?_
              repeat (go_big_quiet_step (fail))
              refine wpQuiet_nil ?_
              rintro _ ⟨x1, rfl⟩
              have HL2 := Lib.hid (HL.out.next (extB_below wr x1))
              go_wp2
              go_roundw
              case rel => exact ⟨j + 1, by omega, by go_num, by rw [HS.out], HL2⟩
              case measure => simp [intOf]; omega
          · rw [if_neg (by omega)] at hs
            have HS := Lib.hid hs
            have hp1 : decide ((y : Int) < 0) = false := decide_eq_false (by omega)
            clear hs
            go_wp2
            refine wp_region_ext (by kernel_rfl) (by kernel_rfl) ?_
            repeat (go_big_quiet_step (fail))
            refine wpQuiet_nil ?_
            rintro _ ⟨x1, rfl⟩
            have HL2 := Lib.hid (HL.out.next (extB_below wr x1))
            go_wp2
            go_roundw
            case rel => exact ⟨j + 1, by omega, by go_num, by rw [HS.out], HL2⟩
            case measure => simp [intOf]; omega
        · obtain rfl : j = (kidsN ns (upN ns n)).length := by omega
          have hup := HUP.out
          generalize hfd : firstI ns ((kidsN ns (upN ns n)).take (kidsN ns (upN ns n)).length) = f at *
          rw [List.take_length] at hfd
          rw [hfd] at hup
          have E5 := HL.out.e
          have q5 := E5.bC.cell
          obtain ⟨_, _, ee, _, d5, _, _⟩ := E5.hN.at_ (GoodC.at_ hn)
          cases ee
          by_cases heq : f = (n : Int)
          · rw [if_pos heq] at hup
            have HQ := Lib.hid (hup.symm.trans HR.out.1)
            have hb5 : (f != (n : Int)) = false := by rw [heq]; simp
            have HE5 := Lib.hid E5
            clear hup hfd heq E5
            go_wp2
            go_roundw
            case rel => exact ⟨upN ns n, by omega, by rw [hu], Lib.hid ⟨HQ.out, HE5.out⟩⟩
            case measure => simp [intOf]; omega
          · rw [if_neg heq] at hup
            have HQ := Lib.hid (show isFirstB ns m = false from by rw [← HR.out.1]; exact hup)
            have hb5 : (f != (n : Int)) = true := by simpa using heq
            have HE5 := Lib.hid E5.hb
            clear hup hfd heq E5
            go_wp2
            go_ret
            exact ⟨by rw [HQ.out]; rfl, HE5.out⟩
    · obtain rfl : n = 0 := by omega
      have HQ := Lib.hid (show isFirstB ns m = true from by rw [← HR.out.1]; rfl)
      have HB := Lib.hid HR.out.2.hb
      go_wp2
      go_ret
      exact ⟨by rw [HQ.out]; rfl, HB.out⟩
end Go.Proofs.Ytohoonbbjkefaaa
