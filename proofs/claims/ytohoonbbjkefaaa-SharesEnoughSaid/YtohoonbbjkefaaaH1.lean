import Derived.Test.YtohoonbbjkefaaaF9
import Derived.Test.YtohoonbbjkefaaaF8
namespace Go.Proofs.Ytohoonbbjkefaaa
open Go.RowKit

/-- A number of coins for each node. -/
def coinsOK (N : Nat) (l : List Int) : Bool := decide (l.length = N) && l.all (fun x => inR x 0 400)
/-- Each node keeps enough. -/
def enB (ns : List Node) (l : List Int) (p : Nat) : Bool := (List.range ns.length).all (fun i => decide (at0 l i ≤ keptS ns p i))
def enE (ns : List Node) (l : List Int) : Int := askE ns (coinsOK ns.length l) []
def enoughS (ns : List Node) (l : List Int) : Int × Int := if enE ns l = 0 then firstE (enB ns l) 401 else (0, enE ns l)
theorem enB_yes {ns : List Node} {l : List Int} {p : Nat} (h : ∀ i, i < ns.length → at0 l i ≤ keptS ns p i) : enB ns l p = true := by
  unfold enB
  rw [List.all_eq_true]
  intro i hi
  exact decide_eq_true (h i (List.mem_range.1 hi))
theorem enB_no {ns : List Node} {l : List Int} {p i : Nat} (hi : i < ns.length) (h : keptS ns p i < at0 l i) : enB ns l p = false := by
  unfold enB
  rw [List.all_eq_false]
  exact ⟨i, List.mem_range.2 hi, by simp; omega⟩

theorem at0_is {l : List Int} {k : Nat} (hk : k < l.length) : l[k]? = some (at0 l k) := by
  unfold at0
  rw [List.getElem?_eq_getElem hk]
  rfl
theorem enough1_any (x : Int) (w : World) : Calls Try.prog 88 #[.int .i64 x] w fun e w' => e = .returned (.bool (!inR x 0 400)) ∧ w = w' := by
  go_enter Try.func88, Try.ntmps88
  go_wp2_with (go_at_call 62; go_must (refine (isPence_is _ _ _ rfl).mono ?_; rintro e w' ⟨rfl, rfl⟩))
  go_ret
  exact ⟨rfl, rfl⟩
/-- Where the first one stands of which something is so, or -1. -/
def IdxI (p : Int → Bool) (l : List Int) (r : Int) : Prop := decide (0 ≤ r) = l.any p
set_option maxHeartbeats 1000000 in
theorem indexInt_any (c : Nat) (A : Option Addr) (l : List Int) (hl : l.length ≤ 1000) (w : World) (hP : IntsAt w w.heap.size A l) :
    Calls Try.prog 98 #[.slice A l.length c, .func (.func 88) #[] #[]] w fun e w' => ∃ r, e = .returned (.int .i64 r) ∧ IdxI (fun x => !inR x 0 400) l r ∧ w = w' := by
  have eg := enters_of Try.func88 (by kernel_rfl) rfl
  have HPn := Lib.hid hP
  clear hP
  go_enter Try.func98, Try.ntmps98
  go_wp2
  go_loopw [5, 8] (fun _ i wr => ∃ k : Nat, k ≤ l.length ∧ i = .int .i64 k ∧ Hid (∀ x ∈ l.take k, (!inR x 0 400) = false) ∧ w = wr) (fun _ i _ => l.length - (intOf i).toNat)
  case atStart => exact ⟨0, Nat.zero_le _, rfl, Lib.hid (fun j hj => by simp at hj), rfl⟩
  case round =>
    obtain ⟨k, hk, rfl, HK, rfl⟩ := hrel
    by_cases hlt : k < l.length
    · obtain ⟨x, hx⟩ : ∃ x, l[k]? = some x := ⟨_, List.getElem?_eq_getElem hlt⟩
      obtain ⟨b, off, rfl, hbb, c1⟩ := HPn.out.at_ hx
      have hmem : x ∈ l := List.mem_of_getElem? hx
      have htk : l.take (k + 1) = l.take k ++ [x] := by rw [List.take_add_one, hx]; rfl
      have HT := Lib.hid htk
      clear hx htk
      cases hp : (!inR x 0 400)
      all_goals
        have hc := enough1_any x w
        rw [hp] at hc
        have HC := Lib.hid hc
        have HP := Lib.hid hp
        clear hc hp
        go_wp2_with (refine HC.out.mono ?_; rintro e w1 ⟨rfl, rfl⟩)
      · go_roundw
        case rel => exact ⟨k + 1, by omega, by go_num, Lib.hid (fun y hy => by
            rw [HT.out, List.mem_append] at hy
            rcases hy with hy | hy
            · exact HK.out y hy
            · rw [List.mem_singleton.1 hy]; exact HP.out), by trivial⟩
        case measure => simp [intOf]; omega
      · go_ret
        refine ⟨k, rfl, ?_, rfl⟩
        rw [IdxI, List.any_eq_true.2 ⟨x, hmem, HP.out⟩]
        simp
    · obtain rfl : k = l.length := by omega
      go_wp2
      go_ret
      refine ⟨-1, rfl, ?_, rfl⟩
      have : l.any (fun x => !inR x 0 400) = false := by
        rw [List.any_eq_false]
        intro y hy
        rw [HK.out y (by rw [List.take_length]; exact hy)]
        simp
      rw [IdxI, this]
      rfl
theorem containsInt_is (c : Nat) (A : Option Addr) (l : List Int) (hl : l.length ≤ 1000) (w : World) (hP : IntsAt w w.heap.size A l) (b : Bool) (hb : l.any (fun x => !inR x 0 400) = b) :
    Calls Try.prog 87 #[.slice A l.length c, .func (.func 88) #[] #[]] w fun e w' => e = .returned (.bool b) ∧ w = w' := by
  rw [← hb]
  have H := Lib.hid (indexInt_any c A l hl w hP)
  clear hP
  go_enter Try.func87, Try.ntmps87
  go_wp2_with (go_at_call 98; refine H.out.mono ?_; rintro e w1 ⟨r, rfl, hr, rfl⟩; have HR := Lib.hid hr; clear hr)
  go_ret
  exact ⟨by rw [← HR.out]; rfl, rfl⟩

set_option maxRecDepth 100000 in
set_option maxHeartbeats 2000000 in
/-- Enough's own question. -/
theorem enough2_any (pc pl c cl : Nat) (A Al : Option Addr) (ns : List Node) (l : List Int) (n : Nat) (hg : GoodC ns) (hll : l.length = ns.length) (hn : n ≤ 400) (w : World) (hN : Nodes w w.heap.size A ns) (hI : IntsAt w w.heap.size Al l)
    (b1 : Boxed w pc 24 (.slice A ns.length c)) (b2 : Boxed w pl 40 (.slice Al ns.length cl)) :
    Calls Try.prog 89 #[.int .i64 n, .pointer (some ⟨pc, 0, none⟩), .pointer (some ⟨pl, 0, none⟩)] w fun e w' => e = .returned (.bool (enB ns l n)) ∧ Below w.heap.size w w' := by
  have h8 := hg.l8
  have c1 := b1.cell
  have HN := Lib.hid hN
  have HI := Lib.hid hI
  have B2 := Lib.hid b2
  clear hN hI b1 b2
  go_enter Try.func89, Try.ntmps89
  go_wp2_with (go_at_call 84; go_must (refine (share_good c A hg (by omega) (by omega) w HN.out).mono ?_; rintro e w1 ⟨gb, kb, rfl, _, _, _, h4, h5, h6⟩))
  have HK := Lib.hid h5
  have B3 := boxed_ext h6 B2.out
  have I3 := Lib.hid (ilt HI.out h6)
  have m1 := B3.cell
  clear h4 h5 c1
  go_loopw [7, 8, 18] (fun _ _ i wr => ∃ k : Nat, k ≤ ns.length ∧ i = .int .i64 k ∧ Hid (∀ j, j < k → at0 l j ≤ keptS ns n j) ∧ w1 = wr) (fun _ _ i _ => ns.length - (intOf i).toNat)
  case atStart => exact ⟨0, Nat.zero_le _, rfl, Lib.hid (fun j hj => by omega), rfl⟩
  case round =>
    obtain ⟨k, hk, rfl, HF, rfl⟩ := hrel
    by_cases hlt : k < ns.length
    · obtain ⟨q, hq⟩ : ∃ q, keptS ns n k = q := ⟨_, rfl⟩
      obtain ⟨x, hx⟩ : ∃ x, at0 l k = x := ⟨_, rfl⟩
      have mk := Row.cell HK.out (k := k) (by rw [keptsS_len]; exact hlt)
      rw [keptsS_at hlt, hq] at mk
      obtain ⟨b, off, rfl, _, mx⟩ := IntsAt.at_ I3.out (at0_is (k := k) (by rw [hll]; exact hlt))
      rw [hx] at mx
      have HQ := Lib.hid hq
      have HX := Lib.hid hx
      clear hq hx
      by_cases hlo : q < x
      · go_wp2
        go_ret
        exact ⟨by rw [enB_no hlt (by rw [HQ.out, HX.out]; exact hlo)]; rfl, h6⟩
      · go_wp2
        go_roundw
        case rel => exact ⟨k + 1, by omega, by go_num, Lib.hid (fun j hj => by
          by_cases e : j = k
          · rw [e, HQ.out, HX.out]; omega
          · exact HF.out j (by omega)), by trivial⟩
        case measure => simp [intOf]; omega
    · obtain rfl : k = ns.length := by omega
      go_wp2
      go_ret
      exact ⟨by rw [enB_yes HF.out]; rfl, h6⟩
end Go.Proofs.Ytohoonbbjkefaaa
