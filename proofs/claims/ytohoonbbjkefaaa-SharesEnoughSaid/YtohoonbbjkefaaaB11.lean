import Derived.Test.YtohoonbbjkefaaaB10
import Derived.Carry
import Derived.Laws.Runes
import Derived.Deep.RegionHeld3
import Derived.Deep.RegionWith
import Derived.Deep.OwnRows
import Derived.Deep.DeepMust
namespace Go.Proofs.Ytohoonbbjkefaaa
open Go.RowKit

/-- What a node gets with each of some weights. -/
def askKeys (ns : List Node) (m : Nat) (l : List Int) (n : Nat) : List Int := l.map (fun x => gotS (setW ns m x) n m)
theorem boxed_below {W W' : World} {b n : Nat} {t : TypeId} {v : Value} (h : Boxed W b t v) (hb : Below n W W') (hn : W.heap.size ≤ n) : Boxed W' b t v := (hb.block b (Nat.lt_of_lt_of_le h.lt hn)).trans h
theorem drew_below (W : World) : Below W.heap.size W W.drew := (Below.refl _ W).drew

theorem getsW {g cap : Nat} {ns : List Node} {m : Nat} {x : Int} {n : Nat} (hg : GoodC ns) (hm : m < ns.length) (hn : n ≤ 400) (hx : 0 ≤ x ∧ x ≤ 9) (w : World) (hN : Nodes w w.heap.size (some ⟨g, 0, none⟩) (setW ns m x)) :
    Calls Try.prog 65 #[.agg #[.slice (some ⟨g, 0, none⟩) ns.length cap], .int .i64 m, .int .i64 n] w fun e w' => e = .returned (.int .i64 (gotS (setW ns m x) n m)) ∧ Below w.heap.size w w' := by
  have := gets_any cap (some ⟨g, 0, none⟩) (pence := n) m (setW_good hg m hx) (by rw [setW_len]; exact hm) (by omega) (by omega) w hN
  rw [setW_len] at this
  exact this
theorem getsW_bd {ns : List Node} {m : Nat} {x : Int} {n : Nat} (hg : GoodC ns) (hm : m < ns.length) (hx : 0 ≤ x ∧ x ≤ 9) : 0 ≤ gotS (setW ns m x) n m ∧ gotS (setW ns m x) n m ≤ n :=
  gotS_bd (setW_good hg m hx) (by omega) m (by rw [setW_len]; exact hm)
/-- Memory behind the round of Ask's question. -/
theorem seen_round {w wr w2 w3 : World} {keys : List Int} (HS : SeenM wr w.heap.size keys) (hb : Below w.heap.size w wr) (hb4 : Below wr.heap.size wr w2) (hb5 : Below w2.heap.size w2 w3) (k : Int) (h0 : 0 ≤ k) (h1 : k ≤ 1000) (hl : keys.length ≤ 100) :
    ∃ c : Int, IntKind.i64.wrap (c + 1) = c + 1 ∧ (Instr.lookup 95 (.map (some w.heap.size)) (.int .i64 k) false).run Try.prog w3 = .ok (.int .i64 c) w3 ∧
    ∃ W', (Instr.mapUpdate 95 (.map (some w.heap.size)) (.int .i64 k) (.int .i64 (c + 1))).run Try.prog w3 = .ok () W' ∧ SeenM W' w.heap.size (keys ++ [k]) ∧ Below w.heap.size w W' := by
  have hb6 : Below wr.heap.size wr w3 := hb4.trans (hb5.mono hb4.size)
  obtain ⟨st1, W', st2, st3, st4⟩ := SeenM.step (SeenM.below HS hb6 (Nat.le_refl _)) k h0 h1 hl
  have hcl := List.count_le_length (a := k) (l := keys)
  refine ⟨_, Go.wrap_small _ (by omega) (by omega), st1, W', st2, st3, ?_⟩
  have hb7 : Below w.heap.size w w3 := hb.trans (hb6.mono hb.size)
  exact hb7.trans ((Below.refl w.heap.size w3).grown st4 hb7.size (fun j e => by injection e with e; omega))

set_option maxRecDepth 100000 in
set_option maxHeartbeats 4000000 in
theorem ask1S_any (pl pc pn b off c cl n : Nat) (Al : Option Addr) (ns : List Node) (l : List Int) (m : Nat) (hg : GoodC ns) (hm : m < ns.length) (hn : n ≤ 400) (hl : l.length ≤ 10) (hl9 : ∀ x ∈ l, 0 ≤ x ∧ x ≤ 9) (w : World) (hN : Nodes w w.heap.size (some ⟨b, off, none⟩) ns) (hI : IntsAt w w.heap.size Al l)
    (b1 : Boxed w pl 40 (.slice Al l.length cl)) (b2 : Boxed w pc 24 (.slice (some ⟨b, off, none⟩) ns.length c)) (b3 : Boxed w pn 3 (.int .i64 m)) :
    Calls Try.prog 81 #[.int .i64 n, .pointer (some ⟨pl, 0, none⟩), .pointer (some ⟨pc, 0, none⟩), .pointer (some ⟨pn, 0, none⟩)] w fun e w' => e = .returned (.bool (decide (askKeys ns m l n).Nodup)) ∧ Below w.heap.size w w' := by
  have HB1 := Lib.hid b1
  have HB2 := Lib.hid b2
  have HB3 := Lib.hid b3
  have HN := Lib.hid hN
  have HI := Lib.hid hI
  have hl8 := hg.l8
  have c1 := (b1.alloc (.map #[] 0)).cell
  have hmm := @run_makeMap Try.prog
  clear hN hI b1 b2 b3
  go_enter Try.func81, Try.ntmps81
  go_wp2
  go_loopw [8, 12] (fun _ i wr => ∃ k : Nat, k ≤ l.length ∧ i = .int .i64 k ∧ Hid (SeenM wr w.heap.size (askKeys ns m (l.take k) n)) ∧ Below w.heap.size w wr)
    (fun _ i _ => l.length - (intOf i).toNat)
  case atStart => exact ⟨0, Nat.zero_le _, rfl, Lib.hid (seen_made w), (Below.refl _ w).alloc (Nat.le_refl _) _⟩
  case round =>
    obtain ⟨k, hk, rfl, HS, hb⟩ := hrel
    by_cases hlt : k < l.length
    · obtain ⟨x, hx⟩ : ∃ x, l[k]? = some x := ⟨_, List.getElem?_eq_getElem hlt⟩
      obtain ⟨bl, offl, rfl, hbl, hcl⟩ := IntsAt.at_ HI.out hx
      have hx9 := hl9 x (List.mem_of_getElem? hx)
      have hbl2 : wr.cell? ⟨bl, offl + k, none⟩ = some (.int .i64 x) := (hb.cell (p := ⟨bl, offl + k, none⟩) hbl).trans hcl
      have e1 := (boxed_below HB2.out hb (Nat.le_refl _)).cell
      have e2 := (boxed_below HB3.out hb (Nat.le_refl _)).cell
      have hN3 : Nodes wr.drew wr.drew.heap.size (some ⟨b, off, none⟩) ns := (HN.out.below hb).more hb.size
      have HW := Lib.hid (with_any b off c ns m x hm (by omega) wr.drew hN3)
      have hbd := getsW_bd (n := n) hg hm hx9
      have hkl : (askKeys ns m (l.take k) n).length ≤ 100 := by simp [askKeys]; omega
      have HX := Lib.hid hx
      clear hx hcl hN3
      go_wp2
      go_region_with (first
        | (go_at_call 77; go_must (refine HW.out.mono ?_; rintro e w2 ⟨g, cap, rfl, hN4, hb4⟩; have e3 := (boxed_below HB3.out (hb.drew.trans (hb4.mono hb.size)) (Nat.le_refl _)).cell))
        | (go_at_call 65; go_must (refine (getsW hg hm hn hx9 w2 hN4).mono ?_; rintro e w3 ⟨rfl, hb5⟩; obtain ⟨cn, st0, st1, W4, st2, st3, st4⟩ := seen_round (w := w) (wr := wr.drew) HS.out hb.drew hb4 hb5 (gotS (setW ns m x) n m) hbd.1 (by omega) hkl)))
      all_goals
        have st5 : askKeys ns m (l.take (k + 1)) n = askKeys ns m (l.take k) n ++ [gotS (setW ns m x) n m] := by
          have : l.take (k + 1) = l.take k ++ [x] := by rw [List.take_add_one, HX.out]; rfl
          rw [askKeys, this, List.map_append]; rfl
        have ST5 := Lib.hid st5
        have ST3 := Lib.hid st3
        clear st0 st1 st2 st3 st5 hb4 hb5 e1 e2 e3 hbl2 hbd hkl
        go_wp2
        go_roundw
        case rel => exact ⟨k + 1, by omega, by go_num, by rw [ST5.out]; exact ST3, st4⟩
        case measure => simp [intOf]; omega
    · obtain rfl : k = l.length := by omega
      have hlen : (askKeys ns m (l.take l.length) n).length ≤ 100 := by simp [askKeys]; omega
      obtain ⟨sz, hsz, hq⟩ := SeenM.len_ HS.out hlen
      have hkl : (askKeys ns m (l.take l.length) n).length = l.length := by simp [askKeys]
      have q1 := (boxed_below HB1.out hb (Nat.le_refl _)).cell
      rw [hkl] at hq
      have HQ := Lib.hid (show decide (askKeys ns m l n).Nodup = decide (askKeys ns m (l.take l.length) n).Nodup from by rw [List.take_length])
      clear hkl hlen
      go_wp2
      go_ret
      exact ⟨by rw [HQ.out]; rfl, hb⟩
end Go.Proofs.Ytohoonbbjkefaaa
