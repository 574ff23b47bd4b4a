import Derived.Test.YtohoonbbjkefaaaN2
namespace Go.Proofs.Ytohoonbbjkefaaa
open Go.RowKit

theorem askE_good {ns : List Node} (hv : validB ns = true) : askE ns true [] = 0 := by rw [askE, hv]; simp
theorem exactS_good {ns : List Node} (hv : validB ns = true) {m : Nat} (hm : m < ns.length) {x y : Int} (h : exactV ns m = (x, y)) : exactS ns m = ((x, y), 0) := by
  have hi : inR (m : Int) 0 (ns.length - 1) = true := inR_true.2 (by omega)
  unfold exactS
  rw [hi, if_pos (askE_good hv), ← h]
  rfl
theorem exactV_zero (ns : List Node) : exactV ns 0 = (1, 1) := by
  show redS (1, 1) = (1, 1)
  decide
/-- The law's memory: the custom, the node's part, the nodes below it. -/
structure EnvP (w : World) (A : Option Addr) (c : Nat) (ns : List Node) (ba : Nat) (px py : Int) (B : Option Addr) (l : List Int) (W : World) : Prop where
  e : Env w A c ns W
  t : Two W ba px py
  i : IntsAt W W.heap.size B l
theorem EnvP.next {w : World} {A : Option Addr} {c : Nat} {ns : List Node} {ba : Nat} {px py : Int} {B : Option Addr} {l : List Int} {W W' : World} (h : EnvP w A c ns ba px py B l W) (hb : Below W.heap.size W W') : EnvP w A c ns ba px py B l W' :=
  ⟨h.e.next hb, h.t.below hb h.t.lt, ilt h.i hb⟩

set_option maxRecDepth 100000 in
set_option maxHeartbeats 4000000 in
theorem parts_law (A : Option Addr) (c : Nat) (ns : List Node) (hn : ns.length ≤ 9223372036854775807) (node : Int) (w : World) (hN : Nodes w w.heap.size A ns) :
    Calls Try.prog 4 #[.agg #[.slice A ns.length c], .int .i64 node] w fun e w' => e = .returned (.bool true) ∧ Below w.heap.size w w' := by
  obtain ⟨W0, hW0⟩ : ∃ W0, w.alloc (.cells #[.slice A ns.length c] 24) = W0 := ⟨_, rfl⟩
  have E0 : Env w A c ns W0 := by rw [← hW0]; exact Env.new c hN
  have q0 := E0.bC.cell
  clear hN
  cases hv : validB ns
  · have HR := Lib.hid (ready_is A c ns hn W0 E0.hN false hv)
    clear hv
    go_enter Try.func4, Try.ntmps4
    go_wp2_with (first
      | (go_at_call 26; go_must (refine HR.out.mono ?_; rintro e w1 ⟨rfl, hb1⟩; have E1 := E0.next hb1))
      | (go_at_call 17; go_must (refine (works_any w1).mono ?_; rintro e w2 ⟨rfl, hb2⟩; have E2 := E1.next hb2)))
    go_ret
    exact ⟨rfl, E2.hb⟩
  · have HR := Lib.hid (ready_is A c ns hn W0 E0.hN true hv)
    have hn8 := validB_len hv
    cases hi : inR node 0 (ns.length - 1)
    · have HI := Lib.hid hi
      clear hv hi
      go_enter Try.func4, Try.ntmps4
      go_wp2_with (first
        | (go_at_call 26; go_must (refine HR.out.mono ?_; rintro e w1 ⟨rfl, hb1⟩; have E1 := E0.next hb1; have m0 := E1.bC.cell))
        | (go_at_call 27; go_must (refine (refIsNode_is A _ c _ w1 (by omega) _ HI.out).mono ?_; rintro e w2 ⟨rfl, hb2⟩; have E2 := E1.next hb2))
        | (go_at_call 17; go_must (refine (works_any w2).mono ?_; rintro e w3 ⟨rfl, hb3⟩; have E3 := E2.next hb3)))
      go_ret
      exact ⟨rfl, E3.hb⟩
    · have hg := good_of hv
      have hic := inR_true.1 hi
      have HI := Lib.hid hi
      obtain ⟨m, rfl⟩ : ∃ m : Nat, node = m := ⟨node.toNat, by omega⟩
      have hm : m < ns.length := by omega
      have h1 : 1 ≤ ns.length := by omega
      have HV := Lib.hid hv
      obtain ⟨px, py, hpx⟩ : ∃ x y, exactV ns m = (x, y) := ⟨_, _, rfl⟩
      have hp := exactV_part hg hm
      rw [hpx] at hp
      obtain ⟨p1, p2, p3, p4, p5⟩ := hp
      have HP5 := Lib.hid p5
      have HX := Lib.hid (exactS_good hv hm hpx)
      have HX0 := Lib.hid (exactS_good hv (m := 0) (by omega) (exactV_zero ns))
      have HPX := Lib.hid hpx
      have nq := neq33 1 1
      clear hv hi hpx p5
      by_cases hk : (kidsN ns m).length = 0
      · have hkb : (((kidsN ns m).length : Int) == 0) = true := by simpa using hk
        clear hk
        go_enter Try.func4, Try.ntmps4
        go_wp2_with (first
          | (go_at_call 26; go_must (refine HR.out.mono ?_; rintro e w1 ⟨rfl, hb1⟩; have E1 := E0.next hb1; have m0 := E1.bC.cell))
          | (go_at_call 27; go_must (refine (refIsNode_is A _ c _ w1 (by omega) _ HI.out).mono ?_; rintro e w2 ⟨rfl, hb2⟩; have E2 := E1.next hb2; have m2 := E2.bC.cell))
          | (go_at_call 23; refine (exact_is A c ns m (by omega) _ E3.hN px py 0 HX.out).mono ?_; rintro e w4 ⟨rfl, hb4⟩; have E4 := (E3.next hb4).alloc (.cells #[.int .i64 px, .int .i64 py] 33); have t4 : Two (w4.alloc (.cells #[.int .i64 px, .int .i64 py] 33)) w4.heap.size px py := World.alloc_heap_new w4 _; have a4 := t4.c0; have b4 := t4.c1; have t5 := Two.below (t3.below hb4 t3.lt) ((Below.refl _ w4).alloc (Nat.le_refl _) (.cells #[.int .i64 px, .int .i64 py] 33)) (Nat.lt_of_lt_of_le t3.lt hb4.size); have a5 := t5.c0; have b5 := t5.c1)
          | (go_at_call 23; go_must (refine (exact_is A c ns 0 (by omega) _ E2.hN 1 1 0 HX0.out).mono ?_; rintro e w3 ⟨rfl, hb3⟩; have E3 := (E2.next hb3).alloc (.cells #[.int .i64 1, .int .i64 1] 33); have t3 : Two (w3.alloc (.cells #[.int .i64 1, .int .i64 1] 33)) w3.heap.size 1 1 := World.alloc_heap_new w3 _; have m3 := E3.bC.cell))
          | (go_at_call 28; go_must (refine (isPart_ok px py p1 p2 p3 p4 HP5.out _).mono ?_; rintro e w5 ⟨rfl, hb5⟩; have E5 := E4.next hb5; have m5 := E5.bC.cell))
          | (go_at_call 29; go_must (refine (below_any A c ns m (by omega) h1 w5 E5.hN).mono ?_; rintro e w6 ⟨B, d, rfl, hI, hb6⟩; have E6 := E5.next hb6))
          | (go_at_call 17; go_must (refine (works_any w6).mono ?_; rintro e w7 ⟨rfl, hb7⟩; have E7 := E6.next hb7)))
        go_ret
        exact ⟨rfl, E7.hb⟩
      · have hkb : (((kidsN ns m).length : Int) == 0) = false := by simpa using hk
        clear hk
        go_enter Try.func4, Try.ntmps4
        go_wp2_with (first
          | (go_at_call 26; go_must (refine HR.out.mono ?_; rintro e w1 ⟨rfl, hb1⟩; have E1 := E0.next hb1; have m0 := E1.bC.cell))
          | (go_at_call 27; go_must (refine (refIsNode_is A _ c _ w1 (by omega) _ HI.out).mono ?_; rintro e w2 ⟨rfl, hb2⟩; have E2 := E1.next hb2; have m2 := E2.bC.cell))
          | (go_at_call 23; refine (exact_is A c ns m (by omega) _ E3.hN px py 0 HX.out).mono ?_; rintro e w4 ⟨rfl, hb4⟩; have E4 := (E3.next hb4).alloc (.cells #[.int .i64 px, .int .i64 py] 33); have t4 : Two (w4.alloc (.cells #[.int .i64 px, .int .i64 py] 33)) w4.heap.size px py := World.alloc_heap_new w4 _; have a4 := t4.c0; have b4 := t4.c1; have t5 := Two.below (t3.below hb4 t3.lt) ((Below.refl _ w4).alloc (Nat.le_refl _) (.cells #[.int .i64 px, .int .i64 py] 33)) (Nat.lt_of_lt_of_le t3.lt hb4.size); have a5 := t5.c0; have b5 := t5.c1)
          | (go_at_call 23; go_must (refine (exact_is A c ns 0 (by omega) _ E2.hN 1 1 0 HX0.out).mono ?_; rintro e w3 ⟨rfl, hb3⟩; have E3 := (E2.next hb3).alloc (.cells #[.int .i64 1, .int .i64 1] 33); have t3 : Two (w3.alloc (.cells #[.int .i64 1, .int .i64 1] 33)) w3.heap.size 1 1 := World.alloc_heap_new w3 _; have m3 := E3.bC.cell))
          | (go_at_call 28; go_must (refine (isPart_ok px py p1 p2 p3 p4 HP5.out _).mono ?_; rintro e w5 ⟨rfl, hb5⟩; have E5 := E4.next hb5; have t6 := t4.below hb5 t4.lt; have m5 := E5.bC.cell))
          | (go_at_call 29; go_must (refine (below_any A c ns m (by omega) h1 w5 E5.hN).mono ?_; rintro e w6 ⟨B, d, rfl, hI, hb6⟩; have P6 : EnvP w A c ns w4.heap.size px py B ((kidsN ns m).map (fun i : Nat => (i : Int))) w6 := ⟨E5.next hb6, t6.below hb6 t6.lt, hI⟩)))
        have T7 : Two (w6.alloc (.cells #[.int .i64 0, .int .i64 1] 33)) w6.heap.size 0 1 := World.alloc_heap_new w6 _
        have P6H := Lib.hid P6
        have hkl := kidsN_len hg m
        go_loopw [11] (fun i wr => ∃ k : Nat, k ≤ (kidsN ns m).length ∧ i = .int .i64 k ∧ Below w6.heap.size w6 wr ∧ Two wr w6.heap.size (partSum ns m k).1 (partSum ns m k).2) (fun i _ => (kidsN ns m).length - (intOf i).toNat)
        case atStart => exact ⟨0, Nat.zero_le _, rfl, (Below.refl _ w6).alloc (Nat.le_refl _) _, by rw [partSum_zero hg hm]; exact T7⟩
        case round =>
          obtain ⟨k, hk, rfl, hb, hT⟩ := hrel
          clear t4 t5 t6 T7 a4 b4 a5 b5 m0 m2 m3 m5 q0
          have P := P6H.out.next hb
          by_cases hlt : k < (kidsN ns m).length
          · obtain ⟨x, hx, hxl, _, _, hxi⟩ := kid_at hlt
            obtain ⟨s1, s2, hs⟩ : ∃ a1 a2, partSum ns m k = (a1, a2) := ⟨_, _, rfl⟩
            obtain ⟨n1, n2, hnx⟩ : ∃ a1 a2, partSum ns m (k + 1) = (a1, a2) := ⟨_, _, rfl⟩
            obtain ⟨ex, ey, hex⟩ : ∃ a1 a2, exactV ns x = (a1, a2) := ⟨_, _, rfl⟩
            have hst := partSum_step hg hm hx
            rw [hs, hex, hnx] at hst
            have hsb := partSum_bd hg hm k
            rw [hs] at hsb hT
            have hnb := partSum_bd hg hm (k + 1)
            rw [hnx] at hnb
            obtain ⟨s3, s4, s5, s6⟩ := hsb
            obtain ⟨n3, n4, n5, n6⟩ := hnb
            have hex' := exactV_part hg hxl
            rw [hex] at hex'
            obtain ⟨x3, x4, x5, x6, x7⟩ := hex'
            have hmul := step_bd (a := s1) (b := s2) (c := ex) (d := ey) ⟨s5, by simp only at s4 s6; omega⟩ ⟨s3, s4⟩ ⟨x5, by simp only at x4 x6; omega⟩ ⟨x3, x4⟩
            obtain ⟨z1, z2, z3, z4, z5, z6⟩ := hmul
            simp only at s3 s4 s5 s6 n3 n4 n5 n6 x3 x4 x5 x6 hst
            have HST := Lib.hid hst
            have HX7 := Lib.hid x7
            have HNX := Lib.hid hnx
            have HXX := Lib.hid (exactS_good HV.out hxl hex)
            obtain ⟨b, off, rfl, _, hcx⟩ := IntsAt.at_ P.i hxi
            have mc := P.e.bC.cell
            have PH := Lib.hid P
            have HT := Lib.hid hT
            clear hT
            clear hst x7 hnx hs hex hx hxi P
            have nb := World.new_ne wr _ hcx
            have nc := World.new_ne wr _ mc
            go_upto_region 14 with fail
            go_cut [12, 13] (fun s12 s13 wx => ∃ bx : Nat, s12 = .pointer (some ⟨bx, 0, none⟩) ∧ s13 = .int .i64 0 ∧ Two wx bx ex ey ∧ Below wr.heap.size wr wx)
            case first =>
              go_region_held3 (fun w' => w'.cell? ⟨w.heap.size, 0, none⟩ = some (.slice A ns.length c) ∧ w'.cell? ⟨b, off + k, none⟩ = some (.int .i64 x)) (first | go_keep)
                (first
                  | (go_at_call 23; refine (exact_is A c ns x (by omega) _ (Nodes.lt PH.out.e.hN (drew_below wr)) ex ey 0 HXX.out).mono ?_; rintro e w9 ⟨rfl, hb9⟩; have hbw : Below wr.heap.size wr w9 := hb0to (drew_below wr) hb9; have mc9 := below_cell hbw mc; have hcx9 := below_cell hbw hcx)
                  | (go_at_call 23; refine (exact_is A c ns x (by omega) _ (Nodes.lt PH.out.e.hN ((Below.refl _ wr).alloc (Nat.le_refl _) (.cells #[.int .i64 0, .int .i64 0] 33)).drew) ex ey 0 HXX.out).mono ?_; rintro e w9 ⟨rfl, hb9⟩; have hbw : Below wr.heap.size wr w9 := hb0to (((Below.refl _ wr).alloc (Nat.le_refl _) (.cells #[.int .i64 0, .int .i64 0] 33)).drew) hb9; have mc9 := below_cell hbw mc; have hcx9 := below_cell hbw hcx; have tz : Two (wr.alloc (.cells #[.int .i64 0, .int .i64 0] 33)).drew wr.heap.size 0 0 := World.alloc_heap_new wr _; have tz9 := tz.below hb9 tz.lt; have y0 := tz9.c0; have y1 := tz9.c1; have y2 := tz9.fr; have y3 := fun v => (tz9.set0 v).c1; have y4 := fun v => (tz9.set0 v).fr))
              all_goals (go_wp2_with fail; go_meet; first | exact ⟨w9.heap.size, rfl, rfl, World.alloc_heap_new w9 _, hbw.alloc hbw.size _⟩ | exact ⟨wr.heap.size, rfl, rfl, tz9.end_ ex ey, (hbw.setCell (p := ⟨wr.heap.size, 0, none⟩) (Nat.le_refl _) _).setCell (p := ⟨wr.heap.size, 1, none⟩) (Nat.le_refl _) _⟩)
            case rest =>
              obtain ⟨bx, rfl, rfl, hTx, hbx⟩ := hcut
              have x0 := hTx.c0
              have x1 := hTx.c1
              have hT1 := HT.out.below hbx HT.out.lt
              go_wp2_with (first
                | (go_at_call 28; go_must (refine (isPart_ok ex ey x3 x4 x5 x6 HX7.out _).mono ?_; rintro e w11 ⟨rfl, hb11⟩; have x2 := (hTx.below hb11 hTx.lt).c0; have x22 := (hTx.below hb11 hTx.lt).c1; have hT11 := hT1.below hb11 hT1.lt; have u0 := hT11.c0; have u1 := hT11.c1))
                | (go_at_call 30; go_must (refine (reduced_is _ _ n1 n2 (by omega) (by omega) z5 (by omega) HST.out _).mono ?_; rintro e w12 ⟨rfl, hb12⟩; have t3 := hT11.below hb12 hT11.lt; have v1 := t3.c0; have v2 := t3.c1; have v3 := t3.fr; have v4 := fun v => (t3.set0 v).c1; have v5 := fun v => (t3.set0 v).fr; have v6 := (t3.end_ n1 n2).c1)))
              have hbe := ((hb0to (hb0to (hb0to hb hbx) hb11) hb12).setCell (p := ⟨w6.heap.size, 0, none⟩) (Nat.le_refl _) (.int .i64 n1)).setCell (p := ⟨w6.heap.size, 1, none⟩) (Nat.le_refl _) (.int .i64 n2)
              have tE := t3.end_ n1 n2
              go_roundw
              case rel => first | exact ⟨k + 1, by omega, by go_num, hbe, by rw [HNX.out]; exact tE⟩ | ((repeat apply Exists.intro); exact ⟨⟨k + 1, by omega, by go_num, hbe, by rw [HNX.out]; exact tE⟩, rfl⟩)
              case measure => simp [intOf]; omega
          · obtain rfl : k = (kidsN ns m).length := by omega
            have hend := partSum_end hg hm
            have mc := P.e.bC.cell
            by_cases hs : wsum ns m = 0
            · have h0 := hend.1 hs
              rw [h0] at hT
              have HS := Lib.hid hs
              have HT := Lib.hid hT
              have u0 := hT.c0
              clear hT h0 hend hs
              go_wp2_with (first
                | (go_at_call 31; go_must (refine (refSum_is A c ns m hg wr P.e.hN 0 HS.out).mono ?_; rintro e w8 ⟨rfl, hb8⟩; have P8 := P.next hb8; have u1 := (HT.out.below hb8 HT.out.lt).c0))
                | (go_at_call 17; go_must (refine (works_any w8).mono ?_; rintro e w9 ⟨rfl, hb9⟩; have P9 := P8.next hb9)))
              go_ret
              exact ⟨rfl, P9.e.hb⟩
            · have h0 := hend.2 hs
              rw [h0, HPX.out] at hT
              obtain ⟨s, hss⟩ : ∃ s, wsum ns m = s := ⟨_, rfl⟩
              have HS := Lib.hid hss
              rw [hss] at hs
              have hsb : (s == 0) = false := by simpa using hs
              have HT := Lib.hid hT
              have nq2 := eq33 px py
              clear hT h0 hend hs hss
              go_wp2_with (first
                | (go_at_call 31; go_must (refine (refSum_is A c ns m hg wr P.e.hN s HS.out).mono ?_; rintro e w8 ⟨rfl, hb8⟩; have P8 := P.next hb8; have hT8 := HT.out.below hb8 HT.out.lt; have u1 := hT8.c0; have u2 := hT8.c1; have u3 := P8.t.c0; have u4 := P8.t.c1))
                | (go_at_call 17; go_must (refine (works_any w8).mono ?_; rintro e w9 ⟨rfl, hb9⟩; have P9 := P8.next hb9)))
              go_ret
              exact ⟨rfl, P9.e.hb⟩
end Go.Proofs.Ytohoonbbjkefaaa
