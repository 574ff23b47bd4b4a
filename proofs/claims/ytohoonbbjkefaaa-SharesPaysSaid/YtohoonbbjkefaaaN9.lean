import Derived.Test.YtohoonbbjkefaaaN6
import Derived.Test.YtohoonbbjkefaaaF8
import Derived.Test.YtohoonbbjkefaaaB12
namespace Go.Proofs.Ytohoonbbjkefaaa
open Go.RowKit

/-- A node is stored whole. -/
def putN (W : World) (b o : Nat) (y : Node) : World := ((W.setCell ⟨b, o, none⟩ (.int .i64 y.u)).setCell ⟨b, o + 1, none⟩ (.int .i64 y.w)).setCell ⟨b, o + 2, none⟩ (.int .i64 y.f)
theorem putN_other (W : World) (b o : Nat) (y : Node) {p : Addr} (h : p.block ≠ b ∨ p.spot = none ∧ (p.off < o ∨ o + 2 < p.off)) : (putN W b o y).cell? p = W.cell? p := by
  have hne : ∀ j, o ≤ j → j ≤ o + 2 → (⟨b, j, none⟩ : Addr) ≠ p := fun j h1 h2 e => by
    subst e
    rcases h with h | ⟨_, h⟩
    · exact h rfl
    · simp only at h; omega
  unfold putN
  rw [World.cell?_setCell_other _ _ _ _ (hne (o + 2) (by omega) (by omega)), World.cell?_setCell_other _ _ _ _ (hne (o + 1) (by omega) (by omega)), World.cell?_setCell_other _ _ _ _ (hne o (by omega) (by omega))]
theorem putN_at {W : World} {b o : Nat} {u v f : Value} (y : Node) (c1 : W.cell? ⟨b, o, none⟩ = some u) (c2 : W.cell? ⟨b, o + 1, none⟩ = some v) (c3 : W.cell? ⟨b, o + 2, none⟩ = some f) :
    (putN W b o y).cell? ⟨b, o, none⟩ = some (.int .i64 y.u) ∧ (putN W b o y).cell? ⟨b, o + 1, none⟩ = some (.int .i64 y.w) ∧ (putN W b o y).cell? ⟨b, o + 2, none⟩ = some (.int .i64 y.f) := by
  have ne : ∀ i j : Nat, i ≠ j → (⟨b, i, none⟩ : Addr) ≠ ⟨b, j, none⟩ := fun i j h e => h (by simp at e)
  unfold putN
  refine ⟨?_, ?_, ?_⟩
  · rw [World.cell?_setCell_other _ _ _ _ (ne _ _ (by omega)), World.cell?_setCell_other _ _ _ _ (ne _ _ (by omega))]
    exact World.cell?_setCell_same _ _ _ c1
  · rw [World.cell?_setCell_other _ _ _ _ (ne _ _ (by omega))]
    refine World.cell?_setCell_same _ _ _ (u := v) ?_
    rw [World.cell?_setCell_other _ _ _ _ (ne _ _ (by omega))]
    exact c2
  · refine World.cell?_setCell_same _ _ _ (u := f) ?_
    rw [World.cell?_setCell_other _ _ _ _ (ne _ _ (by omega)), World.cell?_setCell_other _ _ _ _ (ne _ _ (by omega))]
    exact c3
theorem nodes_put {W : World} {B b off : Nat} {ns : List Node} (h : Nodes W B (some ⟨b, off, none⟩) ns) {k : Nat} (hk : k < ns.length) (y : Node) :
    Nodes (putN W b (off + k * 3) y) B (some ⟨b, off, none⟩) (ns.set k y) := by
  rcases h with rfl | ⟨b', off', e, hlt, hc⟩
  · exact .inl rfl
  · cases e
    refine .inr ⟨b, off, rfl, hlt, fun i z hz => ?_⟩
    rw [List.getElem?_set] at hz
    split at hz
    · rename_i e
      subst e
      obtain rfl := Option.some.inj hz
      obtain ⟨c1, c2, c3⟩ := hc k _ (GoodC.at_ hk)
      exact putN_at y c1 c2 c3
    · obtain ⟨c1, c2, c3⟩ := hc i z hz
      have ot : ∀ j, j < off + k * 3 ∨ off + k * 3 + 2 < j → (putN W b (off + k * 3) y).cell? ⟨b, j, none⟩ = W.cell? ⟨b, j, none⟩ := fun j hj => putN_other _ _ _ _ (.inr ⟨rfl, hj⟩)
      rw [ot _ (by omega), ot _ (by omega), ot _ (by omega)]
      exact ⟨c1, c2, c3⟩

theorem putN_block (W : World) (b o : Nat) (y : Node) {k : Nat} (h : k ≠ b) : (putN W b o y).heap[k]? = W.heap[k]? := by
  unfold putN
  rw [Below.heap_setCell _ _ _ _ h, Below.heap_setCell _ _ _ _ h, Below.heap_setCell _ _ _ _ h]
theorem putN_size (W : World) (b o : Nat) (y : Node) : (putN W b o y).heap.size = W.heap.size := by simp [putN]
theorem putN_frozen (W : World) (b o : Nat) (y : Node) (p : Addr) : (putN W b o y).frozen? p = W.frozen? p := by simp [putN]
theorem putN_below {B : Nat} {w W : World} (h : Below B w W) {b : Nat} (hb : B ≤ b) (o : Nat) (y : Node) : Below B w (putN W b o y) :=
  ((h.setCell (p := ⟨b, o, none⟩) hb _).setCell (p := ⟨b, o + 1, none⟩) hb _).setCell (p := ⟨b, o + 2, none⟩) hb _
theorem boxed_put {W : World} {k : Nat} {t : TypeId} {v : Value} (h : Boxed W k t v) {b : Nat} (hk : k ≠ b) (o : Nat) (y : Node) : Boxed (putN W b o y) k t v := (putN_block W b o y hk).trans h
theorem nodes_blk {W : World} {B b off : Nat} {ns : List Node} (h : Nodes W B (some ⟨b, off, none⟩) ns) (h1 : 1 ≤ ns.length) : b < B := by
  rcases h with h | ⟨b', off', e, hlt, _⟩
  · rw [h] at h1; simp at h1
  · cases e; exact hlt
theorem mul_fromS {t : Int} (ht : 0 < t) {ns : List Node} (hv : validB ns = true) (hv2 : validB (ns.map (scaleN t)) = true) {m : Nat} (hm : m < ns.length) {P : Int} (hP : inR P 0 400 = true) : fromS (ns.map (scaleN t)) m P = fromS ns m P := by
  rw [fromS_good hv hm hP, fromS_good hv2 (by rw [List.length_map]; exact hm) hP]
  simp only [mul_gotS ht]
theorem mul_fallsS {t : Int} (ht : 0 < t) {ns : List Node} (hv : validB ns = true) (hv2 : validB (ns.map (scaleN t)) = true) {m : Nat} (hm : m < ns.length) : fallsS (ns.map (scaleN t)) m = fallsS ns m := by
  rw [fallsS_good hv hm, fallsS_good hv2 (by rw [List.length_map]; exact hm)]
  simp only [mul_gotS ht]
theorem sameLen_is (A1 A2 : Option Addr) (c1 c2 : Nat) (l : List Int) (n : Nat) (hn : l.length = n) (hl : n ≤ 1000) (w : World) (h1 : IntsAt w w.heap.size A1 l) (h2 : IntsAt w w.heap.size A2 l) :
    Calls Try.prog 37 #[.slice A1 n c1, .slice A2 n c2] w fun e w' => e = .returned (.bool true) ∧ Below w.heap.size w w' := by
  subst hn; exact sameInts_is A1 A2 c1 c2 l hl w h1 h2
/-- The law's memory: the custom, the numbers, the other custom. -/
structure EnvM (w : World) (A : Option Addr) (c : Nat) (ns : List Node) (t n p : Int) (tb : Nat) (A' : Option Addr) (N c' : Nat) (ms : List Node) (W : World) : Prop where
  e : EnvT w A c ns t n p W
  b : Boxed W tb 24 (.slice A' N c')
  hN : Nodes W W.heap.size A' ms
theorem EnvM.next {w : World} {A : Option Addr} {c : Nat} {ns : List Node} {t n p : Int} {tb : Nat} {A' : Option Addr} {N c' : Nat} {ms : List Node} {W W' : World} (h : EnvM w A c ns t n p tb A' N c' ms W) (hb : Below W.heap.size W W') : EnvM w A c ns t n p tb A' N c' ms W' :=
  ⟨h.e.next hb, boxed_ext hb h.b, Nodes.lt h.hN hb⟩
theorem EnvM.alloc {w : World} {A : Option Addr} {c : Nat} {ns : List Node} {t n p : Int} {tb : Nat} {A' : Option Addr} {N c' : Nat} {ms : List Node} {W : World} (h : EnvM w A c ns t n p tb A' N c' ms W) (o : Obj) : EnvM w A c ns t n p tb A' N c' ms (W.alloc o) := h.next ((Below.refl _ W).alloc (Nat.le_refl _) o)

set_option maxRecDepth 100000 in
set_option maxHeartbeats 4000000 in
theorem times_law (A : Option Addr) (c : Nat) (ns : List Node) (hA : A = none → c = 0 ∧ ns = []) (hn : ns.length ≤ 9223372036854775807) (t node P : Int) (w : World) (hN : Nodes w w.heap.size A ns) :
    Calls Try.prog 8 #[.agg #[.slice A ns.length c], .agg #[.int .i64 t, .int .i64 node, .int .i64 P]] w fun e w' => e = .returned (.bool true) ∧ Below w.heap.size w w' := by
  obtain ⟨W0, hW0⟩ : ∃ W0, (w.alloc (.cells #[.slice A ns.length c] 24)).alloc (.cells #[.int .i64 t, .int .i64 node, .int .i64 P] 53) = W0 := ⟨_, rfl⟩
  have E0 : EnvT w A c ns t node P W0 := by rw [← hW0]; exact EnvT.new c t node P hN
  have q0 := E0.e.bC.cell
  clear hN
  cases hv : validB ns
  · have HR := Lib.hid (ready_is A c ns hn W0 E0.e.hN false hv)
    clear hv
    go_enter Try.func8, Try.ntmps8
    go_wp2_with (first
      | (go_at_call 26; go_must (refine HR.out.mono ?_; rintro e w1 ⟨rfl, hb1⟩; have E1 := E0.next hb1))
      | (go_at_call 17; go_must (refine (works_any w1).mono ?_; rintro e w2 ⟨rfl, hb2⟩; have E2 := E1.next hb2)))
    go_ret
    exact ⟨rfl, E2.e.hb⟩
  · have HR := Lib.hid (ready_is A c ns hn W0 E0.e.hN true hv)
    have hn8 := validB_len hv
    cases ht : inR t 1 9
    · have HT := Lib.hid ht
      clear hv ht
      go_enter Try.func8, Try.ntmps8
      go_wp2_with (first
        | (go_at_call 26; go_must (refine HR.out.mono ?_; rintro e w1 ⟨rfl, hb1⟩; have E1 := E0.next hb1; have m0 := E1.c0))
        | (go_at_call 34; go_must (refine (within1_is _ _ _ _ _ HT.out).mono ?_; rintro e w' ⟨rfl, rfl⟩))
        | (go_at_call 17; go_must (refine (works_any w1).mono ?_; rintro e w2 ⟨rfl, hb2⟩; have E2 := E1.next hb2)))
      go_ret
      exact ⟨rfl, E2.e.hb⟩
    · have HT := Lib.hid ht
      cases hi : inR node 0 (ns.length - 1)
      · have HI := Lib.hid hi
        clear hv hi ht
        go_enter Try.func8, Try.ntmps8
        go_wp2_with (first
          | (go_at_call 26; go_must (refine HR.out.mono ?_; rintro e w1 ⟨rfl, hb1⟩; have E1 := E0.next hb1; have m0 := E1.c0; have m1 := E1.c1; have m3 := E1.e.bC.cell))
          | (go_at_call 34; go_must (refine (within1_is _ _ _ _ _ HT.out).mono ?_; rintro e w' ⟨rfl, rfl⟩))
          | (go_at_call 27; go_must (refine (refIsNode_is A _ c _ w1 (by omega) _ HI.out).mono ?_; rintro e w2 ⟨rfl, hb2⟩; have E2 := E1.next hb2))
          | (go_at_call 17; go_must (refine (works_any w2).mono ?_; rintro e w3 ⟨rfl, hb3⟩; have E3 := E2.next hb3)))
        go_ret
        exact ⟨rfl, E3.e.hb⟩
      · have HI := Lib.hid hi
        cases hp : inR P 0 400
        · have HP := Lib.hid hp
          clear hv hi ht hp
          go_enter Try.func8, Try.ntmps8
          go_wp2_with (first
            | (go_at_call 26; go_must (refine HR.out.mono ?_; rintro e w1 ⟨rfl, hb1⟩; have E1 := E0.next hb1; have m0 := E1.c0; have m1 := E1.c1; have m3 := E1.e.bC.cell))
            | (go_at_call 34; go_must (refine (within1_is _ _ _ _ _ HT.out).mono ?_; rintro e w' ⟨rfl, rfl⟩))
            | (go_at_call 27; go_must (refine (refIsNode_is A _ c _ w1 (by omega) _ HI.out).mono ?_; rintro e w2 ⟨rfl, hb2⟩; have E2 := E1.next hb2; have m4 := E2.c2))
            | (go_at_call 32; go_must (refine (refIsPence_is _ _ _ HP.out).mono ?_; rintro e w' ⟨rfl, rfl⟩))
            | (go_at_call 17; go_must (refine (works_any w2).mono ?_; rintro e w3 ⟨rfl, hb3⟩; have E3 := E2.next hb3)))
          go_ret
          exact ⟨rfl, E3.e.hb⟩
        · have hg := good_of hv
          have htc := inR_true.1 ht
          have hic := inR_true.1 hi
          have hpc := inR_true.1 hp
          have HP := Lib.hid hp
          have HV := Lib.hid hv
          have h1 := hg.l1
          have HAA := Lib.hid hA
          obtain ⟨m, rfl⟩ : ∃ m : Nat, node = m := ⟨node.toNat, by omega⟩
          have hm : m < ns.length := by omega
          clear hv hi ht hp hA
          go_enter Try.func8, Try.ntmps8
          go_wp2_with (first
            | (go_at_call 26; go_must (refine HR.out.mono ?_; rintro e w1 ⟨rfl, hb1⟩; have E1 := E0.next hb1; have m0 := E1.c0; have m1 := E1.c1; have m3 := E1.e.bC.cell))
            | (go_at_call 34; go_must (refine (within1_is _ _ _ _ _ HT.out).mono ?_; rintro e w' ⟨rfl, rfl⟩))
            | (go_at_call 27; go_must (refine (refIsNode_is A _ c _ w1 (by omega) _ HI.out).mono ?_; rintro e w2 ⟨rfl, hb2⟩; have E2 := E1.next hb2; have m4 := E2.c2; have m5 := E2.e.bC.cell))
            | (go_at_call 32; go_must (refine (refIsPence_is _ _ _ HP.out).mono ?_; rintro e w' ⟨rfl, rfl⟩))
            | (go_at_call 18; go_must (refine (copy_is A c ns HAA.out (by omega) w2 E2.e.hN).mono ?_; rintro e w3 ⟨A', c', rfl, hA', hN', hfr, hb3⟩)))
          obtain ⟨b, off, rfl⟩ : ∃ b off, A' = some ⟨b, off, none⟩ := by
            rcases hN' with h | ⟨b, off, h, _⟩
            · rw [h] at h1; simp at h1
            · exact ⟨b, off, h⟩
          obtain ⟨hb2', hfr'⟩ := hfr b off rfl
          have hbl3 := nodes_blk hN' h1
          have B3 := Boxed.new w3 24 (.slice (some ⟨b, off, none⟩) ns.length c')
          have E2H := Lib.hid E2
          have N3 := Lib.hid (Nodes.alloc hN' (.cells #[.slice (some ⟨b, off, none⟩) ns.length c'] 24))
          clear q0 m0 m1 m3 m4 m5 hN' hfr hA' E2 E1
          go_loopw [6] (fun i wr => ∃ k : Nat, k ≤ ns.length ∧ i = .int .i64 k ∧ Below w2.heap.size w2 wr ∧ w3.heap.size < wr.heap.size ∧ Boxed wr w3.heap.size 24 (.slice (some ⟨b, off, none⟩) ns.length c') ∧ Nodes wr wr.heap.size (some ⟨b, off, none⟩) (mulTo t ns k) ∧ (∀ j, wr.frozen? ⟨b, j, none⟩ = false)) (fun i _ => ns.length - (intOf i).toNat)
          case atStart => exact ⟨0, Nat.zero_le _, rfl, hb3.alloc hb3.size _, by simp, B3, by rw [mulTo_zero]; exact N3.out, fun j => ((Below.refl _ w3).alloc (Nat.le_refl _) (.cells #[.slice (some ⟨b, off, none⟩) ns.length c'] 24)).frozen (p := ⟨b, j, none⟩) hbl3 ▸ hfr' j⟩
          case round =>
            obtain ⟨k, hk, rfl, hb, hsz, B4, N4, hfz⟩ := hrel
            by_cases hlt : k < ns.length
            · obtain ⟨x, hx⟩ : ∃ x, nodeAt ns k = x := ⟨_, rfl⟩
              have hxx := mulTo_at (t := t) hlt
              rw [hx] at hxx
              obtain ⟨b', off', e, hbl, c1, c2, c3⟩ := N4.at_ hxx
              cases e
              have E4 := E2H.out.next hb
              have hw9 := hg.ws k x (by rw [← hx]; exact GoodC.at_ hlt)
              have m0 := E4.e.bC.cell
              have m1 := E4.c0
              have m2 := B4.cell
              have hmul : 0 ≤ x.w * t ∧ x.w * t ≤ 81 := by
                have e1 := Int.mul_le_mul hw9.2 htc.2 (by omega) (by omega)
                have e2 := Int.mul_nonneg hw9.1 (show 0 ≤ t by omega)
                omega
              have nb := World.new_ne wr _ c1
              have n0 := World.new_ne wr _ m0
              have n1 := World.new_ne wr _ m1
              have n2 := World.new_ne wr _ m2
              have E4H := Lib.hid E4
              have N4H := Lib.hid N4
              have B4H := Lib.hid B4
              have FZ := Lib.hid hfz
              have hA4 := (Below.refl _ wr).alloc (Nat.le_refl _) (.cells #[.int .i64 x.u, .int .i64 x.w, .int .i64 x.f] 46)
              have m3 := below_cell hA4 m1
              have m4 := below_cell hA4 m2
              have hA5 := (Below.refl _ wr).alloc (Nat.le_refl _) (.cells #[.int .i64 x.u, .int .i64 (x.w * t), .int .i64 x.f] 46)
              have m5 := below_cell hA5 m2
              have d1 := below_cell hA5 c1
              have d2 := below_cell hA5 c2
              have d3 := below_cell hA5 c3
              clear E4 N4 B4 hfz
              have hfz1 := FZ.out
              go_wp2
              have hbe : Below w2.heap.size w2 ((putN wr b (off + k * 3) (scaleN t x)).alloc (.cells #[.int .i64 x.u, .int .i64 (x.w * t), .int .i64 x.f] 46)) := (putN_below hb hb2' _ _).alloc (by rw [putN_size]; exact hb.size) _
              have hsz2 : w3.heap.size < ((putN wr b (off + k * 3) (scaleN t x)).alloc (.cells #[.int .i64 x.u, .int .i64 (x.w * t), .int .i64 x.f] 46)).heap.size := by simp [putN_size]; omega
              have B5 := (boxed_put B4H.out (show w3.heap.size ≠ b by omega) (off + k * 3) (scaleN t x)).alloc (.cells #[.int .i64 x.u, .int .i64 (x.w * t), .int .i64 x.f] 46)
              have N5 := nodes_put N4H.out (k := k) (by rw [mulTo_len]; exact hlt) (scaleN t x)
              rw [← hx, ← mulTo_set hlt, hx] at N5
              have N6 : Nodes ((putN wr b (off + k * 3) (scaleN t x)).alloc (.cells #[.int .i64 x.u, .int .i64 (x.w * t), .int .i64 x.f] 46)) ((putN wr b (off + k * 3) (scaleN t x)).alloc (.cells #[.int .i64 x.u, .int .i64 (x.w * t), .int .i64 x.f] 46)).heap.size (some ⟨b, off, none⟩) (mulTo t ns (k + 1)) := Nodes.alloc (by rw [putN_size]; exact N5) _
              have F6 : ∀ j, ((putN wr b (off + k * 3) (scaleN t x)).alloc (.cells #[.int .i64 x.u, .int .i64 (x.w * t), .int .i64 x.f] 46)).frozen? ⟨b, j, none⟩ = false := fun j => by
                have h1 := ((Below.refl _ (putN wr b (off + k * 3) (scaleN t x))).alloc (Nat.le_refl _) (.cells #[.int .i64 x.u, .int .i64 (x.w * t), .int .i64 x.f] 46)).frozen (p := ⟨b, j, none⟩) (by rw [putN_size]; exact hbl)
                rw [h1, putN_frozen]
                exact FZ.out j
              go_roundw
              case rel => exact ⟨k + 1, by omega, by go_num, hbe, hsz2, B5, N6, F6⟩
              case measure => simp [intOf]; omega
            · obtain rfl : k = ns.length := by omega
              rw [mulTo_all] at N4
              have hl : (ns.map (scaleN t)).length = ns.length := by simp
              have M4 : EnvM w A c ns t m P w3.heap.size (some ⟨b, off, none⟩) ns.length c' (ns.map (scaleN t)) wr := ⟨E2H.out.next hb, B4, N4⟩
              cases hv2 : validB (ns.map (scaleN t))
              · have HR2 := ready_is (some ⟨b, off, none⟩) c' (ns.map (scaleN t)) (by rw [hl]; omega) wr N4 false hv2
                rw [hl] at HR2
                have HR2H := Lib.hid HR2
                have k0 := M4.e.e.bC.cell
                have k1 := M4.b.cell
                clear HR2 hv2 hl N4 B4
                go_wp2_with (first
                  | (go_at_call 26; go_must (refine HR2H.out.mono ?_; rintro e w5 ⟨rfl, hb5⟩; have M5 := M4.next hb5))
                  | (go_at_call 17; go_must (refine (works_any _).mono ?_; rintro e w6 ⟨rfl, hb6⟩; have M6 := M5.next hb6)))
                go_ret
                exact ⟨rfl, M6.e.e.hb⟩
              · obtain ⟨ms, hms⟩ : ∃ ms, ns.map (scaleN t) = ms := ⟨_, rfl⟩
                have ht0 : 0 < t := by omega
                have e1 := mul_fromS ht0 HV.out hv2 hm HP.out
                have e2 := mul_fallsS ht0 HV.out hv2 hm
                have e3 := mul_exactV ht0 hg (good_of hv2) hm
                have e4 := mul_gotsS ht0 ns P
                obtain ⟨n1, r1, h1'⟩ : ∃ n e, fromS ns m P = (n, e) := ⟨_, _, rfl⟩
                obtain ⟨n2, r2, h2'⟩ : ∃ n e, fallsS ns m = (n, e) := ⟨_, _, rfl⟩
                obtain ⟨x3, y3, h3'⟩ : ∃ x y, exactV ns m = (x, y) := ⟨_, _, rfl⟩
                rw [h1'] at e1
                rw [h2'] at e2
                rw [h3'] at e3
                have x1 := exactS_good HV.out hm h3'
                have x2 := exactS_good hv2 (by rw [hl]; exact hm) e3
                have z1 := penceE_of HV.out hpc
                have z2 := penceE_of hv2 hpc
                rw [hms] at M4 N4 hl hv2 e1 e2 e4 x2 z2
                have K26 := ready_is (some ⟨b, off, none⟩) c' ms (by omega) wr N4 true hv2
                have K35 := fun W h => lawGets_ok (some ⟨b, off, none⟩) c' ms P (by omega) W h z2
                have K19 := fun W h => from_is (some ⟨b, off, none⟩) c' ms m P (by omega) W h n1 r1 e1
                have K21 := fun W h => falls_is (some ⟨b, off, none⟩) c' ms m (by omega) W h n2 r2 e2
                have K23 := fun W h => exact_is (some ⟨b, off, none⟩) c' ms m (by omega) W h x3 y3 0 x2
                simp only [hl, e4] at K26 K35 K19 K21 K23
                have K26H := Lib.hid K26
                have K35H := Lib.hid K35
                have K19H := Lib.hid K19
                have K21H := Lib.hid K21
                have K23H := Lib.hid K23
                have H1 := Lib.hid h1'
                have H2 := Lib.hid h2'
                have H3 := Lib.hid x1
                have HZ := Lib.hid z1
                have k0 := M4.e.e.bC.cell
                have k1 := M4.b.cell
                have hq := eq33 x3 y3
                clear K26 K35 K19 K21 K23 h1' h2' h3' e1 e2 e3 e4 x1 x2 z1 z2 hms hl hv2 N4 B4
                go_wp2_with (first
                  | (go_at_call 26; go_must (refine K26H.out.mono ?_; rintro e w5 ⟨rfl, hb5⟩; have M5 := M4.next hb5; have a5 := M5.e.e.bC.cell; have b5 := M5.e.c2))
                  | (go_at_call 35; refine (K35H.out _ M6.hN).mono ?_; rintro e w7 ⟨g2, rfl, i2, hb7⟩; have M7 := M6.next hb7; have a7 := M7.e.e.bC.cell; have b7 := M7.e.c1; have c7 := M7.e.c2; have j1 := ilt (row_ints i1) hb7)
                  | (go_at_call 35; go_must (refine (lawGets_ok A c ns P (by omega) _ M5.e.e.hN HZ.out).mono ?_; rintro e w6 ⟨g1, rfl, i1, hb6⟩; have M6 := M5.next hb6; have a6 := M6.b.cell; have b6 := M6.e.c2))
                  | (go_at_call 19; refine (K19H.out _ M8.hN).mono ?_; rintro e w9 ⟨rfl, hb9⟩; have M9 := M8.next hb9; have a9 := M9.e.e.bC.cell; have b9 := M9.e.c1)
                  | (go_at_call 19; go_must (refine (from_is A c ns m P (by omega) _ M7.e.e.hN _ _ H1.out).mono ?_; rintro e w8 ⟨rfl, hb8⟩; have M8 := M7.next hb8; have a8 := M8.b.cell; have b8 := M8.e.c1; have c8 := M8.e.c2))
                  | (go_at_call 21; refine (K21H.out _ M10.hN).mono ?_; rintro e w11 ⟨rfl, hb11⟩; have M11 := M10.next hb11; have a11 := M11.e.e.bC.cell; have b11 := M11.e.c1)
                  | (go_at_call 21; go_must (refine (falls_is A c ns m (by omega) _ M9.e.e.hN _ _ H2.out).mono ?_; rintro e w10 ⟨rfl, hb10⟩; have M10 := M9.next hb10; have a10 := M10.b.cell; have b10 := M10.e.c1))
                  | (go_at_call 23; refine (K23H.out _ M12.hN).mono ?_; rintro e w13 ⟨rfl, hb13⟩; have M13 := (M12.next hb13).alloc (.cells #[.int .i64 x3, .int .i64 y3] 33); have t13 : Two (w13.alloc (.cells #[.int .i64 x3, .int .i64 y3] 33)) w13.heap.size x3 y3 := World.alloc_heap_new w13 _; have tB := (Below.refl _ w13).alloc (Nat.le_refl _) (.cells #[.int .i64 x3, .int .i64 y3] 33); have t12b := (t12.below hb13 t12.lt).below tB (t12.below hb13 t12.lt).lt; have j3 := ilt (ilt (ilt (ilt (ilt (ilt (ilt j1 hb8) hb9) hb10) hb11) hb12') hb13) tB; have j4 := ilt (ilt (ilt (ilt (ilt (ilt (ilt (row_ints i2) hb8) hb9) hb10) hb11) hb12') hb13) tB)
                  | (go_at_call 23; go_must (refine (exact_is A c ns m (by omega) _ M11.e.e.hN _ _ _ H3.out).mono ?_; rintro e w12 ⟨rfl, hb12⟩; have M12 := (M11.next hb12).alloc (.cells #[.int .i64 x3, .int .i64 y3] 33); have a12 := M12.b.cell; have b12 := M12.e.c1; have t12 : Two (w12.alloc (.cells #[.int .i64 x3, .int .i64 y3] 33)) w12.heap.size x3 y3 := World.alloc_heap_new w12 _; have hb12' : Below w11.heap.size w11 (w12.alloc (.cells #[.int .i64 x3, .int .i64 y3] 33)) := hb12.alloc hb12.size _))
                  | (go_at_call 37; go_must (refine (sameLen_is _ _ _ _ (gotsS ns P) ns.length (gotsS_len ns P) (by omega) _ j3 j4).mono ?_; rintro e w14 ⟨rfl, hb14⟩; have M14 := M13.next hb14; have u1 := t13.below hb14 t13.lt; have u2 := t12b.below hb14 t12b.lt; have v1 := u1.c0; have v2 := u1.c1; have v3 := u2.c0; have v4 := u2.c1))
                  | (go_at_call 17; go_must (refine (works_any _).mono ?_; rintro e w15 ⟨rfl, hb15⟩; have M15 := M14.next hb15)))
                go_ret
                exact ⟨rfl, M15.e.e.hb⟩
end Go.Proofs.Ytohoonbbjkefaaa
