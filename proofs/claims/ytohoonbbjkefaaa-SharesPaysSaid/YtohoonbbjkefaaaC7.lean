import Derived.Test.YtohoonbbjkefaaaC5
import Derived.Test.YtohoonbbjkefaaaM7
namespace Go.Proofs.Ytohoonbbjkefaaa
open Go.RowKit

theorem within2_is (n lo hi : Int) (w : World) (b : Bool) (hb : inR n lo hi = b) : Calls Try.prog 71 #[.int .i64 n, .int .i64 lo, .int .i64 hi] w fun e w' => e = .returned (.bool b) ∧ w = w' := by
  rw [← hb]; exact refWithin2_any n lo hi w
set_option maxRecDepth 100000 in
set_option maxHeartbeats 4000000 in
theorem refCheck_any (A : Option Addr) (c : Nat) (ns : List Node) (hn : ns.length ≤ 1000) (w : World) (hN : Nodes w w.heap.size A ns) : Calls Try.prog 47 #[.agg #[.slice A ns.length c]] w fun e w' => e = .returned (.int .i64 (ckE ns)) ∧ Below w.heap.size w w' := by
  have bC := Boxed.new w 24 (.slice A ns.length c)
  by_cases hl : inR ns.length 1 8 = true
  · have HL := Lib.hid hl
    have HN := Lib.hid hN
    clear hl hN
    go_enter Try.func47, Try.ntmps47
    go_wp2_with (go_at_call 71; refine (within2_is _ _ _ _ _ HL.out).mono ?_; rintro e w' ⟨rfl, rfl⟩)
    go_loopw [3, 4] (fun i _ wr => ∃ k : Nat, k ≤ ns.length ∧ i = .int .i64 k ∧ (∀ j x, j < k → ns[j]? = some x → nodeOK j x = true) ∧ Below (w.heap.size + 1) (w.alloc (.cells #[.slice A ns.length c] 24)) wr) (fun i _ _ => ns.length - (intOf i).toNat)
    case atStart => exact ⟨0, Nat.zero_le _, rfl, fun j x hj => by omega, Below.refl _ _⟩
    case round =>
      obtain ⟨k, hk, rfl, hok, hb⟩ := hrel
      have hwr : w.heap.size + 1 ≤ wr.heap.size := by have := hb.size; simp at this; omega
      have m1 : wr.cell? ⟨w.heap.size, 0, none⟩ = some (.slice A ns.length c) := (hb.cell (p := ⟨w.heap.size, 0, none⟩) (by simp)).trans bC.cell
      have hB0 : Below w.heap.size w wr := ((Below.refl _ w).alloc (Nat.le_refl _) _).trans (hb.mono (by omega))
      by_cases hlt : k < ns.length
      · obtain ⟨x, hx⟩ : ∃ x, ns[k]? = some x := ⟨_, List.getElem?_eq_getElem hlt⟩
        obtain ⟨b, off, rfl, hbb, c1, c2, c3⟩ := HN.out.at_ hx
        have d1 := below_cell hB0 c1
        have d2 := below_cell hB0 c2
        have d3 := below_cell hB0 c3
        have HX := Lib.hid hx
        have HO := Lib.hid hok
        clear hx hok c1 c2 c3
        cases hup : upOK k x <;> cases hw : inR x.w 0 9 <;> cases hf : inR x.f 0 20
        all_goals
          have HUP := Lib.hid hup
          clear hup
          by_cases hk0 : k = 0
          · have hk1 : k ≤ 0 := by omega
            have hkb : ((k : Int) == 0) = true := by simpa using hk0
            have hub : (x.u == -1) = upOK k x := by rw [upOK, if_pos hk0, Bool.eq_iff_iff]; simp
            have hub2 : (x.u != -1) = !upOK k x := by rw [← hub]; rfl
            rw [HUP.out] at hub hub2
            dsimp only [Bool.not] at hub2
            clear hub
            clear hk0
            have hno : Hid (nodeOK k x = _) := Lib.hid (show nodeOK k x = _ from by rw [nodeOK, HUP.out, hw, hf])
            go_wp2_with (go_at_call 71; refine (refWithin2_any _ _ _ _).mono ?_; rintro e w' ⟨rfl, rfl⟩)
            first
              | (go_ret; exact ⟨by rw [ckE_no (validB_bad HX.out hno.out)]; rfl, hB0.alloc (by omega) _⟩)
              | (go_roundw
                 case rel => exact ⟨k + 1, by omega, by go_num, okStep HO.out HX.out hno.out, hb.alloc hwr _⟩
                 case measure => simp [intOf]; omega)
          · have hk1 : 0 < k := by omega
            have hkb : ((k : Int) == 0) = false := by simpa using hk0
            have hub : inR x.u 0 (k - 1) = upOK k x := by rw [upOK, if_neg hk0]
            rw [HUP.out] at hub
            clear hk0
            have hno : Hid (nodeOK k x = _) := Lib.hid (show nodeOK k x = _ from by rw [nodeOK, HUP.out, hw, hf])
            go_wp2_with (go_at_call 71; refine (refWithin2_any _ _ _ _).mono ?_; rintro e w' ⟨rfl, rfl⟩)
            first
              | (go_ret; exact ⟨by rw [ckE_no (validB_bad HX.out hno.out)]; rfl, hB0.alloc (by omega) _⟩)
              | (go_roundw
                 case rel => exact ⟨k + 1, by omega, by go_num, okStep HO.out HX.out hno.out, hb.alloc hwr _⟩
                 case measure => simp [intOf]; omega)
      · obtain rfl : k = ns.length := by omega
        go_wp2
        go_ret
        exact ⟨by rw [ckE_yes (validB_good HL.out (fun i x hx => hok i x (List.getElem?_eq_some_iff.1 hx).1 hx))]; rfl, hB0⟩
  · have hl' : inR ns.length 1 8 = false := by simpa using hl
    have hv : validB ns = false := by simp [validB, hl']
    have HV := Lib.hid hv
    have HL := Lib.hid hl'
    clear hv hl hl'
    go_enter Try.func47, Try.ntmps47
    go_wp2_with (go_at_call 71; refine (within2_is _ _ _ _ _ HL.out).mono ?_; rintro e w' ⟨rfl, rfl⟩)
    go_ret
    exact ⟨by rw [ckE_no HV.out]; rfl, (Below.refl _ _).alloc (Nat.le_refl _) _⟩
end Go.Proofs.Ytohoonbbjkefaaa
namespace Go.Proofs.Ytohoonbbjkefaaa
open Go.RowKit

theorem far_big (A : Option Addr) (n c : Nat) (w : World) (hn : n ≤ 9223372036854775807) (b : Bool) (hb : decide (40 < n) = b) : Calls Try.prog 16 #[.agg #[.slice A n c]] w fun e w' => e = .returned (.bool b) ∧ Below w.heap.size w w' := by
  go_enter Try.func16, Try.ntmps16
  go_wp2
  go_ret
  exact ⟨by rw [← hb]; simp; omega, (Below.refl _ w).alloc (Nat.le_refl _) _⟩
theorem validB_len {ns : List Node} (h : validB ns = true) : ns.length ≤ 8 := by
  simp only [validB, Bool.and_eq_true, inR_true] at h
  omega
set_option maxRecDepth 100000 in
set_option maxHeartbeats 1000000 in
theorem ready_is (A : Option Addr) (c : Nat) (ns : List Node) (hn : ns.length ≤ 9223372036854775807) (w : World) (hN : Nodes w w.heap.size A ns) (v : Bool) (hv : validB ns = v) :
    Calls Try.prog 26 #[.agg #[.slice A ns.length c]] w fun e w' => e = .returned (.bool v) ∧ Below w.heap.size w w' := by
  have bC := Boxed.new w 24 (.slice A ns.length c)
  by_cases h40 : 40 < ns.length
  · have HF := Lib.hid (far_big A ns.length c (w.alloc (.cells #[.slice A ns.length c] 24)) hn true (by simpa using h40))
    have HV := Lib.hid (show v = false from by
      cases v with
      | false => rfl
      | true => have := validB_len hv; omega)
    clear hv
    go_enter Try.func26, Try.ntmps26
    go_wp2_with (go_at_call 16; go_must (refine HF.out.mono ?_; rintro e w1 ⟨rfl, hb1⟩))
    go_ret
    exact ⟨by rw [HV.out]; rfl, ((Below.refl _ w).alloc (Nat.le_refl _) _).trans (hb1.mono (by simp))⟩
  · have HF := Lib.hid (far_big A ns.length c (w.alloc (.cells #[.slice A ns.length c] 24)) hn false (by simpa using h40))
    have hN1 := Nodes.alloc hN (.cells #[.slice A ns.length c] 24)
    have HN1 := Lib.hid hN1
    clear hN hN1
    cases v
    · have hc := ckE_no hv
      have HC := Lib.hid hc
      clear hc hv
      go_enter Try.func26, Try.ntmps26
      go_wp2_with (first
        | (go_at_call 16; go_must (refine HF.out.mono ?_; rintro e w1 ⟨rfl, hb1⟩; have m1 := (boxed_ext hb1 bC).cell))
        | (go_at_call 47; go_must (refine (refCheck_any A c ns (by omega) w1 (Nodes.lt HN1.out hb1)).mono ?_; rintro e w2 ⟨rfl, hb2⟩; rw [HC.out])))
      go_ret
      exact ⟨rfl, ((Below.refl _ w).alloc (Nat.le_refl _) _).trans ((hb1.trans (hb2.mono hb1.size)).mono (by simp))⟩
    · have hc := ckE_yes hv
      have HC := Lib.hid hc
      clear hc hv
      go_enter Try.func26, Try.ntmps26
      go_wp2_with (first
        | (go_at_call 16; go_must (refine HF.out.mono ?_; rintro e w1 ⟨rfl, hb1⟩; have m1 := (boxed_ext hb1 bC).cell))
        | (go_at_call 47; go_must (refine (refCheck_any A c ns (by omega) w1 (Nodes.lt HN1.out hb1)).mono ?_; rintro e w2 ⟨rfl, hb2⟩; rw [HC.out])))
      go_ret
      exact ⟨rfl, ((Below.refl _ w).alloc (Nat.le_refl _) _).trans ((hb1.trans (hb2.mono hb1.size)).mono (by simp))⟩
theorem penceE_of {ns : List Node} (h : validB ns = true) {p : Int} (hp : 0 ≤ p ∧ p ≤ 400) : penceE ns p = 0 := by
  have hi : inR p 0 400 = true := inR_true.2 hp
  rw [penceE, hi, askE, h]
  simp

set_option maxRecDepth 100000 in
set_option maxHeartbeats 4000000 in
theorem penny_law (A : Option Addr) (c : Nat) (ns : List Node) (hn : ns.length ≤ 9223372036854775807) (p : Int) (w : World) (hN : Nodes w w.heap.size A ns) :
    Calls Try.prog 6 #[.agg #[.slice A ns.length c], .int .i64 p] w fun e w' => e = .returned (.bool true) ∧ Below w.heap.size w w' := by
  have bC := Boxed.new w 24 (.slice A ns.length c)
  have HN1 := Lib.hid (Nodes.alloc hN (.cells #[.slice A ns.length c] 24))
  clear hN
  cases hv : validB ns
  · have HR := Lib.hid (ready_is A c ns hn (w.alloc (.cells #[.slice A ns.length c] 24)) HN1.out false hv)
    clear hv
    go_enter Try.func6, Try.ntmps6
    go_wp2_with (first
      | (go_at_call 26; go_must (refine HR.out.mono ?_; rintro e w1 ⟨rfl, hb1⟩))
      | (go_at_call 17; go_must (refine (works_any w1).mono ?_; rintro e w2 ⟨rfl, hb2⟩)))
    go_ret
    exact ⟨rfl, ((Below.refl _ w).alloc (Nat.le_refl _) _).trans ((hb1.trans (hb2.mono hb1.size)).mono (by simp))⟩
  · have HR := Lib.hid (ready_is A c ns hn (w.alloc (.cells #[.slice A ns.length c] 24)) HN1.out true hv)
    cases hi : inR p 0 399
    · have HI := Lib.hid hi
      clear hv hi
      go_enter Try.func6, Try.ntmps6
      go_wp2_with (first
        | (go_at_call 26; go_must (refine HR.out.mono ?_; rintro e w1 ⟨rfl, hb1⟩))
        | (go_at_call 34; go_must (refine (within1_is _ _ _ _ _ HI.out).mono ?_; rintro e w' ⟨rfl, rfl⟩))
        | (go_at_call 17; go_must (refine (works_any w1).mono ?_; rintro e w2 ⟨rfl, hb2⟩)))
      go_ret
      exact ⟨rfl, ((Below.refl _ w).alloc (Nat.le_refl _) _).trans ((hb1.trans (hb2.mono hb1.size)).mono (by simp))⟩
    · have hp := inR_true.1 hi
      have hg := good_of hv
      have hn8 := validB_len hv
      have Z1 := Lib.hid (penceE_of hv (p := p) (by omega))
      have Z2 := Lib.hid (penceE_of hv (p := p + 1) (by omega))
      have HI := Lib.hid hi
      clear hv hi
      go_enter Try.func6, Try.ntmps6
      go_wp2_with (first
        | (go_at_call 26; go_must (refine HR.out.mono ?_; rintro e w1 ⟨rfl, hb1⟩; have bC1 := boxed_ext hb1 bC; have m1 := bC1.cell; have hN2 := Nodes.lt HN1.out hb1))
        | (go_at_call 34; go_must (refine (within1_is _ _ _ _ _ HI.out).mono ?_; rintro e w' ⟨rfl, rfl⟩))
        | (go_at_call 35; refine (lawGets_ok A c ns (p + 1) (by omega) w2 (Nodes.lt hN2 hb2) Z2.out).mono ?_; rintro e w3 ⟨k2, rfl, hr2, hb3⟩)
        | (go_at_call 35; go_must (refine (lawGets_ok A c ns p (by omega) w1 hN2 Z1.out).mono ?_; rintro e w2 ⟨k1, rfl, hr1, hb2⟩; have m2 := (boxed_ext hb2 bC1).cell)))
      have R1 := Lib.hid (Row.below hr1 hb3 (Row.lt hr1))
      have R2 := Lib.hid hr2
      have hb4 : Below w.heap.size w w3 := ((Below.refl _ w).alloc (Nat.le_refl _) _).trans ((hb0to hb1 (hb0to hb2 hb3)).mono (by simp))
      clear hr1 hr2
      go_loopw [9] (fun i wr => ∃ k : Nat, k ≤ ns.length ∧ i = .int .i64 k ∧ Below w3.heap.size w3 wr) (fun i _ => ns.length - (intOf i).toNat)
      case atStart => exact ⟨0, Nat.zero_le _, rfl, Below.refl _ _⟩
      case round =>
        obtain ⟨k, hk, rfl, hb⟩ := hrel
        by_cases hlt : k < ns.length
        · have e1 := Row.cell (Row.below R1.out hb (Row.lt R1.out)) (k := k) (by rw [gotsS_len]; exact hlt)
          have e2 := Row.cell (Row.below R2.out hb (Row.lt R2.out)) (k := k) (by rw [gotsS_len]; exact hlt)
          rw [gotsS_at hlt] at e1 e2
          have f1 := extB_cell e1
          have f2 := extB_cell e2
          have hbd := gotS_bd hg hp.1 k hlt
          have hbd2 := gotS_bd hg (show 0 ≤ p + 1 by omega) k hlt
          obtain ⟨n1, n2⟩ := gotS_near hg hp.1 k hlt
          have d1 : decide (gotS ns p k + 1 < gotS ns (p + 1) k) = false := decide_eq_false (by omega)
          have d2 : decide (gotS ns (p + 1) k < gotS ns p k - 1) = false := decide_eq_false (by omega)
          clear n1 n2
          go_wp2
          refine wp_region_ext (by kernel_rfl) (by kernel_rfl) ?_
          repeat (go_big_quiet_step (fail))
          refine wpQuiet_nil ?_
          rintro _ ⟨x1, rfl⟩
          have hb5 := hb.trans ((extB_below wr x1).mono hb.size)
          go_wp2
          go_roundw
          case rel => exact ⟨k + 1, by omega, by go_num, hb5⟩
          case measure => simp [intOf]; omega
        · obtain rfl : k = ns.length := by omega
          go_wp2_with (go_at_call 17; go_must (refine (works_any wr).mono ?_; rintro e w5 ⟨rfl, hb5⟩))
          go_ret
          exact ⟨rfl, hb0to (hb0to hb4 hb) hb5⟩
end Go.Proofs.Ytohoonbbjkefaaa
namespace Go.Proofs.Ytohoonbbjkefaaa
open Go.RowKit

theorem firstE_cases (p : Nat → Bool) : ∀ n, (∃ k, k < n ∧ p k = true ∧ (∀ j, j < k → p j = false) ∧ firstE p n = ((k : Int), 0)) ∨ ((∀ j, j < n → p j = false) ∧ firstE p n = (0, 3))
  | 0 => .inr ⟨fun j hj => by omega, rfl⟩
  | n + 1 => by
    rcases firstE_cases p n with ⟨k, h1, h2, h3, _⟩ | ⟨h1, _⟩
    · exact .inl ⟨k, by omega, h2, h3, firstE_hit (by omega) h3 h2⟩
    · cases hp : p n
      · have h2 : ∀ j, j < n + 1 → p j = false := fun j hj => by
          by_cases e : j = n
          · rw [e]; exact hp
          · exact h1 j (by omega)
        exact .inr ⟨h2, firstE_none h2⟩
      · exact .inl ⟨n, by omega, hp, h1, firstE_hit (by omega) h1 hp⟩
theorem gotS_start {ns : List Node} (h : GoodC ns) {n : Nat} (hn : n < ns.length) : gotS ns 0 n = 0 := by
  have := gotS_bd h (show (0 : Int) ≤ 0 by omega) n hn
  omega
/-- Where a node first gets enough it gets just so many. -/
theorem reach_eq {ns : List Node} (h : GoodC ns) {n : Nat} (hn : n < ns.length) {coins : Int} (h0 : 0 ≤ coins) {k : Nat} (hk : decide (coins ≤ gotS ns k n) = true) (hj : ∀ j, j < k → decide (coins ≤ gotS ns j n) = false) : gotS ns k n = coins := by
  have hk' : coins ≤ gotS ns k n := of_decide_eq_true hk
  cases k with
  | zero =>
    have := gotS_start h hn
    have h2 : coins ≤ gotS ns 0 n := hk'
    show gotS ns 0 n = coins
    omega
  | succ j =>
    have h1 := of_decide_eq_false (hj j (by omega))
    have h2 := (gotS_near h (show (0 : Int) ≤ j by omega) n hn).2
    have e : ((j + 1 : Nat) : Int) = (j : Int) + 1 := by omega
    rw [e] at hk' ⊢
    omega

/-- The law's own memory: the custom's box; the custom; whatever lay there before. -/
structure Env (w : World) (A : Option Addr) (c : Nat) (ns : List Node) (W : World) : Prop where
  bC : Boxed W w.heap.size 24 (.slice A ns.length c)
  hN : Nodes W W.heap.size A ns
  hb : Below w.heap.size w W
theorem Env.next {w : World} {A : Option Addr} {c : Nat} {ns : List Node} {W W' : World} (h : Env w A c ns W) (hb : Below W.heap.size W W') : Env w A c ns W' :=
  ⟨boxed_ext hb h.bC, Nodes.lt h.hN hb, hb0to h.hb hb⟩
theorem Env.new {w : World} {A : Option Addr} {ns : List Node} (c : Nat) (hN : Nodes w w.heap.size A ns) : Env w A c ns (w.alloc (.cells #[.slice A ns.length c] 24)) :=
  ⟨Boxed.new _ _ _, Nodes.alloc hN _, (Below.refl _ w).alloc (Nat.le_refl _) _⟩
theorem Env.alloc {w : World} {A : Option Addr} {c : Nat} {ns : List Node} {W : World} (h : Env w A c ns W) (o : Obj) : Env w A c ns (W.alloc o) := h.next ((Below.refl _ W).alloc (Nat.le_refl _) o)
/-- With a box of three numbers behind it. -/
structure EnvT (w : World) (A : Option Addr) (c : Nat) (ns : List Node) (t n p : Int) (W : World) : Prop where
  e : Env w A c ns W
  b : W.heap[w.heap.size + 1]? = some (.cells #[.int .i64 t, .int .i64 n, .int .i64 p] 53 (0, 0))
theorem EnvT.next {w : World} {A : Option Addr} {c : Nat} {ns : List Node} {t n p : Int} {W W' : World} (h : EnvT w A c ns t n p W) (hb : Below W.heap.size W W') : EnvT w A c ns t n p W' :=
  ⟨h.e.next hb, (hb.block _ (Array.getElem?_eq_some_iff.1 h.b).1).trans h.b⟩
theorem EnvT.new {w : World} {A : Option Addr} {ns : List Node} (c : Nat) (t n p : Int) (hN : Nodes w w.heap.size A ns) : EnvT w A c ns t n p ((w.alloc (.cells #[.slice A ns.length c] 24)).alloc (.cells #[.int .i64 t, .int .i64 n, .int .i64 p] 53)) := by
  refine ⟨(Env.new c hN).alloc _, ?_⟩
  have := World.alloc_heap_new (w.alloc (.cells #[.slice A ns.length c] 24)) (.cells #[.int .i64 t, .int .i64 n, .int .i64 p] 53)
  simpa only [World.size_alloc] using this
theorem EnvT.c1 {w : World} {A : Option Addr} {c : Nat} {ns : List Node} {t n p : Int} {W : World} (h : EnvT w A c ns t n p W) : W.cell? ⟨w.heap.size + 1, 1, none⟩ = some (.int .i64 n) := by simp [World.cell?, h.b]
theorem EnvT.c2 {w : World} {A : Option Addr} {c : Nat} {ns : List Node} {t n p : Int} {W : World} (h : EnvT w A c ns t n p W) : W.cell? ⟨w.heap.size + 1, 2, none⟩ = some (.int .i64 p) := by simp [World.cell?, h.b]
theorem EnvT.c0 {w : World} {A : Option Addr} {c : Nat} {ns : List Node} {t n p : Int} {W : World} (h : EnvT w A c ns t n p W) : W.cell? ⟨w.heap.size + 1, 0, none⟩ = some (.int .i64 t) := by simp [World.cell?, h.b]

theorem refIsNode_is (A : Option Addr) (n c : Nat) (k : Int) (w : World) (hn : n ≤ 1000) (b : Bool) (hb : inR k 0 (n - 1) = b) : Calls Try.prog 27 #[.agg #[.slice A n c], .int .i64 k] w fun e w' => e = .returned (.bool b) ∧ Below w.heap.size w w' := by
  rw [← hb]; exact refIsNode_any A n c k w hn
theorem from_is (A : Option Addr) (c : Nat) (ns : List Node) (node coins : Int) (hn : ns.length ≤ 1000) (w : World) (hN : Nodes w w.heap.size A ns) (n e : Int) (h : fromS ns node coins = (n, e)) :
    Calls Try.prog 19 #[.agg #[.slice A ns.length c], .int .i64 node, .int .i64 coins] w fun x w' => x = .returned (.tuple #[.int .i64 n, .int .i64 e]) ∧ Below w.heap.size w w' := by
  have := from_any A c ns node coins hn w hN
  rw [h] at this
  exact this
theorem fromS_good {ns : List Node} {m : Nat} {coins : Int} (hv : validB ns = true) (hm : m < ns.length) (hc : inR coins 0 400 = true) : fromS ns m coins = firstE (fun k => decide (coins ≤ gotS ns k m)) 401 := by
  have hi : inR (m : Int) 0 (ns.length - 1) = true := inR_true.2 (by omega)
  have ha : askE ns (inR (m : Int) 0 (ns.length - 1) && inR coins 0 400) [] = 0 := by rw [hi, hc, askE, hv]; simp
  unfold fromS
  rw [if_pos ha]
  rfl

set_option maxRecDepth 100000 in
set_option maxHeartbeats 4000000 in
theorem reach_law (A : Option Addr) (c : Nat) (ns : List Node) (hn : ns.length ≤ 9223372036854775807) (t node p coins : Int) (w : World) (hN : Nodes w w.heap.size A ns) :
    Calls Try.prog 9 #[.agg #[.slice A ns.length c], .agg #[.int .i64 t, .int .i64 node, .int .i64 p], .int .i64 coins] w fun e w' => e = .returned (.bool true) ∧ Below w.heap.size w w' := by
  obtain ⟨W0, hW0⟩ : ∃ W0, (w.alloc (.cells #[.slice A ns.length c] 24)).alloc (.cells #[.int .i64 t, .int .i64 node, .int .i64 p] 53) = W0 := ⟨_, rfl⟩
  have E0 : EnvT w A c ns t node p W0 := by rw [← hW0]; exact EnvT.new c t node p hN
  have q0 := E0.e.bC.cell
  have q1 := E0.c1
  clear hN
  cases hv : validB ns
  · have HR := Lib.hid (ready_is A c ns hn W0 E0.e.hN false hv)
    clear hv
    go_enter Try.func9, Try.ntmps9
    go_wp2_with (first
      | (go_at_call 26; go_must (refine HR.out.mono ?_; rintro e w1 ⟨rfl, hb1⟩; have E1 := E0.next hb1))
      | (go_at_call 17; go_must (refine (works_any w1).mono ?_; rintro e w2 ⟨rfl, hb2⟩; have E2 := E1.next hb2)))
    go_ret
    exact ⟨rfl, E2.e.hb⟩
  · have HR := Lib.hid (ready_is A c ns hn W0 E0.e.hN true hv)
    have hn8 := validB_len hv
    cases hi : inR node 0 (ns.length - 1)
    · have HI := Lib.hid hi
      clear hv hi
      go_enter Try.func9, Try.ntmps9
      go_wp2_with (first
        | (go_at_call 26; go_must (refine HR.out.mono ?_; rintro e w1 ⟨rfl, hb1⟩; have E1 := E0.next hb1; have m0 := E1.e.bC.cell; have m1 := E1.c1))
        | (go_at_call 27; go_must (refine (refIsNode_is A _ c _ w1 (by omega) _ HI.out).mono ?_; rintro e w2 ⟨rfl, hb2⟩; have E2 := E1.next hb2))
        | (go_at_call 17; go_must (refine (works_any w2).mono ?_; rintro e w3 ⟨rfl, hb3⟩; have E3 := E2.next hb3)))
      go_ret
      exact ⟨rfl, E3.e.hb⟩
    · have HI := Lib.hid hi
      cases hc : inR coins 0 400
      · clear hv hi
        go_enter Try.func9, Try.ntmps9
        go_wp2_with (first
          | (go_at_call 26; go_must (refine HR.out.mono ?_; rintro e w1 ⟨rfl, hb1⟩; have E1 := E0.next hb1; have m0 := E1.e.bC.cell; have m1 := E1.c1))
          | (go_at_call 27; go_must (refine (refIsNode_is A _ c _ w1 (by omega) _ HI.out).mono ?_; rintro e w2 ⟨rfl, hb2⟩; have E2 := E1.next hb2))
          | (go_at_call 32; go_must (refine (refIsPence_any _ _).mono ?_; rintro e w' ⟨rfl, rfl⟩))
          | (go_at_call 17; go_must (refine (works_any w2).mono ?_; rintro e w3 ⟨rfl, hb3⟩; have E3 := E2.next hb3)))
        go_ret
        exact ⟨rfl, E3.e.hb⟩
      · have hg := good_of hv
        have hic := inR_true.1 hi
        have hcc := inR_true.1 hc
        obtain ⟨m, rfl⟩ : ∃ m : Nat, node = m := ⟨node.toNat, by omega⟩
        have hm : m < ns.length := by omega
        have hf := fromS_good hv hm hc
        cases hp : inR p 0 400
        · rcases firstE_cases (fun k => decide (coins ≤ gotS ns k m)) 401 with ⟨k, hk, hk1, hk2, hk3⟩ | ⟨hk1, hk3⟩
          · have HF := Lib.hid (hf.trans hk3)
            have HQ := Lib.hid (reach_eq hg hm hcc.1 hk1 hk2)
            have HZ := Lib.hid (penceE_of hv (p := k) (by omega))
            have hkp : inR (k : Int) 0 400 = true := inR_true.2 (by omega)
            clear hv hi hf hk1 hk2 hk3
            go_enter Try.func9, Try.ntmps9
            go_wp2_with (first
              | (go_at_call 26; go_must (refine HR.out.mono ?_; rintro e w1 ⟨rfl, hb1⟩; have E1 := E0.next hb1; have m0 := E1.e.bC.cell; have m1 := E1.c1))
              | (go_at_call 27; go_must (refine (refIsNode_is A _ c _ w1 (by omega) _ HI.out).mono ?_; rintro e w2 ⟨rfl, hb2⟩; have E2 := E1.next hb2; have n0 := E2.e.bC.cell; have n1 := E2.c1))
              | (go_at_call 32; go_must (refine (refIsPence_any _ _).mono ?_; rintro e w' ⟨rfl, rfl⟩))
              | (go_at_call 19; go_must (refine (from_is A c ns m coins (by omega) w2 E2.e.hN _ _ HF.out).mono ?_; rintro e w3 ⟨rfl, hb3⟩; have E3 := E2.next hb3; have o0 := E3.e.bC.cell))
              | (go_at_call 35; go_must (refine (lawGets_ok A c ns k (by omega) w3 E3.e.hN HZ.out).mono ?_; rintro e w4 ⟨g, rfl, hr, hb4⟩; have E4 := E3.next hb4; have p1 := E4.c1; have p2 := E4.c2; have r1 := Row.cell hr (k := m) (by rw [gotsS_len]; exact hm); rw [gotsS_at hm, HQ.out] at r1; clear hr))
              | (go_at_call 17; go_must (refine (works_any w4).mono ?_; rintro e w5 ⟨rfl, hb5⟩; have E5 := E4.next hb5)))
            go_ret
            exact ⟨rfl, E5.e.hb⟩
          · have HF := Lib.hid (hf.trans hk3)
            clear hv hi hf hk1 hk3
            go_enter Try.func9, Try.ntmps9
            go_wp2_with (first
              | (go_at_call 26; go_must (refine HR.out.mono ?_; rintro e w1 ⟨rfl, hb1⟩; have E1 := E0.next hb1; have m0 := E1.e.bC.cell; have m1 := E1.c1))
              | (go_at_call 27; go_must (refine (refIsNode_is A _ c _ w1 (by omega) _ HI.out).mono ?_; rintro e w2 ⟨rfl, hb2⟩; have E2 := E1.next hb2; have n0 := E2.e.bC.cell; have n1 := E2.c1))
              | (go_at_call 32; go_must (refine (refIsPence_any _ _).mono ?_; rintro e w' ⟨rfl, rfl⟩))
              | (go_at_call 19; go_must (refine (from_is A c ns m coins (by omega) w2 E2.e.hN _ _ HF.out).mono ?_; rintro e w3 ⟨rfl, hb3⟩; have E3 := E2.next hb3; have o2 := E3.c2))
              | (go_at_call 17; go_must (refine (works_any w3).mono ?_; rintro e w5 ⟨rfl, hb5⟩; have E5 := E3.next hb5)))
            go_ret
            exact ⟨rfl, E5.e.hb⟩
        · have hpp := inR_true.1 hp
          obtain ⟨pn, rfl⟩ : ∃ pn : Nat, p = pn := ⟨p.toNat, by omega⟩
          have HZ2 := Lib.hid (penceE_of hv (p := pn) hpp)
          rcases firstE_cases (fun k => decide (coins ≤ gotS ns k m)) 401 with ⟨k, hk, hk1, hk2, hk3⟩ | ⟨hk1, hk3⟩
          · have HF := Lib.hid (hf.trans hk3)
            have HQ := Lib.hid (reach_eq hg hm hcc.1 hk1 hk2)
            have HZ := Lib.hid (penceE_of hv (p := k) (by omega))
            have hkp : inR (k : Int) 0 400 = true := inR_true.2 (by omega)
            by_cases hge : k ≤ pn
            · clear hv hi hf hk1 hk2 hk3
              go_enter Try.func9, Try.ntmps9
              go_wp2_with (first
                | (go_at_call 26; go_must (refine HR.out.mono ?_; rintro e w1 ⟨rfl, hb1⟩; have E1 := E0.next hb1; have m0 := E1.e.bC.cell; have m1 := E1.c1))
                | (go_at_call 27; go_must (refine (refIsNode_is A _ c _ w1 (by omega) _ HI.out).mono ?_; rintro e w2 ⟨rfl, hb2⟩; have E2 := E1.next hb2; have n0 := E2.e.bC.cell; have n1 := E2.c1))
                | (go_at_call 32; go_must (refine (refIsPence_any _ _).mono ?_; rintro e w' ⟨rfl, rfl⟩))
                | (go_at_call 19; go_must (refine (from_is A c ns m coins (by omega) w2 E2.e.hN _ _ HF.out).mono ?_; rintro e w3 ⟨rfl, hb3⟩; have E3 := E2.next hb3; have o0 := E3.e.bC.cell))
                | (go_at_call 35; go_must (refine (lawGets_ok A c ns k (by omega) w3 E3.e.hN HZ.out).mono ?_; rintro e w4 ⟨g, rfl, hr, hb4⟩; have E4 := E3.next hb4; have p1 := E4.c1; have p2 := E4.c2; have r1 := Row.cell hr (k := m) (by rw [gotsS_len]; exact hm); rw [gotsS_at hm, HQ.out] at r1; clear hr))
                | (go_at_call 17; go_must (refine (works_any w4).mono ?_; rintro e w5 ⟨rfl, hb5⟩; have E5 := E4.next hb5)))
              go_ret
              exact ⟨rfl, E5.e.hb⟩
            · have hlt : gotS ns pn m < coins := by have := of_decide_eq_false (hk2 pn (by omega)); omega
              clear hv hi hf hk1 hk2 hk3
              go_enter Try.func9, Try.ntmps9
              go_wp2_with (first
                | (go_at_call 26; go_must (refine HR.out.mono ?_; rintro e w1 ⟨rfl, hb1⟩; have E1 := E0.next hb1; have m0 := E1.e.bC.cell; have m1 := E1.c1))
                | (go_at_call 27; go_must (refine (refIsNode_is A _ c _ w1 (by omega) _ HI.out).mono ?_; rintro e w2 ⟨rfl, hb2⟩; have E2 := E1.next hb2; have n0 := E2.e.bC.cell; have n1 := E2.c1))
                | (go_at_call 32; go_must (refine (refIsPence_any _ _).mono ?_; rintro e w' ⟨rfl, rfl⟩))
                | (go_at_call 19; go_must (refine (from_is A c ns m coins (by omega) w2 E2.e.hN _ _ HF.out).mono ?_; rintro e w3 ⟨rfl, hb3⟩; have E3 := E2.next hb3; have o0 := E3.e.bC.cell))
                | (go_at_call 35; refine (lawGets_ok A c ns pn (by omega) w4 E4.e.hN HZ2.out).mono ?_; rintro e w6 ⟨g2, rfl, hr2, hb6⟩; have E6 := E4.next hb6; have s1 := E6.c1; have r2 := Row.cell hr2 (k := m) (by rw [gotsS_len]; exact hm); rw [gotsS_at hm] at r2; clear hr2)
                | (go_at_call 35; go_must (refine (lawGets_ok A c ns k (by omega) w3 E3.e.hN HZ.out).mono ?_; rintro e w4 ⟨g, rfl, hr, hb4⟩; have E4 := E3.next hb4; have p0 := E4.e.bC.cell; have p1 := E4.c1; have p2 := E4.c2; have r1 := Row.cell hr (k := m) (by rw [gotsS_len]; exact hm); rw [gotsS_at hm, HQ.out] at r1; clear hr))
                | (go_at_call 17; go_must (refine (works_any w6).mono ?_; rintro e w5 ⟨rfl, hb5⟩; have E5 := E6.next hb5)))
              go_ret
              exact ⟨rfl, E5.e.hb⟩
          · have HF := Lib.hid (hf.trans hk3)
            have hlt : gotS ns pn m < coins := by have := of_decide_eq_false (hk1 pn (by omega)); omega
            clear hv hi hf hk1 hk3
            go_enter Try.func9, Try.ntmps9
            go_wp2_with (first
              | (go_at_call 26; go_must (refine HR.out.mono ?_; rintro e w1 ⟨rfl, hb1⟩; have E1 := E0.next hb1; have m0 := E1.e.bC.cell; have m1 := E1.c1))
              | (go_at_call 27; go_must (refine (refIsNode_is A _ c _ w1 (by omega) _ HI.out).mono ?_; rintro e w2 ⟨rfl, hb2⟩; have E2 := E1.next hb2; have n0 := E2.e.bC.cell; have n1 := E2.c1))
              | (go_at_call 32; go_must (refine (refIsPence_any _ _).mono ?_; rintro e w' ⟨rfl, rfl⟩))
              | (go_at_call 19; go_must (refine (from_is A c ns m coins (by omega) w2 E2.e.hN _ _ HF.out).mono ?_; rintro e w3 ⟨rfl, hb3⟩; have E3 := E2.next hb3; have o0 := E3.e.bC.cell; have o2 := E3.c2))
              | (go_at_call 35; go_must (refine (lawGets_ok A c ns pn (by omega) w3 E3.e.hN HZ2.out).mono ?_; rintro e w6 ⟨g2, rfl, hr2, hb6⟩; have E6 := E3.next hb6; have s1 := E6.c1; have r2 := Row.cell hr2 (k := m) (by rw [gotsS_len]; exact hm); rw [gotsS_at hm] at r2; clear hr2))
              | (go_at_call 17; go_must (refine (works_any w6).mono ?_; rintro e w5 ⟨rfl, hb5⟩; have E5 := E6.next hb5)))
            go_ret
            exact ⟨rfl, E5.e.hb⟩
end Go.Proofs.Ytohoonbbjkefaaa
