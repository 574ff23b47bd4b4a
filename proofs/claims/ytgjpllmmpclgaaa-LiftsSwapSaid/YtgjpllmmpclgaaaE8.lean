import Derived.Test.YtgjpllmmpclgaaaE5
namespace Go.Proofs.Ytgjpllmmpclgaaa
open Go.RowKit

/-! The reference's lists of numbers: SameInts 43, In 65, Rising 21, Earlier 24. -/
theorem wp_region_extW {P : Program} {id : Nat} {Q : Exit → Act → World → Prop} {a : Act} {w : World} {L : List Oper} (hm : P.follows .mixedOrders = true) (hB : Region.lexB .any L.toArray = true)
    (h : wpQuiet P L.toArray (fun w' => ∃ x, w' = extB w x) (fun a' => ∀ w', (∃ x, w' = extB w x) → Q .normal a' w') L a) : (Code.region id L.toArray true).wp P Q a w := wp_region_ext hm hB h
set_option maxRecDepth 100000 in
set_option maxHeartbeats 1000000 in
theorem sameInts_is (A1 A2 : Option Addr) (c1 c2 : Nat) (l : List Int) (hl : l.length ≤ 1000) (w : World) (h1 : IntsAt w w.heap.size A1 l) (h2 : IntsAt w w.heap.size A2 l) :
    Calls Try.prog 43 #[.slice A1 l.length c1, .slice A2 l.length c2] w fun e w' => e = .returned (.bool true) ∧ Below w.heap.size w w' := by
  have H1 := Lib.hid h1
  have H2 := Lib.hid h2
  clear h1 h2
  go_enter Try.func43, Try.ntmps43
  go_wp2
  go_loopw [5] (fun i wr => ∃ k : Nat, k ≤ l.length ∧ i = .int .i64 k ∧ Below w.heap.size w wr) (fun i _ => l.length - (intOf i).toNat)
  case atStart => exact ⟨0, Nat.zero_le _, rfl, Below.refl _ _⟩
  case round =>
    obtain ⟨k, hk, rfl, hb⟩ := hrel
    by_cases hlt : k < l.length
    · obtain ⟨x, hx⟩ : ∃ x, l[k]? = some x := ⟨_, List.getElem?_eq_getElem hlt⟩
      obtain ⟨b1, o1, rfl, _, d1⟩ := IntsAt.at_ (ints_later H1.out hb) hx
      obtain ⟨b2, o2, rfl, _, d2⟩ := IntsAt.at_ (ints_later H2.out hb) hx
      have e1 := extB_cell d1
      have e2 := extB_cell d2
      clear hx
      go_wp2
      refine wp_region_ext (by kernel_rfl) (by kernel_rfl) ?_
      repeat (go_big_quiet_step (fail))
      refine wpQuiet_nil ?_
      rintro _ ⟨x1, rfl⟩
      have hb1 := hb.trans ((extB_below wr x1).mono hb.size)
      go_wp2
      go_roundw
      case rel => exact ⟨k + 1, by omega, by go_num, hb1⟩
      case measure => simp [intOf]; omega
    · obtain rfl : k = l.length := by omega
      go_wp2
      go_ret
      exact ⟨rfl, hb⟩

set_option maxRecDepth 100000 in
set_option maxHeartbeats 4000000 in
theorem rIn_any (l : List Int) (hl : l.length ≤ 1000) (x : Int) (A : Option Addr) (c : Nat) (w : World) (hI : IntsAt w w.heap.size A l) :
    Calls Try.prog 65 #[.slice A l.length c, .int .i64 x] w fun e w' => e = .returned (.bool (decide (x ∈ l))) ∧ Below w.heap.size w w' := by
  have HI := Lib.hid hI
  clear hI
  go_enter Try.func65, Try.ntmps65
  go_wp2
  go_loopw [5] (fun i wr => ∃ k : Nat, k ≤ l.length ∧ i = .int .i64 k ∧ Hid (∀ j, j < k → l[j]? ≠ some x) ∧ Below w.heap.size w wr) (fun i _ => l.length - (intOf i).toNat)
  case atStart => exact ⟨0, Nat.zero_le _, rfl, Lib.hid (fun j hj => by omega), Below.refl _ _⟩
  case round =>
    obtain ⟨k, hk', rfl, hno, hb⟩ := hrel
    by_cases hlt : k < l.length
    · obtain ⟨y, hy⟩ : ∃ y, l[k]? = some y := ⟨_, List.getElem?_eq_getElem hlt⟩
      obtain ⟨b1, o1, rfl, b1lt, d1⟩ := HI.out.at_ hy
      have e1 := below_cell hb d1
      have hki : (k : Int) < l.length := by omega
      have hk0' : (0 : Int) ≤ (k : Int) := by omega
      have HY := Lib.hid hy
      clear hy d1
      by_cases hxy : y = x
      · subst hxy
        have HE := Lib.hid (show decide (y ∈ l) = true from decide_eq_true (List.mem_of_getElem? HY.out))
        go_wp2
        go_ret
        exact ⟨by rw [HE.out]; rfl, hb⟩
      · have HN := Lib.hid (show ∀ j, j < k + 1 → l[j]? ≠ some x from fun j hj => by
          rcases Nat.lt_succ_iff_lt_or_eq.1 hj with h1 | rfl
          · exact hno.out j h1
          · rw [HY.out]; simpa using hxy)
        have hne : decide (y = x) = false := decide_eq_false hxy
        clear hno
        go_wp2
        go_roundw
        case rel => exact ⟨k + 1, by omega, by go_num, HN, hb⟩
        case measure => simp [intOf]; omega
    · obtain rfl : k = l.length := by omega
      have HE := Lib.hid (show decide (x ∈ l) = false from decide_eq_false fun hm => by
        obtain ⟨j, hj, e⟩ := List.mem_iff_getElem.1 hm
        exact hno.out j hj (by rw [List.getElem?_eq_getElem hj, e]))
      clear hno
      go_wp2
      go_ret
      exact ⟨by rw [HE.out]; rfl, hb⟩
def riseOK (l : List Int) (n : Int) (k : Nat) : Bool := inR (l.getD k 0) 0 (n - 1) && (k == 0 || decide (l.getD (k - 1) 0 < l.getD k 0))
def riseB (l : List Int) (n : Int) : Bool := (List.range l.length).all (riseOK l n)
theorem riseB_no {l : List Int} {n : Int} {k : Nat} (hk : k < l.length) (h : riseOK l n k = false) : riseB l n = false := by
  rw [riseB, List.all_eq_false]; exact ⟨k, List.mem_range.2 hk, by simp [h]⟩
theorem riseB_yes {l : List Int} {n : Int} (h : ∀ k, k < l.length → riseOK l n k = true) : riseB l n = true := by
  rw [riseB, List.all_eq_true]; exact fun k hk => h k (List.mem_range.1 hk)
theorem riseB_at {l : List Int} {n : Int} (h : riseB l n = true) {k : Nat} (hk : k < l.length) : riseOK l n k = true := List.all_eq_true.1 h k (List.mem_range.2 hk)
set_option maxRecDepth 100000 in
set_option maxHeartbeats 4000000 in
theorem rising_any (l : List Int) (hl : l.length ≤ 1000) (n : Int) (A : Option Addr) (c : Nat) (w : World) (hI : IntsAt w w.heap.size A l) :
    Calls Try.prog 21 #[.slice A l.length c, .int .i64 0, .int .i64 (n - 1)] w fun e w' => e = .returned (.bool (riseB l n)) ∧ Below w.heap.size w w' := by
  have HI := Lib.hid hI
  clear hI
  go_enter Try.func21, Try.ntmps21
  go_wp2
  go_loopw [7] (fun i wr => ∃ k : Nat, k ≤ l.length ∧ i = .int .i64 k ∧ Hid (∀ j, j < k → riseOK l n j = true) ∧ Below w.heap.size w wr) (fun i _ => l.length - (intOf i).toNat)
  case atStart => exact ⟨0, Nat.zero_le _, rfl, Lib.hid (fun j hj => by omega), Below.refl _ _⟩
  case round =>
    obtain ⟨k, hk', rfl, hok, hb⟩ := hrel
    have hsz := hb.size
    by_cases hlt : k < l.length
    · obtain ⟨x, hx⟩ : ∃ x, l[k]? = some x := ⟨_, List.getElem?_eq_getElem hlt⟩
      have hgx : l.getD k 0 = x := by simp [List.getD, hx]
      have hI := HI.out
      obtain ⟨b1, o1, rfl, b1lt, d1⟩ := HI.out.at_ hx
      have e1 := extB_cell (below_cell hb d1)
      have hki : (k : Int) < l.length := by omega
      have hk0' : (0 : Int) ≤ (k : Int) := by omega
      cases hr : inR x 0 (n - 1)
      · have hno : Hid (riseOK l n k = false) := Lib.hid (by rw [riseOK, hgx, hr]; rfl)
        clear hx hgx hI d1
        go_wp2
        refine wp_region_extW (by kernel_rfl) (by kernel_rfl) ?_
        repeat (go_big_quiet_step ((go_at_call 28; exact ext_same (within28_any _ _ _ _))))
        refine wpQuiet_nil ?_
        rintro _ ⟨x1, rfl⟩
        have hb3 := hb0to hb (extB_below wr x1)
        clear e1
        go_wp2
        go_ret
        exact ⟨by rw [riseB_no hlt hno.out]; rfl, hb3⟩
      · rcases Nat.eq_zero_or_pos k with rfl | hk0
        · have hyes : Hid (riseOK l n 0 = true) := Lib.hid (by rw [riseOK, hgx, hr]; rfl)
          simp only [Nat.add_zero] at e1
          clear hx hgx hI d1
          go_wp2
          refine wp_region_extW (by kernel_rfl) (by kernel_rfl) ?_
          repeat (go_big_quiet_step ((go_at_call 28; exact ext_same (within28_any _ _ _ _))))
          refine wpQuiet_nil ?_
          rintro _ ⟨x1, rfl⟩
          have hb3 := hb0to hb (extB_below wr x1)
          clear e1
          go_wp2
          go_roundw
          case rel => exact ⟨1, by omega, by go_num, Lib.hid (fun j hj => by obtain rfl : j = 0 := (by omega); exact hyes.out), hb3⟩
          case measure => simp [intOf]; omega
        · obtain ⟨y, hy⟩ : ∃ y, l[k - 1]? = some y := ⟨_, List.getElem?_eq_getElem (by omega)⟩
          have hgy : l.getD (k - 1) 0 = y := by simp [List.getD, hy]
          obtain ⟨b1', o1', e', _, d2⟩ := hI.at_ hy
          cases e'
          have hd0 : decide (0 < k) = true := by simp; omega
          have ht3 : (1 : Int) ≤ (k : Int) := by omega
          have ht2 : (0 : Int) ≤ (k : Int) - 1 := by omega
          have ht4 : (k : Int) - 1 < l.length := by omega
          have ec : IntKind.i64.wrap ((k : Int) - 1) = ((k - 1 : Nat) : Int) := by rw [IntWalk.i64_in _ (by omega)]; omega
          have e2 := extB_cell (below_cell hb d2)
          have hk1 : ((k - 1 : Nat) : Int) < l.length := by omega
          have hk2 : k - 1 < l.length := by omega
          by_cases hxy : x ≤ y
          · have hdx : decide (x ≤ y) = true := by simpa using hxy
            have hno : Hid (riseOK l n k = false) := Lib.hid (by rw [riseOK, hgx, hgy, hr]; simp; omega)
            clear hx hgx hy hgy hI d1 d2
            go_wp2
            refine wp_region_extW (by kernel_rfl) (by kernel_rfl) ?_
            repeat (go_big_quiet_step ((go_at_call 28; exact ext_same (within28_any _ _ _ _))))
            refine wpQuiet_nil ?_
            rintro _ ⟨x1, rfl⟩
            have hb3 := hb0to hb (extB_below wr x1)
            clear e1 e2
            go_wp2
            go_ret
            exact ⟨by rw [riseB_no hlt hno.out]; rfl, hb3⟩
          · have hdx : decide (x ≤ y) = false := by simpa using hxy
            have hyes : Hid (riseOK l n k = true) := Lib.hid (by rw [riseOK, hgx, hgy, hr]; simp; omega)
            clear hx hgx hy hgy hI d1 d2
            go_wp2
            refine wp_region_extW (by kernel_rfl) (by kernel_rfl) ?_
            repeat (go_big_quiet_step ((go_at_call 28; exact ext_same (within28_any _ _ _ _))))
            refine wpQuiet_nil ?_
            rintro _ ⟨x1, rfl⟩
            have hb3 := hb0to hb (extB_below wr x1)
            clear e1 e2
            go_wp2
            go_roundw
            case rel => exact ⟨k + 1, by omega, by go_num, Lib.hid (fun j hj => by by_cases e : j = k; exact e ▸ hyes.out; exact hok.out j (by omega)), hb3⟩
            case measure => simp [intOf]; omega
    · obtain rfl : k = l.length := by omega
      have hrise := riseB_yes hok.out
      have HR := Lib.hid hrise
      clear hrise
      go_wp2
      go_ret
      exact ⟨by rw [HR.out]; rfl, hb⟩
theorem earlier_split {a b : List Int} {k : Nat} (h : a.take k = b.take k) : earlierB a b = earlierB (a.drop k) (b.drop k) := by
  have e := earlier_pre (a.take k) (a := a.drop k) (b := b.drop k)
  rw [List.take_append_drop, h, List.take_append_drop] at e
  exact e
set_option maxRecDepth 100000 in
set_option maxHeartbeats 4000000 in
theorem rEarlier_any (a b : List Int) (A B : Option Addr) (ca cb : Nat) (ha : a.length ≤ 1000) (_ : b.length ≤ 1000) (w : World) (hI : IntsAt w w.heap.size A a) (hJ : IntsAt w w.heap.size B b) :
    Calls Try.prog 24 #[.slice A a.length ca, .slice B b.length cb] w fun e w' => e = .returned (.bool (earlierB a b)) ∧ Below w.heap.size w w' := by
  have HI := Lib.hid hI
  have HJ := Lib.hid hJ
  clear hI hJ
  go_enter Try.func24, Try.ntmps24
  go_wp2_with (fail)
  go_loopw [5] (fun i wr => ∃ k : Nat, k ≤ a.length ∧ i = .int .i64 k ∧ k ≤ b.length ∧ Hid (a.take k = b.take k) ∧ Hid (Below w.heap.size w wr)) (fun i _ => a.length - (intOf i).toNat)
  case atStart => exact ⟨0, Nat.zero_le _, rfl, Nat.zero_le _, Lib.hid rfl, Lib.hid (Below.refl _ _)⟩
  case round =>
    obtain ⟨k, hk, rfl, hkb, hT, hbl⟩ := hrel
    by_cases hlt : k < a.length
    · by_cases hlb : k < b.length
      · obtain ⟨x, hx⟩ : ∃ x, a[k]? = some x := ⟨_, List.getElem?_eq_getElem hlt⟩
        obtain ⟨y, hy⟩ : ∃ y, b[k]? = some y := ⟨_, List.getElem?_eq_getElem hlb⟩
        obtain ⟨bi, oi, eA, blt, d1⟩ := HI.out.at_ hx
        obtain ⟨bj, oj, eB, blt2, d2⟩ := HJ.out.at_ hy
        have e1 := extB_cell (below_cell hbl.out d1)
        have e2 := extB_cell (below_cell hbl.out d2)
        have HX := Lib.hid hx
        have HY := Lib.hid hy
        subst eA eB
        clear hx hy d1 d2
        have hd1 : decide (k < a.length) = true := decide_eq_true hlt
        have hd2 : decide (k < b.length) = true := decide_eq_true hlb
        by_cases hxy : x = y
        · have HT2 := Lib.hid (show a.take (k + 1) = b.take (k + 1) by rw [List.take_add_one, List.take_add_one, HX.out, HY.out, hT.out, hxy])
          have hn : (x != y) = false := by simpa using hxy
          clear hxy
          as_aux_lemma =>
          go_wp2_with (fail)
          refine wp_region_extW (by kernel_rfl) (by kernel_rfl) ?_
          repeat (go_big_quiet_step (fail))
          refine wpQuiet_nil ?_
          rintro _ ⟨x1, rfl⟩
          have hb3 := hb0to hbl.out (extB_below wr x1)
          go_wp2_with (fail)
          go_roundw
          case rel => exact ⟨k + 1, by omega, by go_num, by omega, HT2, Lib.hid hb3⟩
          case measure => simp [intOf]; omega
        · have HQ := Lib.hid (show earlierB a b = decide (x < y) by
            rw [earlier_split hT.out]
            obtain ⟨h1, e1⟩ := List.getElem?_eq_some_iff.1 HX.out
            obtain ⟨h2, e2⟩ := List.getElem?_eq_some_iff.1 HY.out
            rw [List.drop_eq_getElem_cons h1, List.drop_eq_getElem_cons h2, e1, e2, earlierB, if_neg hxy])
          have hn : (x != y) = true := by simpa using hxy
          clear hxy
          as_aux_lemma =>
          go_wp2_with (fail)
          refine wp_region_extW (by kernel_rfl) (by kernel_rfl) ?_
          repeat (go_big_quiet_step (fail))
          refine wpQuiet_nil ?_
          rintro _ ⟨x1, rfl⟩
          have hb3 := hb0to hbl.out (extB_below wr x1)
          have f1 := extB_cell (e1 x1)
          have f2 := extB_cell (e2 x1)
          clear e1 e2
          go_wp2_with (fail)
          refine wp_region_extW (by kernel_rfl) (by kernel_rfl) ?_
          repeat (go_big_quiet_step (fail))
          refine wpQuiet_nil ?_
          rintro _ ⟨x2, rfl⟩
          have hb4 := hb0to hb3 (extB_below _ x2)
          go_wp2_with (fail)
          go_ret
          exact ⟨by rw [HQ.out]; rfl, hb4⟩
      · obtain rfl : k = b.length := by omega
        have hd1 : decide (b.length < a.length) = true := decide_eq_true hlt
        have HQ := Lib.hid (show earlierB a b = false by
          rw [earlier_split hT.out, List.drop_length]
          cases a.drop b.length <;> rfl)
        as_aux_lemma =>
        go_wp2_with (fail)
        go_ret
        exact ⟨by rw [HQ.out]; rfl, hbl.out⟩
    · obtain rfl : k = a.length := by omega
      have HQ := Lib.hid (show earlierB a b = false by
        rw [earlier_split hT.out, List.drop_length]
        rfl)
      as_aux_lemma =>
      go_wp2_with (fail)
      go_ret
      exact ⟨by rw [HQ.out]; rfl, hbl.out⟩
end Go.Proofs.Ytgjpllmmpclgaaa
namespace Go.Proofs.Ytgjpllmmpclgaaa
open Go.RowKit

/-! Same 44, works 17. -/
theorem neq23 (x : Int × Int) (w : World) : (binOp .neq 23 (.agg #[.int .i64 x.1, .int .i64 x.2]) (.agg #[.int .i64 x.1, .int .i64 x.2])).run Try.prog w = .ok (.bool false) w := by
  simp [go_sem]
theorem neq55 (x : Int × Int) (w : World) : (binOp .neq 55 (.agg #[.int .i64 x.1, .int .i64 x.2]) (.agg #[.int .i64 x.1, .int .i64 x.2])).run Try.prog w = .ok (.bool false) w := by
  simp [go_sem]
set_option maxRecDepth 100000 in
set_option maxHeartbeats 4000000 in
theorem same_is (L1 L2 : SL) (s : Sea) (hn : s.ps.length ≤ 1000 ∧ s.bs.length ≤ 1000) (w : World) (h1 : SeaAt w w.heap.size L1 s) (h2 : SeaAt w w.heap.size L2 s) :
    Calls Try.prog 44 #[L1.enc s, L2.enc s] w fun e w' => e = .returned (.bool true) ∧ Below w.heap.size w w' := by
  have hB0 := hb0to (al_below w (.cells #[.int .i64 s.wl, .int .i64 s.wh, .slice L1.Ap s.ps.length L1.cp, .slice L1.Ab s.bs.length L1.cb] 27)) (al_below _ (.cells #[.int .i64 s.wl, .int .i64 s.wh, .slice L2.Ap s.ps.length L2.cp, .slice L2.Ab s.bs.length L2.cb] 27))
  have b1 := (SBox.new w L1 s).of (Below.heap_alloc _ (.cells #[.int .i64 s.wl, .int .i64 s.wh, .slice L2.Ap s.ps.length L2.cp, .slice L2.Ab s.bs.length L2.cb] 27) _ (by simp))
  have b2 : SBox _ (w.heap.size + 1) L2 s := heap_new2 w (.cells #[.int .i64 s.wl, .int .i64 s.wh, .slice L1.Ap s.ps.length L1.cp, .slice L1.Ab s.bs.length L1.cb] 27) (.cells #[.int .i64 s.wl, .int .i64 s.wh, .slice L2.Ap s.ps.length L2.cp, .slice L2.Ab s.bs.length L2.cb] 27)
  obtain ⟨n1, n2⟩ := hn
  obtain ⟨W0, hW0⟩ : ∃ W0, (w.alloc (.cells #[.int .i64 s.wl, .int .i64 s.wh, .slice L1.Ap s.ps.length L1.cp, .slice L1.Ab s.bs.length L1.cb] 27)).alloc (.cells #[.int .i64 s.wl, .int .i64 s.wh, .slice L2.Ap s.ps.length L2.cp, .slice L2.Ab s.bs.length L2.cb] 27) = W0 := ⟨_, rfl⟩
  rw [hW0] at b1 b2 hB0
  have H1 := Lib.hid (h1.below hB0)
  have H2 := Lib.hid (h2.below hB0)
  have B1 := Lib.hid b1
  have B2 := Lib.hid b2
  obtain ⟨c0, c1, c2, c3⟩ := b1.cells
  obtain ⟨d0, d1, d2, d3⟩ := b2.cells
  have HW0 := Lib.hid hW0
  have HB0 := Lib.hid hB0
  have hq0 := fun w => neq23 (s.wl, s.wh) w
  simp only at hq0
  clear h1 h2 b1 b2 hW0 hB0
  obtain ⟨Ap, cp, Ab, cb⟩ := L1
  obtain ⟨Bp, dp, Bb, db⟩ := L2
  go_enter Try.func44, Try.ntmps44
  go_upto_region 1 with (fail)
  have e := HW0.out
  rw [e]
  clear e
  go_wp2_with (fail)
  clear c0 c1 c2 c3 d0 d1 d2 d3
  go_loopw [5] (fun i wr => ∃ k : Nat, k ≤ s.ps.length ∧ i = .int .i64 k ∧ Hid (Below W0.heap.size W0 wr)) (fun i _ => s.ps.length - (intOf i).toNat)
  case atStart => exact ⟨0, Nat.zero_le _, rfl, Lib.hid (Below.refl _ _)⟩
  case round =>
    obtain ⟨k, hk, rfl, hb⟩ := hrel
    obtain ⟨m0, m1, m2, m3⟩ := (B1.out.of (hb.out.block _ B1.out.lt)).cells
    obtain ⟨n0, n1, n2, n3⟩ := (B2.out.of (hb.out.block _ B2.out.lt)).cells
    by_cases hlt : k < s.ps.length
    · obtain ⟨x, hx⟩ : ∃ x, s.ps[k]? = some x := ⟨_, List.getElem?_eq_getElem hlt⟩
      obtain ⟨b1, o1, e1, l1, p1, p2⟩ := H1.out.p.at_ hx
      obtain ⟨b2, o2, e2, l2, q1, q2⟩ := H2.out.p.at_ hx
      simp only at e1 e2
      have g1 := extB_cell m2
      have g2 := extB_cell n2
      have f1 := extB_cell (below_cell hb.out p1)
      have f2 := extB_cell (below_cell hb.out p2)
      have f3 := extB_cell (below_cell hb.out q1)
      have f4 := extB_cell (below_cell hb.out q2)
      have hq := neq23 x
      clear hx p1 p2 q1 q2
      subst e1 e2
      as_aux_lemma =>
      go_wp2_with (fail)
      refine wp_region_extW (by kernel_rfl) (by kernel_rfl) ?_
      repeat (go_big_quiet_step (fail))
      refine wpQuiet_nil ?_
      rintro _ ⟨x1, rfl⟩
      have hb1 := hb0to hb.out (extB_below wr x1)
      go_wp2_with (fail)
      go_roundw
      case rel => exact ⟨k + 1, by omega, by go_num, Lib.hid hb1⟩
      case measure => simp [intOf]; omega
    · obtain rfl : k = s.ps.length := by omega
      go_wp2_with (fail)
      go_loopw [6] (fun i wr => ∃ k : Nat, k ≤ s.bs.length ∧ i = .int .i64 k ∧ Hid (Below W0.heap.size W0 wr)) (fun i _ => s.bs.length - (intOf i).toNat)
      case atStart => exact ⟨0, Nat.zero_le _, rfl, hb⟩
      case round =>
        obtain ⟨k, hk, rfl, hb⟩ := hrel
        obtain ⟨m0, m1, m2, m3⟩ := (B1.out.of (hb.out.block _ B1.out.lt)).cells
        obtain ⟨n0, n1, n2, n3⟩ := (B2.out.of (hb.out.block _ B2.out.lt)).cells
        by_cases hlt : k < s.bs.length
        · obtain ⟨x, hx⟩ : ∃ x, s.bs[k]? = some x := ⟨_, List.getElem?_eq_getElem hlt⟩
          obtain ⟨b1, o1, e1, l1, p1, p2⟩ := H1.out.b.at_ hx
          obtain ⟨b2, o2, e2, l2, q1, q2⟩ := H2.out.b.at_ hx
          simp only at e1 e2
          have g1 := extB_cell m3
          have g2 := extB_cell n3
          have f1 := extB_cell (below_cell hb.out p1)
          have f2 := extB_cell (below_cell hb.out p2)
          have f3 := extB_cell (below_cell hb.out q1)
          have f4 := extB_cell (below_cell hb.out q2)
          have hq := neq55 x
          clear hx p1 p2 q1 q2
          subst e1 e2
          as_aux_lemma =>
          go_wp2_with (fail)
          refine wp_region_extW (by kernel_rfl) (by kernel_rfl) ?_
          repeat (go_big_quiet_step (fail))
          refine wpQuiet_nil ?_
          rintro _ ⟨x1, rfl⟩
          have hb1 := hb0to hb.out (extB_below wr x1)
          go_wp2_with (fail)
          go_roundw
          case rel => exact ⟨k + 1, by omega, by go_num, Lib.hid hb1⟩
          case measure => simp [intOf]; omega
        · obtain rfl : k = s.bs.length := by omega
          go_wp2_with (fail)
          go_ret
          exact ⟨rfl, hb0to HB0.out hb.out⟩
end Go.Proofs.Ytgjpllmmpclgaaa
namespace Go.Proofs.Ytgjpllmmpclgaaa
open Go.RowKit

/-! works 17. -/
/-- The memory of works. -/
structure ExM (W : World) (a b : Nat) (c : Option Addr) (d k s : Nat) : Prop where
  S : SeaAt W W.heap.size ⟨some ⟨a, 0, none⟩, 3, some ⟨b, 0, none⟩, 4⟩ exS
  T : SeaAt W W.heap.size ⟨c, k, some ⟨d, 0, none⟩, 2⟩ exR
  x : SBox W s ⟨some ⟨a, 0, none⟩, 3, some ⟨b, 0, none⟩, 4⟩ exS
  y : SBox W (s + 1) ⟨c, k, some ⟨d, 0, none⟩, 2⟩ exR
theorem ExM.next {W W' : World} {a b : Nat} {c : Option Addr} {d k s : Nat} (H : ExM W a b c d k s) (hb : Below W.heap.size W W') : ExM W' a b c d k s :=
  ⟨H.S.below hb, H.T.below hb, H.x.of (hb.block _ H.x.lt), H.y.of (hb.block _ H.y.lt)⟩
theorem ExM.al {W : World} {a b : Nat} {c : Option Addr} {d k s : Nat} (H : ExM W a b c d k s) (o : Obj) : ExM (W.alloc o) a b c d k s := H.next (al_below W o)
theorem ExM.c {W : World} {a b : Nat} {c : Option Addr} {d k s : Nat} (H : ExM W a b c d k s) : (W.cell? ⟨s, 0, none⟩ = some (.int .i64 100) ∧ W.cell? ⟨s, 1, none⟩ = some (.int .i64 120) ∧ W.cell? ⟨s, 2, none⟩ = some (.slice (some ⟨a, 0, none⟩) 3 3) ∧ W.cell? ⟨s, 3, none⟩ = some (.slice (some ⟨b, 0, none⟩) 4 4)) ∧
    (W.cell? ⟨s + 1, 0, none⟩ = some (.int .i64 100) ∧ W.cell? ⟨s + 1, 1, none⟩ = some (.int .i64 120) ∧ W.cell? ⟨s + 1, 2, none⟩ = some (.slice c 3 k) ∧ W.cell? ⟨s + 1, 3, none⟩ = some (.slice (some ⟨d, 0, none⟩) 2 2)) := ⟨H.x.cells, H.y.cells⟩
theorem ExM.new {W : World} {a b : Nat} {c : Option Addr} {d k : Nat} (hS : SeaAt W W.heap.size ⟨some ⟨a, 0, none⟩, 3, some ⟨b, 0, none⟩, 4⟩ exS) (hT : SeaAt W W.heap.size ⟨c, k, some ⟨d, 0, none⟩, 2⟩ exR) :
    ExM ((W.alloc (.cells #[.int .i64 100, .int .i64 120, .slice (some ⟨a, 0, none⟩) 3 3, .slice (some ⟨b, 0, none⟩) 4 4] 27)).alloc (.cells #[.int .i64 100, .int .i64 120, .slice c 3 k, .slice (some ⟨d, 0, none⟩) 2 2] 27)) a b c d k W.heap.size := by
  have hb := hb0to (al_below W (.cells #[.int .i64 100, .int .i64 120, .slice (some ⟨a, 0, none⟩) 3 3, .slice (some ⟨b, 0, none⟩) 4 4] 27)) (al_below _ (.cells #[.int .i64 100, .int .i64 120, .slice c 3 k, .slice (some ⟨d, 0, none⟩) 2 2] 27))
  exact ⟨hS.below hb, hT.below hb, (SBox.new W ⟨some ⟨a, 0, none⟩, 3, some ⟨b, 0, none⟩, 4⟩ exS).of (Below.heap_alloc _ _ _ (by simp)), heap_new2 W _ _⟩
theorem exC46 {W : World} {a b : Nat} {c : Option Addr} {d k s : Nat} (H : ExM W a b c d k s) :
    Calls Try.prog 46 #[.agg #[.int .i64 100, .int .i64 120, .slice (some ⟨a, 0, none⟩) 3 3, .slice (some ⟨b, 0, none⟩) 4 4], .int .i64 0] W fun e w' => e = .returned (.tuple #[.agg #[.int .i64 2, .int .i64 5], .int .i64 0]) ∧ Below W.heap.size W w' := by
  have h := Share_any ⟨some ⟨a, 0, none⟩, 3, some ⟨b, 0, none⟩, 4⟩ exS (by decide) 0 W H.S
  rw [exShare] at h
  exact h
theorem exC55 {W : World} {a b : Nat} {c : Option Addr} {d k s : Nat} (H : ExM W a b c d k s) :
    Calls Try.prog 55 #[.agg #[.int .i64 100, .int .i64 120, .slice (some ⟨a, 0, none⟩) 3 3, .slice (some ⟨b, 0, none⟩) 4 4], .int .i64 2] W fun e w' => e = .returned (.tuple #[.int .i64 60, .int .i64 0]) ∧ Below W.heap.size W w' := by
  have h := Need_any ⟨some ⟨a, 0, none⟩, 3, some ⟨b, 0, none⟩, 4⟩ exS (by decide) 2 W H.S
  rw [exNeed] at h
  exact h
theorem exC26 {W : World} {a b : Nat} {c : Option Addr} {d k s x : Nat} (H : ExM W a b c d k s) (hI : IntsAt W W.heap.size (some ⟨x, 0, none⟩) [0, 3, 1]) :
    Calls Try.prog 26 #[.agg #[.int .i64 100, .int .i64 120, .slice (some ⟨a, 0, none⟩) 3 3, .slice (some ⟨b, 0, none⟩) 4 4], .slice (some ⟨x, 0, none⟩) 3 3] W fun e w' => e = .returned (.tuple #[.int .i64 1, .int .i64 0]) ∧ Below W.heap.size W w' := by
  have h := Safe_any ⟨some ⟨a, 0, none⟩, 3, some ⟨b, 0, none⟩, 4⟩ exS [0, 3, 1] (some ⟨x, 0, none⟩) 3 (by decide) W H.S hI
  rw [exSafe] at h
  exact h
theorem exC57 {W : World} {a b : Nat} {c : Option Addr} {d k s : Nat} (H : ExM W a b c d k s) :
    Calls Try.prog 57 #[.agg #[.int .i64 100, .int .i64 120, .slice (some ⟨a, 0, none⟩) 3 3, .slice (some ⟨b, 0, none⟩) 4 4]] W fun e w' => e = .returned (.tuple #[.int .i64 120, .int .i64 0]) ∧ Below W.heap.size W w' := by
  have h := Most_any ⟨some ⟨a, 0, none⟩, 3, some ⟨b, 0, none⟩, 4⟩ exS W H.S
  rw [exMost] at h
  exact h
theorem exC32 {W : World} {a b : Nat} {c : Option Addr} {d k s : Nat} (H : ExM W a b c d k s) :
    Calls Try.prog 32 #[.agg #[.int .i64 100, .int .i64 120, .slice (some ⟨a, 0, none⟩) 3 3, .slice (some ⟨b, 0, none⟩) 4 4]] W fun e w' => (∃ A cp, e = .returned (.tuple #[.slice A 3 cp, .int .i64 0]) ∧ IntsAt w' w'.heap.size A [0, 1, 3]) ∧ Below W.heap.size W w' := by
  have h := Crew_any ⟨some ⟨a, 0, none⟩, 3, some ⟨b, 0, none⟩, 4⟩ exS W H.S
  rw [exCrew] at h
  exact h.mono fun _ _ ⟨⟨A, cp, he, hI, _⟩, hb⟩ => ⟨⟨A, cp, he, hI.ints⟩, hb⟩
theorem exC18 {W : World} {a b : Nat} {c : Option Addr} {d k s : Nat} (H : ExM W a b c d k s) :
    Calls Try.prog 18 #[.agg #[.int .i64 100, .int .i64 120, .slice c 3 k, .slice (some ⟨d, 0, none⟩) 2 2]] W fun e w' => (∃ A cp, e = .returned (.tuple #[.slice A 1 cp, .int .i64 0]) ∧ IntsAt w' w'.heap.size A [2]) ∧ Below W.heap.size W w' := by
  have h := Short_any ⟨c, k, some ⟨d, 0, none⟩, 2⟩ exR W H.T
  rw [exShort] at h
  exact h.mono fun _ _ ⟨⟨A, cp, he, hI⟩, hb⟩ => ⟨⟨A, cp, he, hI.ints⟩, hb⟩
theorem exC43 {W : World} {A : Option Addr} {cp y : Nat} (h1 : IntsAt W W.heap.size A [0, 1, 3]) (h2 : IntsAt W W.heap.size (some ⟨y, 0, none⟩) [0, 1, 3]) :
    Calls Try.prog 43 #[.slice A 3 cp, .slice (some ⟨y, 0, none⟩) 3 3] W fun e w' => e = .returned (.bool true) ∧ Below W.heap.size W w' :=
  sameInts_is _ _ cp 3 [0, 1, 3] (by decide) W h1 h2
theorem exC43' {W : World} {A : Option Addr} {cp y : Nat} (h1 : IntsAt W W.heap.size A [2]) (h2 : IntsAt W W.heap.size (some ⟨y, 0, none⟩) [2]) :
    Calls Try.prog 43 #[.slice A 1 cp, .slice (some ⟨y, 0, none⟩) 1 1] W fun e w' => e = .returned (.bool true) ∧ Below W.heap.size W w' :=
  sameInts_is _ _ cp 1 [2] (by decide) W h1 h2
theorem new031 (W : World) : IntsAt (W.alloc (.cells #[.int .i64 0, .int .i64 3, .int .i64 1] 3)) (W.alloc (.cells #[.int .i64 0, .int .i64 3, .int .i64 1] 3)).heap.size (some ⟨W.heap.size, 0, none⟩) [0, 3, 1] := ints_lay (World.alloc_heap_new W _)
theorem new013 (W : World) : IntsAt (W.alloc (.cells #[.int .i64 0, .int .i64 1, .int .i64 3] 3)) (W.alloc (.cells #[.int .i64 0, .int .i64 1, .int .i64 3] 3)).heap.size (some ⟨W.heap.size, 0, none⟩) [0, 1, 3] := ints_lay (World.alloc_heap_new W _)
theorem new2 (W : World) : IntsAt (W.alloc (.cells #[.int .i64 2] 3)) (W.alloc (.cells #[.int .i64 2] 3)).heap.size (some ⟨W.heap.size, 0, none⟩) [2] := ints_lay (World.alloc_heap_new W _)
theorem eql23 (x : Int × Int) (w : World) : (binOp .eql 23 (.agg #[.int .i64 x.1, .int .i64 x.2]) (.agg #[.int .i64 x.1, .int .i64 x.2])).run Try.prog w = .ok (.bool true) w := by
  simp [go_sem]
/-- The box of a span. -/
def PBox (W : World) (z : Nat) : Prop := W.heap[z]? = some (.cells #[.int .i64 2, .int .i64 5] 23 (0, 0))
theorem PBox.cells {W : World} {z : Nat} (h : PBox W z) : W.cell? ⟨z, 0, none⟩ = some (.int .i64 2) ∧ W.cell? ⟨z, 1, none⟩ = some (.int .i64 5) := by simp [World.cell?, show W.heap[z]? = _ from h]
theorem PBox.next {W W' : World} {z : Nat} (h : PBox W z) (hb : Below W.heap.size W W') : PBox W' z := (hb.block _ (heap_lt h)).trans h
set_option maxRecDepth 100000 in
set_option maxHeartbeats 4000000 in
theorem works_any (w : World) : Calls Try.prog 17 #[] w fun e w' => e = .returned (.bool true) ∧ Below w.heap.size w w' := by
  have hq := fun w => eql23 (2, 5) w
  simp only at hq
  go_enter Try.func17, Try.ntmps17
  go_wp2_with (first
    | (go_at_call 71; go_must (refine (example_any _).mono ?_; rintro e w1 ⟨a, b, c, d, k, rfl, hS, hT, hb1⟩; have M1 := ExM.new hS hT; have m1 := M1.c; have B1 := hb0to hb1 (hb0to (al_below w1 (.cells #[.int .i64 100, .int .i64 120, .slice (some ⟨a, 0, none⟩) 3 3, .slice (some ⟨b, 0, none⟩) 4 4] 27)) (al_below _ (.cells #[.int .i64 100, .int .i64 120, .slice c 3 k, .slice (some ⟨d, 0, none⟩) 2 2] 27))); have B1 := Lib.hid B1; have M1 := Lib.hid M1; clear hS hT hb1))
    | (go_at_call 46; go_must (refine (exC46 M1.out).mono ?_; rintro e w2 ⟨rfl, hb2⟩; have M2 := (M1.out.next hb2).al (.cells #[.int .i64 2, .int .i64 5] 23); have m2 := M2.c; have M2 := Lib.hid M2; have p2 : PBox _ w2.heap.size := heap_new1 w2 (.cells #[.int .i64 2, .int .i64 5] 23); have P2 := Lib.hid p2; have B2 := Lib.hid (hb0to (hb0to B1.out hb2) (al_below w2 (.cells #[.int .i64 2, .int .i64 5] 23))); clear hb2 p2))
    | (go_at_call 55; go_must (refine (exC55 M2.out).mono ?_; rintro e w3 ⟨rfl, hb3⟩; have M3 := M2.out.next hb3; have m3 := M3.c; have M3 := Lib.hid M3; have P3 := Lib.hid (P2.out.next hb3); have B3 := Lib.hid (hb0to B2.out hb3); clear hb3))
    | (go_at_call 26; go_must (refine (exC26 (M3.out.al _) (new031 w3)).mono ?_; rintro e w4 ⟨rfl, hb4⟩; have M4 := (M3.out.al _).next hb4; have m4 := M4.c; have M4 := Lib.hid M4; have P4 := Lib.hid ((P3.out.next (al_below w3 _)).next hb4); have B4 := Lib.hid (hb0to (hb0to B3.out (al_below w3 _)) hb4); clear hb4))
    | (go_at_call 32; go_must (refine (exC32 M4.out).mono ?_; rintro e w5 ⟨⟨A5, c5, rfl, hI⟩, hb5⟩; have M5 := M4.out.next hb5; have m5 := M5.c; have M5 := Lib.hid M5; have P5 := Lib.hid (P4.out.next hb5); have I5 := Lib.hid hI; have B5 := Lib.hid (hb0to B4.out hb5); clear hb5 hI))
    | (go_at_call 57; go_must (refine (exC57 M5.out).mono ?_; rintro e w6 ⟨rfl, hb6⟩; have M6 := M5.out.next hb6; have m6 := M6.c; have M6 := Lib.hid M6; have P6 := Lib.hid (P5.out.next hb6); have I6 := Lib.hid (ints_later I5.out hb6); have B6 := Lib.hid (hb0to B5.out hb6); clear hb6))
    | (go_at_call 18; go_must (refine (exC18 M6.out).mono ?_; rintro e w7 ⟨⟨A7, c7, rfl, hI⟩, hb7⟩; have P7 := Lib.hid (P6.out.next hb7); obtain ⟨pc0, pc1⟩ := P7.out.cells; have I7 := Lib.hid (ints_later I6.out hb7); have J7 := Lib.hid hI; have B7 := Lib.hid (hb0to B6.out hb7); clear hb7 hI))
    | (go_at_call 43; refine (exC43' (ints_later J8.out (al_below w8 _)) (new2 w8)).mono ?_; rintro e w9 ⟨rfl, hb9⟩; have B9 := Lib.hid (hb0to (hb0to B8.out (al_below w8 _)) hb9); clear hb9)
    | (go_at_call 43; refine (exC43 (ints_later I7.out (al_below w7 _)) (new013 w7)).mono ?_; rintro e w8 ⟨rfl, hb8⟩; have J8 := Lib.hid (ints_later (ints_later J7.out (al_below w7 _)) hb8); have B8 := Lib.hid (hb0to (hb0to B7.out (al_below w7 _)) hb8); clear hb8))
  go_ret
  exact ⟨rfl, B9.out⟩
end Go.Proofs.Ytgjpllmmpclgaaa
