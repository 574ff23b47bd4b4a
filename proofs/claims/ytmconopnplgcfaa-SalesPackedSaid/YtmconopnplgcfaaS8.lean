import Derived.Outline
import Derived.Test.YtmconopnplgcfaaS6
namespace Go.Proofs.Ytmconopnplgcfaa
open Go.RowKit
theorem isBarrel_any (L : HL) (h : House) (k : Int) (w : World) (hn : h.bs.length ≤ 1000) : Calls Try.prog 124 #[L.enc h, .int .i64 k] w fun e w' => e = .returned (.bool (inR k 0 (h.bs.length - 1))) ∧ Below w.heap.size w w' := by
  go_enter Try.func124, Try.ntmps124
  go_wp2_with (go_at_call 121; refine (between_any _ _ _ _).mono ?_; rintro e w' ⟨rfl, rfl⟩)
  go_ret
  exact ⟨rfl, (Below.refl _ _).alloc (Nat.le_refl _) _⟩
theorem check1_any (n : Int) (w : World) : Calls Try.prog 122 #[.int .i64 n] w fun e w' => e = .returned (.bool (!inR n 0 99)) ∧ w = w' := by
  go_enter Try.func122, Try.ntmps122
  go_wp2_with (go_at_call 121; refine (between_any _ _ _ _).mono ?_; rintro e w' ⟨rfl, rfl⟩)
  go_ret
  exact ⟨rfl, rfl⟩
theorem good1_any (L : HL) (h : House) (b : Nat) (n : Int) (w : World) (hn : h.bs.length ≤ 1000) (hB : HBox w b L h) : Calls Try.prog 123 #[.int .i64 n, .pointer (some ⟨b, 0, none⟩)] w fun e w' => e = .returned (.bool (!inR n 0 (h.bs.length - 1))) ∧ Below w.heap.size w w' := by
  obtain ⟨g0, g1, g2, g3⟩ := hB.cells
  clear hB
  go_enter Try.func123, Try.ntmps123
  go_wp2_with (go_at_call 124; refine (isBarrel_any L h _ _ hn).mono ?_; rintro e w' ⟨rfl, hb⟩)
  go_ret
  exact ⟨rfl, hb⟩

/-- slices.IndexFunc's answer. -/
def firstB (p : Int → Bool) : List Int → Nat → Int
  | [], _ => -1
  | x :: l, k => if p x then (k : Int) else firstB p l (k + 1)
theorem firstB_any (p : Int → Bool) : ∀ (l : List Int) (k : Nat), decide (0 ≤ firstB p l k) = l.any p
  | [], k => by simp [firstB]
  | x :: l, k => by
    unfold firstB
    by_cases h : p x = true
    · rw [if_pos h]; simp [h]
    · rw [if_neg h, firstB_any p l (k + 1)]; simp [h]
theorem firstB_yes {p : Int → Bool} {l : List Int} {k : Nat} {x : Int} (hx : l[k]? = some x) (hp : p x = true) : firstB p (l.drop k) k = k := by
  obtain ⟨h, e⟩ := List.getElem?_eq_some_iff.1 hx
  rw [List.drop_eq_getElem_cons h, firstB, e, if_pos hp]
theorem firstB_no {p : Int → Bool} {l : List Int} {k : Nat} {x : Int} (hx : l[k]? = some x) (hp : p x = false) : firstB p (l.drop k) k = firstB p (l.drop (k + 1)) (k + 1) := by
  obtain ⟨h, e⟩ := List.getElem?_eq_some_iff.1 hx
  rw [List.drop_eq_getElem_cons h, firstB, e, if_neg (by simp [hp])]
theorem firstB_end {p : Int → Bool} {l : List Int} : firstB p (l.drop l.length) l.length = -1 := by simp [firstB]
set_option maxRecDepth 100000 in
set_option maxHeartbeats 4000000 in
theorem index78_any (A : Option Addr) (c : Nat) (l : List Int) (hl : l.length ≤ 1000) (w : World) (hI : IntsAt w w.heap.size A l) :
    Calls Try.prog 119 #[.slice A l.length c, .func (.func 122) #[] #[]] w fun e w' => e = .returned (.int .i64 (firstB (fun x => !inR x 0 99) l 0)) ∧ Below w.heap.size w w' := by
  have HI := Lib.hid hI
  clear hI
  go_enter Try.func119, Try.ntmps119
  go_wp2
  go_loopw [5, 8] (fun _ i wr => ∃ k : Nat, k ≤ l.length ∧ i = .int .i64 k ∧ Hid (firstB (fun x => !inR x 0 99) l 0 = firstB (fun x => !inR x 0 99) (l.drop k) k) ∧ Below w.heap.size w wr) (fun _ i _ => l.length - (intOf i).toNat)
  case atStart => exact ⟨0, Nat.zero_le _, rfl, Lib.hid (by rw [List.drop_zero]), Below.refl _ _⟩
  case round =>
    obtain ⟨k, hk, rfl, hF, hb⟩ := hrel
    by_cases hlt : k < l.length
    · obtain ⟨x, hx⟩ : ∃ x, l[k]? = some x := ⟨_, List.getElem?_eq_getElem hlt⟩
      obtain ⟨b1, o1, rfl, b1lt, d1⟩ := HI.out.at_ hx
      have d2 := below_cell hb d1
      have HX := Lib.hid hx
      clear hx d1
      have hsz := hb.size
      cases hp : (fun x => !inR x 0 99) x
      · have HPX := Lib.hid hp
        have hp' : inR x 0 99 = true := by simpa using hp
        clear hp
        go_wp2_with (go_at_call 122; refine (check1_any _ _).mono ?_; rintro e W5 ⟨rfl, rfl⟩)
        go_roundw
        case rel => exact ⟨k + 1, by omega, by go_num, Lib.hid (by rw [hF.out]; exact firstB_no HX.out HPX.out), hb⟩
        case measure => simp [intOf]; omega
      · have HPX := Lib.hid hp
        have hp' : inR x 0 99 = false := by simpa using hp
        clear hp
        go_wp2_with (go_at_call 122; refine (check1_any _ _).mono ?_; rintro e W5 ⟨rfl, rfl⟩)
        go_ret
        exact ⟨by rw [hF.out, firstB_yes HX.out HPX.out]; rfl, hb⟩
    · obtain rfl : k = l.length := by omega
      go_wp2
      go_ret
      exact ⟨by rw [hF.out, firstB_end]; rfl, hb⟩
theorem contains78_any (A : Option Addr) (c : Nat) (l : List Int) (hl : l.length ≤ 1000) (w : World) (hI : IntsAt w w.heap.size A l) :
    Calls Try.prog 101 #[.slice A l.length c, .func (.func 122) #[] #[]] w fun e w' => e = .returned (.bool (l.any (fun x => !inR x 0 99))) ∧ Below w.heap.size w w' := by
  rw [← firstB_any (fun x => !inR x 0 99) l 0]
  go_enter Try.func101, Try.ntmps101
  go_wp2_with (go_at_call 119; refine (index78_any A c l hl _ hI).mono ?_; rintro e w' ⟨rfl, hb⟩)
  go_ret
  exact ⟨rfl, hb⟩
set_option maxRecDepth 100000 in
set_option maxHeartbeats 4000000 in
theorem index99_any (L : HL) (h : House) (hbl : h.bs.length ≤ 1000) (b : Nat) (A : Option Addr) (c : Nat) (l : List Int) (hl : l.length ≤ 1000) (w : World) (hI : IntsAt w w.heap.size A l) (hB : HBox w b L h) :
    Calls Try.prog 119 #[.slice A l.length c, .func (.func 123) #[] #[.pointer (some ⟨b, 0, none⟩)]] w fun e w' => e = .returned (.int .i64 (firstB (fun x => !inR x 0 (h.bs.length - 1)) l 0)) ∧ Below w.heap.size w w' := by
  have HI := Lib.hid hI
  clear hI
  have HBX := Lib.hid hB
  clear hB
  go_enter Try.func119, Try.ntmps119
  go_wp2
  go_loopw [5, 8] (fun _ i wr => ∃ k : Nat, k ≤ l.length ∧ i = .int .i64 k ∧ Hid (firstB (fun x => !inR x 0 (h.bs.length - 1)) l 0 = firstB (fun x => !inR x 0 (h.bs.length - 1)) (l.drop k) k) ∧ Below w.heap.size w wr) (fun _ i _ => l.length - (intOf i).toNat)
  case atStart => exact ⟨0, Nat.zero_le _, rfl, Lib.hid (by rw [List.drop_zero]), Below.refl _ _⟩
  case round =>
    obtain ⟨k, hk, rfl, hF, hb⟩ := hrel
    by_cases hlt : k < l.length
    · obtain ⟨x, hx⟩ : ∃ x, l[k]? = some x := ⟨_, List.getElem?_eq_getElem hlt⟩
      obtain ⟨b1, o1, rfl, b1lt, d1⟩ := HI.out.at_ hx
      have d2 := below_cell hb d1
      have HX := Lib.hid hx
      clear hx d1
      have hsz := hb.size
      cases hp : (fun x => !inR x 0 (h.bs.length - 1)) x
      · have HPX := Lib.hid hp
        have hp' : inR x 0 (h.bs.length - 1) = true := by simpa using hp
        clear hp
        go_wp2_with (go_at_call 123; refine (good1_any L h b _ _ hbl (HBX.out.of (hb.block _ HBX.out.lt))).mono ?_; rintro e W5 ⟨rfl, hb5⟩)
        go_roundw
        case rel => exact ⟨k + 1, by omega, by go_num, Lib.hid (by rw [hF.out]; exact firstB_no HX.out HPX.out), hb.trans (hb5.mono hsz)⟩
        case measure => simp [intOf]; omega
      · have HPX := Lib.hid hp
        have hp' : inR x 0 (h.bs.length - 1) = false := by simpa using hp
        clear hp
        go_wp2_with (go_at_call 123; refine (good1_any L h b _ _ hbl (HBX.out.of (hb.block _ HBX.out.lt))).mono ?_; rintro e W5 ⟨rfl, hb5⟩)
        go_ret
        exact ⟨by rw [hF.out, firstB_yes HX.out HPX.out]; rfl, hb.trans (hb5.mono hsz)⟩
    · obtain rfl : k = l.length := by omega
      go_wp2
      go_ret
      exact ⟨by rw [hF.out, firstB_end]; rfl, hb⟩
theorem contains99_any (L : HL) (h : House) (hbl : h.bs.length ≤ 1000) (b : Nat) (A : Option Addr) (c : Nat) (l : List Int) (hl : l.length ≤ 1000) (w : World) (hI : IntsAt w w.heap.size A l) (hB : HBox w b L h) :
    Calls Try.prog 101 #[.slice A l.length c, .func (.func 123) #[] #[.pointer (some ⟨b, 0, none⟩)]] w fun e w' => e = .returned (.bool (l.any (fun x => !inR x 0 (h.bs.length - 1)))) ∧ Below w.heap.size w w' := by
  rw [← firstB_any (fun x => !inR x 0 (h.bs.length - 1)) l 0]
  go_enter Try.func101, Try.ntmps101
  go_wp2_with (go_at_call 119; refine (index99_any L h hbl b A c l hl _ hI hB).mono ?_; rintro e w' ⟨rfl, hb⟩)
  go_ret
  exact ⟨rfl, hb⟩
theorem allTo_bad {p : Int × Int → Bool} {l : List (Int × Int)} {k : Nat} {x : Int × Int} (hx : l[k]? = some x) (hp : p x = false) : l.all p = false := by
  rw [List.all_eq_false]
  exact ⟨x, List.mem_of_getElem? hx, by simp [hp]⟩
theorem allTo_good {p : Int × Int → Bool} {l : List (Int × Int)} (h : ∀ j x, j < l.length → l[j]? = some x → p x = true) : l.all p = true := by
  rw [List.all_eq_true]
  intro x hx
  obtain ⟨j, hj⟩ := List.getElem?_of_mem hx
  exact h j x (List.getElem?_eq_some_iff.1 hj).1 hj
theorem allTo_step {p : Int × Int → Bool} {l : List (Int × Int)} {k : Nat} {x : Int × Int} (h : ∀ j x, j < k → l[j]? = some x → p x = true) (hx : l[k]? = some x) (hk : p x = true) : ∀ j x, j < k + 1 → l[j]? = some x → p x = true := by
  intro j y hj hy
  by_cases e : j = k
  · subst e; rw [hx] at hy; cases hy; exact hk
  · exact h j y (by omega) hy
theorem ckH_yes {h : House} (hv : validH h = true) : ckH h = 0 := by simp [ckH, hv]
theorem ckH_no {h : House} (hv : validH h = false) : ckH h = 80 := by simp [ckH, hv]
theorem validH_parts {h : House} (h0 : bigOK h = true) (h1 : h.ks.all kindOK = true) (h2 : h.ps.all (partOK h.ks.length) = true) : validH h = h.bs.all fun b => inR b 0 99 := by
  simp [validH, h0, h1, h2]
theorem any_not_all (l : List Int) (p : Int → Bool) : l.any (fun x => !p x) = !l.all p := by
  rw [Bool.eq_iff_iff]; simp

set_option maxRecDepth 100000 in
set_option maxHeartbeats 4000000 in
theorem check_no (L : HL) (h : House) (hn : h.ks.length ≤ 1000 ∧ h.ps.length ≤ 1000 ∧ h.bs.length ≤ 1000) (hv : bigOK h = false) (w : World) :
    Calls Try.prog 110 #[L.enc h] w fun e w' => e = .returned (.int .i64 (ckH h)) ∧ Below w.heap.size w w' := by
  obtain ⟨n1, n2, n3⟩ := hn
  have hv2 : ckH h = 80 := ckH_no (by simp [validH, hv])
  rw [hv2]
  clear hv2
  have hbw : Below w.heap.size w (w.alloc (.cells #[.slice L.Ak h.ks.length L.ck, .int .i64 h.fl, .slice L.Ap h.ps.length L.cp, .slice L.Ab h.bs.length L.cb] 26)) := (Below.refl _ _).alloc (Nat.le_refl _) _
  obtain ⟨Ak, ck, Ap, cp, Ab, cb⟩ := L
  by_cases k1 : h.ks.length ≤ 3
  · cases f1 : inR h.fl 0 9
    · clear hv
      go_enter Try.func110, Try.ntmps110
      go_wp2_with (go_at_call 121; refine (between_any _ _ _ _).mono ?_; rintro e w' ⟨rfl, rfl⟩)
      go_ret
      exact ⟨rfl, hbw⟩
    · by_cases p1 : h.ps.length ≤ 6
      · have b1 : 4 < h.bs.length := by
          have : ¬ h.bs.length ≤ 4 := fun hb => by simp [bigOK, k1, f1, p1, hb] at hv
          omega
        clear hv
        go_enter Try.func110, Try.ntmps110
        go_wp2_with (go_at_call 121; refine (between_any _ _ _ _).mono ?_; rintro e w' ⟨rfl, rfl⟩)
        go_ret
        exact ⟨rfl, hbw⟩
      · have p2 : 6 < h.ps.length := by omega
        clear hv p1
        go_enter Try.func110, Try.ntmps110
        go_wp2_with (go_at_call 121; refine (between_any _ _ _ _).mono ?_; rintro e w' ⟨rfl, rfl⟩)
        go_ret
        exact ⟨rfl, hbw⟩
  · have k2 : 3 < h.ks.length := by omega
    clear hv k1
    go_enter Try.func110, Try.ntmps110
    go_wp2_with (go_at_call 121; refine (between_any _ _ _ _).mono ?_; rintro e w' ⟨rfl, rfl⟩)
    go_ret
    exact ⟨rfl, hbw⟩

set_option maxRecDepth 100000 in
set_option maxHeartbeats 4000000 in
theorem check_yes (L : HL) (h : House) (hv : bigOK h = true) (w : World) (hH : HouseAt w w.heap.size L h) :
    Calls Try.prog 110 #[L.enc h] w fun e w' => e = .returned (.int .i64 (ckH h)) ∧ Below w.heap.size w w' := by
  have hv' := hv
  simp only [bigOK, Bool.and_eq_true, decide_eq_true_eq] at hv'
  obtain ⟨k1, f1, p1, b1⟩ := hv'
  have HV := Lib.hid hv
  have HH := Lib.hid hH
  clear hv hH
  obtain ⟨Ak, ck, Ap, cp, Ab, cb⟩ := L
  go_enter Try.func110, Try.ntmps110
  go_wp2_with (go_at_call 121; refine (between_any _ _ _ _).mono ?_; rintro e w' ⟨rfl, rfl⟩)
  clear f1
  go_loopw [32] (fun i wr => ∃ k : Nat, k ≤ h.ks.length ∧ i = .int .i64 k ∧ Hid (∀ j x, j < k → h.ks[j]? = some x → kindOK x = true) ∧ Below w.heap.size w wr ∧ HBox wr w.heap.size ⟨Ak, ck, Ap, cp, Ab, cb⟩ h) (fun i _ => h.ks.length - (intOf i).toNat)
  case atStart => exact ⟨0, Nat.zero_le _, rfl, Lib.hid (fun j x hj => by omega), (Below.refl _ _).alloc (Nat.le_refl _) _, HBox.new w ⟨Ak, ck, Ap, cp, Ab, cb⟩ h⟩
  case round =>
    obtain ⟨k, hk, rfl, hok, hb, hB⟩ := hrel
    have hsz := hb.size
    by_cases hlt : k < h.ks.length
    · obtain ⟨x, hx⟩ : ∃ x, h.ks[k]? = some x := ⟨_, List.getElem?_eq_getElem hlt⟩
      obtain ⟨bk, ok, rfl, hbk, d1, d2⟩ := HH.out.k.at_ hx
      have e1 := below_cell hb d1
      have e2 := below_cell hb d2
      have HX := Lib.hid hx
      clear hx d1 d2
      cases h1 : inR x.1 0 9
      · have hno : Hid (kindOK x = false) := Lib.hid (by rw [kindOK, h1]; rfl)
        go_wp2_with (go_at_call 121; refine (between_any _ _ _ _).mono ?_; rintro e w' ⟨rfl, rfl⟩)
        go_ret
        exact ⟨by rw [ckH_no (by simp [validH, allTo_bad HX.out hno.out])]; rfl, hb.alloc hsz _⟩
      · cases h2 : inR x.2 0 20
        · have hno : Hid (kindOK x = false) := Lib.hid (by rw [kindOK, h1, h2]; rfl)
          go_wp2_with (go_at_call 121; refine (between_any _ _ _ _).mono ?_; rintro e w' ⟨rfl, rfl⟩)
          go_ret
          exact ⟨by rw [ckH_no (by simp [validH, allTo_bad HX.out hno.out])]; rfl, hb.alloc hsz _⟩
        · have hyes : Hid (kindOK x = true) := Lib.hid (by rw [kindOK, h1, h2]; rfl)
          go_wp2_with (go_at_call 121; refine (between_any _ _ _ _).mono ?_; rintro e w' ⟨rfl, rfl⟩)
          go_roundw
          case rel => exact ⟨k + 1, by omega, by go_num, Lib.hid (allTo_step hok.out HX.out hyes.out), hb.alloc hsz _, hB.of (Below.heap_alloc _ _ _ hB.lt)⟩
          case measure => simp [intOf]; omega
    · obtain rfl : k = h.ks.length := by omega
      have hkall : Hid (h.ks.all kindOK = true) := Lib.hid (allTo_good hok.out)
      clear hok hlt hk
      obtain ⟨g0, g1, g2, g3⟩ := hB.cells
      go_wp2
      clear g0 g1 g2 g3
      obtain ⟨wo, rfl⟩ : ∃ wo : World, wo = wr := ⟨_, rfl⟩
      go_loopw [50] (fun i wr => ∃ k : Nat, k ≤ h.ps.length ∧ i = .int .i64 k ∧ Hid (∀ j x, j < k → h.ps[j]? = some x → partOK h.ks.length x = true) ∧ Below w.heap.size w wr ∧ HBox wr w.heap.size ⟨Ak, ck, Ap, cp, Ab, cb⟩ h) (fun i _ => h.ps.length - (intOf i).toNat)
      case atStart => exact ⟨0, Nat.zero_le _, rfl, Lib.hid (fun j x hj => by omega), hb, hB⟩
      case round =>
        clear hb hB hsz
        obtain ⟨k, hk, rfl, hok, hb, hB⟩ := hrel
        have hsz := hb.size
        obtain ⟨g0, g1, g2, g3⟩ := hB.cells
        have hlt0 : w.heap.size < wr.heap.size := hB.lt
        have hne0 : ¬ w.heap.size = wr.heap.size := by omega
        by_cases hlt : k < h.ps.length
        · obtain ⟨x, hx⟩ : ∃ x, h.ps[k]? = some x := ⟨_, List.getElem?_eq_getElem hlt⟩
          obtain ⟨bk, ok, rfl, hbk, d1, d2⟩ := HH.out.p.at_ hx
          have e1 := below_cell hb d1
          have e2 := below_cell hb d2
          have HX := Lib.hid hx
          clear hx d1 d2
          cases h1 : inR x.1 0 (h.ks.length - 1)
          · have hno : Hid (partOK h.ks.length x = false) := Lib.hid (by rw [partOK, h1]; rfl)
            go_wp2_with (go_at_call 121; refine (between_any _ _ _ _).mono ?_; rintro e w' ⟨rfl, rfl⟩)
            go_ret
            exact ⟨by rw [ckH_no (by simp [validH, allTo_bad HX.out hno.out])]; rfl, hb.alloc hsz _⟩
          · cases h2 : inR x.2 0 40
            · have hno : Hid (partOK h.ks.length x = false) := Lib.hid (by rw [partOK, h1, h2]; rfl)
              go_wp2_with (go_at_call 121; refine (between_any _ _ _ _).mono ?_; rintro e w' ⟨rfl, rfl⟩)
              go_ret
              exact ⟨by rw [ckH_no (by simp [validH, allTo_bad HX.out hno.out])]; rfl, hb.alloc hsz _⟩
            · have hyes : Hid (partOK h.ks.length x = true) := Lib.hid (by rw [partOK, h1, h2]; rfl)
              go_wp2_with (go_at_call 121; refine (between_any _ _ _ _).mono ?_; rintro e w' ⟨rfl, rfl⟩)
              go_roundw
              case rel => exact ⟨k + 1, by omega, by go_num, Lib.hid (allTo_step hok.out HX.out hyes.out), hb.alloc hsz _, hB.of (Below.heap_alloc _ _ _ hB.lt)⟩
              case measure => simp [intOf]; omega
        · obtain rfl : k = h.ps.length := by omega
          have hpall : Hid (h.ps.all (partOK h.ks.length) = true) := Lib.hid (allTo_good hok.out)
          have hI : IntsAt wr wr.heap.size Ab h.bs := (HH.out.b).keep hsz fun _ _ hlt => hb.cell (p := ⟨_, _, none⟩) hlt
          clear hok hlt hk
          cases ha : (h.bs.all fun b => inR b 0 99)
          · have ha2 : (h.bs.any fun x => !inR x 0 99) = true := by rw [any_not_all, ha]; rfl
            have HA := Lib.hid ha
            clear ha
            go_wp2_with (go_at_call 101; refine (contains78_any Ab cb h.bs (by omega) wr hI).mono ?_; rintro e W5 ⟨rfl, hb5⟩)
            go_ret
            exact ⟨by rw [ckH_no (by rw [validH_parts HV.out hkall.out hpall.out]; exact HA.out)]; rfl, hb.trans (hb5.mono hsz)⟩
          · have ha2 : (h.bs.any fun x => !inR x 0 99) = false := by rw [any_not_all, ha]; rfl
            have HA := Lib.hid ha
            clear ha
            go_wp2_with (go_at_call 101; refine (contains78_any Ab cb h.bs (by omega) wr hI).mono ?_; rintro e W5 ⟨rfl, hb5⟩)
            go_ret
            exact ⟨by rw [ckH_yes (by rw [validH_parts HV.out hkall.out hpall.out]; exact HA.out)]; rfl, hb.trans (hb5.mono hsz)⟩
theorem check_any (L : HL) (h : House) (hn : h.ks.length ≤ 1000 ∧ h.ps.length ≤ 1000 ∧ h.bs.length ≤ 1000) (w : World) (hH : HouseAt w w.heap.size L h) :
    Calls Try.prog 110 #[L.enc h] w fun e w' => e = .returned (.int .i64 (ckH h)) ∧ Below w.heap.size w w' := by
  cases hv : bigOK h
  · exact check_no L h hn hv w
  · exact check_yes L h hv w hH
theorem HOK.ofValid {h : House} (hv : validH h = true) : HOK h := by
  simp only [validH, bigOK, Bool.and_eq_true, decide_eq_true_eq, inR_true, List.all_eq_true] at hv
  obtain ⟨⟨k1, f1, p1, b1⟩, hk, hp, hb⟩ := hv
  refine ⟨k1, f1.1, f1.2, p1, b1, fun i x hx => ?_, fun i x hx => ?_, fun i x hx => hb x (List.mem_of_getElem? hx)⟩
  · have := hk x (List.mem_of_getElem? hx)
    simp only [kindOK, Bool.and_eq_true, inR_true] at this
    omega
  · have := hp x (List.mem_of_getElem? hx)
    simp only [partOK, Bool.and_eq_true, inR_true] at this
    omega
end Go.Proofs.Ytmconopnplgcfaa
