import Derived.Outline
import Derived.Test.YtmbcpmnigggbaaaS6
import Derived.Deep.RegionHeld3
import Derived.Deep.QuietTactic
import Derived.ArgAppend
import Derived.IntWalk
namespace Go.Proofs.Ytmbcpmnigggbaaa
open Go.RowKit
theorem isBarrel_any (L : HL) (h : House) (k : Int) (w : World) (hn : h.bs.length ≤ 1000) : Calls Try.prog 202 #[L.enc h, .int .i64 k] w fun e w' => e = .returned (.bool (inR k 0 (h.bs.length - 1))) ∧ Below w.heap.size w w' := by
  go_enter Try.func202, Try.ntmps202
  go_wp2_with (go_at_call 171; refine (between_any _ _ _ _).mono ?_; rintro e w' ⟨rfl, rfl⟩)
  go_ret
  exact ⟨rfl, (Below.refl _ _).alloc (Nat.le_refl _) _⟩
theorem check1_any (n : Int) (w : World) : Calls Try.prog 172 #[.int .i64 n] w fun e w' => e = .returned (.bool (!inR n 0 99)) ∧ w = w' := by
  go_enter Try.func172, Try.ntmps172
  go_wp2_with (go_at_call 171; refine (between_any _ _ _ _).mono ?_; rintro e w' ⟨rfl, rfl⟩)
  go_ret
  exact ⟨rfl, rfl⟩
theorem good1_any (L : HL) (h : House) (b : Nat) (n : Int) (w : World) (hn : h.bs.length ≤ 1000) (hB : HBox w b L h) : Calls Try.prog 210 #[.int .i64 n, .pointer (some ⟨b, 0, none⟩)] w fun e w' => e = .returned (.bool (!inR n 0 (h.bs.length - 1))) ∧ Below w.heap.size w w' := by
  obtain ⟨g0, g1, g2, g3⟩ := hB.cells
  clear hB
  go_enter Try.func210, Try.ntmps210
  go_wp2_with (go_at_call 202; refine (isBarrel_any L h _ _ hn).mono ?_; rintro e w' ⟨rfl, hb⟩)
  go_ret
  exact ⟨rfl, hb⟩

/-- slices.IndexFunc's answer. -/
def firstB (p : Int → Bool) : List Int → Nat → Int
  | [], _ => -1
  | x :: l, k => if p x then (k : Int) else firstB p l (k + 1)
theorem firstB_any (p : Int → Bool) : ∀ (l : List Int) (k : Nat), decide (0 ≤ firstB p l k) = l.any p
  | [], k => by simp [firstB]
  | x :: l, k => by
    unfold firstB
    by_cases h : p x = true
    · rw [if_pos h]; simp [h]
    · rw [if_neg h, firstB_any p l (k + 1)]; simp [h]
theorem firstB_yes {p : Int → Bool} {l : List Int} {k : Nat} {x : Int} (hx : l[k]? = some x) (hp : p x = true) : firstB p (l.drop k) k = k := by
  obtain ⟨h, e⟩ := List.getElem?_eq_some_iff.1 hx
  rw [List.drop_eq_getElem_cons h, firstB, e, if_pos hp]
theorem firstB_no {p : Int → Bool} {l : List Int} {k : Nat} {x : Int} (hx : l[k]? = some x) (hp : p x = false) : firstB p (l.drop k) k = firstB p (l.drop (k + 1)) (k + 1) := by
  obtain ⟨h, e⟩ := List.getElem?_eq_some_iff.1 hx
  rw [List.drop_eq_getElem_cons h, firstB, e, if_neg (by simp [hp])]
theorem firstB_end {p : Int → Bool} {l : List Int} : firstB p (l.drop l.length) l.length = -1 := by simp [firstB]
set_option maxRecDepth 100000 in
set_option maxHeartbeats 4000000 in
theorem index78_any (A : Option Addr) (c : Nat) (l : List Int) (hl : l.length ≤ 1000) (w : World) (hI : IntsAt w w.heap.size A l) :
    Calls Try.prog 188 #[.slice A l.length c, .func (.func 172) #[] #[]] w fun e w' => e = .returned (.int .i64 (firstB (fun x => !inR x 0 99) l 0)) ∧ Below w.heap.size w w' := by
  have HI := Lib.hid hI
  clear hI
  go_enter Try.func188, Try.ntmps188
  go_wp2
  go_loopw [5, 8] (fun _ i wr => ∃ k : Nat, k ≤ l.length ∧ i = .int .i64 k ∧ Hid (firstB (fun x => !inR x 0 99) l 0 = firstB (fun x => !inR x 0 99) (l.drop k) k) ∧ Below w.heap.size w wr) (fun _ i _ => l.length - (intOf i).toNat)
  case atStart => exact ⟨0, Nat.zero_le _, rfl, Lib.hid (by rw [List.drop_zero]), Below.refl _ _⟩
  case round =>
    obtain ⟨k, hk, rfl, hF, hb⟩ := hrel
    by_cases hlt : k < l.length
    · obtain ⟨x, hx⟩ : ∃ x, l[k]? = some x := ⟨_, List.getElem?_eq_getElem hlt⟩
      obtain ⟨b1, o1, rfl, b1lt, d1⟩ := HI.out.at_ hx
      have d2 := below_cell hb d1
      have HX := Lib.hid hx
      clear hx d1
      have hsz := hb.size
      cases hp : (fun x => !inR x 0 99) x
      · have HPX := Lib.hid hp
        have hp' : inR x 0 99 = true := by simpa using hp
        clear hp
        go_wp2_with (go_at_call 172; refine (check1_any _ _).mono ?_; rintro e W5 ⟨rfl, rfl⟩)
        go_roundw
        case rel => exact ⟨k + 1, by omega, by go_num, Lib.hid (by rw [hF.out]; exact firstB_no HX.out HPX.out), hb⟩
        case measure => simp [intOf]; omega
      · have HPX := Lib.hid hp
        have hp' : inR x 0 99 = false := by simpa using hp
        clear hp
        go_wp2_with (go_at_call 172; refine (check1_any _ _).mono ?_; rintro e W5 ⟨rfl, rfl⟩)
        go_ret
        exact ⟨by rw [hF.out, firstB_yes HX.out HPX.out]; rfl, hb⟩
    · obtain rfl : k = l.length := by omega
      go_wp2
      go_ret
      exact ⟨by rw [hF.out, firstB_end]; rfl, hb⟩
theorem contains78_any (A : Option Addr) (c : Nat) (l : List Int) (hl : l.length ≤ 1000) (w : World) (hI : IntsAt w w.heap.size A l) :
    Calls Try.prog 160 #[.slice A l.length c, .func (.func 172) #[] #[]] w fun e w' => e = .returned (.bool (l.any (fun x => !inR x 0 99))) ∧ Below w.heap.size w w' := by
  rw [← firstB_any (fun x => !inR x 0 99) l 0]
  go_enter Try.func160, Try.ntmps160
  go_wp2_with (go_at_call 188; refine (index78_any A c l hl _ hI).mono ?_; rintro e w' ⟨rfl, hb⟩)
  go_ret
  exact ⟨rfl, hb⟩
set_option maxRecDepth 100000 in
set_option maxHeartbeats 4000000 in
theorem index99_any (L : HL) (h : House) (hbl : h.bs.length ≤ 1000) (b : Nat) (A : Option Addr) (c : Nat) (l : List Int) (hl : l.length ≤ 1000) (w : World) (hI : IntsAt w w.heap.size A l) (hB : HBox w b L h) :
    Calls Try.prog 188 #[.slice A l.length c, .func (.func 210) #[] #[.pointer (some ⟨b, 0, none⟩)]] w fun e w' => e = .returned (.int .i64 (firstB (fun x => !inR x 0 (h.bs.length - 1)) l 0)) ∧ Below w.heap.size w w' := by
  have HI := Lib.hid hI
  clear hI
  have HBX := Lib.hid hB
  clear hB
  go_enter Try.func188, Try.ntmps188
  go_wp2
  go_loopw [5, 8] (fun _ i wr => ∃ k : Nat, k ≤ l.length ∧ i = .int .i64 k ∧ Hid (firstB (fun x => !inR x 0 (h.bs.length - 1)) l 0 = firstB (fun x => !inR x 0 (h.bs.length - 1)) (l.drop k) k) ∧ Below w.heap.size w wr) (fun _ i _ => l.length - (intOf i).toNat)
  case atStart => exact ⟨0, Nat.zero_le _, rfl, Lib.hid (by rw [List.drop_zero]), Below.refl _ _⟩
  case round =>
    obtain ⟨k, hk, rfl, hF, hb⟩ := hrel
    by_cases hlt : k < l.length
    · obtain ⟨x, hx⟩ : ∃ x, l[k]? = some x := ⟨_, List.getElem?_eq_getElem hlt⟩
      obtain ⟨b1, o1, rfl, b1lt, d1⟩ := HI.out.at_ hx
      have d2 := below_cell hb d1
      have HX := Lib.hid hx
      clear hx d1
      have hsz := hb.size
      cases hp : (fun x => !inR x 0 (h.bs.length - 1)) x
      · have HPX := Lib.hid hp
        have hp' : inR x 0 (h.bs.length - 1) = true := by simpa using hp
        clear hp
        go_wp2_with (go_at_call 210; refine (good1_any L h b _ _ hbl (HBX.out.of (hb.block _ HBX.out.lt))).mono ?_; rintro e W5 ⟨rfl, hb5⟩)
        go_roundw
        case rel => exact ⟨k + 1, by omega, by go_num, Lib.hid (by rw [hF.out]; exact firstB_no HX.out HPX.out), hb.trans (hb5.mono hsz)⟩
        case measure => simp [intOf]; omega
      · have HPX := Lib.hid hp
        have hp' : inR x 0 (h.bs.length - 1) = false := by simpa using hp
        clear hp
        go_wp2_with (go_at_call 210; refine (good1_any L h b _ _ hbl (HBX.out.of (hb.block _ HBX.out.lt))).mono ?_; rintro e W5 ⟨rfl, hb5⟩)
        go_ret
        exact ⟨by rw [hF.out, firstB_yes HX.out HPX.out]; rfl, hb.trans (hb5.mono hsz)⟩
    · obtain rfl : k = l.length := by omega
      go_wp2
      go_ret
      exact ⟨by rw [hF.out, firstB_end]; rfl, hb⟩
theorem contains99_any (L : HL) (h : House) (hbl : h.bs.length ≤ 1000) (b : Nat) (A : Option Addr) (c : Nat) (l : List Int) (hl : l.length ≤ 1000) (w : World) (hI : IntsAt w w.heap.size A l) (hB : HBox w b L h) :
    Calls Try.prog 160 #[.slice A l.length c, .func (.func 210) #[] #[.pointer (some ⟨b, 0, none⟩)]] w fun e w' => e = .returned (.bool (l.any (fun x => !inR x 0 (h.bs.length - 1)))) ∧ Below w.heap.size w w' := by
  rw [← firstB_any (fun x => !inR x 0 (h.bs.length - 1)) l 0]
  go_enter Try.func160, Try.ntmps160
  go_wp2_with (go_at_call 188; refine (index99_any L h hbl b A c l hl _ hI hB).mono ?_; rintro e w' ⟨rfl, hb⟩)
  go_ret
  exact ⟨rfl, hb⟩
theorem allTo_bad {p : Int × Int → Bool} {l : List (Int × Int)} {k : Nat} {x : Int × Int} (hx : l[k]? = some x) (hp : p x = false) : l.all p = false := by
  rw [List.all_eq_false]
  exact ⟨x, List.mem_of_getElem? hx, by simp [hp]⟩
theorem allTo_good {p : Int × Int → Bool} {l : List (Int × Int)} (h : ∀ j x, j < l.length → l[j]? = some x → p x = true) : l.all p = true := by
  rw [List.all_eq_true]
  intro x hx
  obtain ⟨j, hj⟩ := List.getElem?_of_mem hx
  exact h j x (List.getElem?_eq_some_iff.1 hj).1 hj
theorem allTo_step {p : Int × Int → Bool} {l : List (Int × Int)} {k : Nat} {x : Int × Int} (h : ∀ j x, j < k → l[j]? = some x → p x = true) (hx : l[k]? = some x) (hk : p x = true) : ∀ j x, j < k + 1 → l[j]? = some x → p x = true := by
  intro j y hj hy
  by_cases e : j = k
  · subst e; rw [hx] at hy; cases hy; exact hk
  · exact h j y (by omega) hy
theorem ckH_yes {h : House} (hv : validH h = true) : ckH h = 0 := by simp [ckH, hv]
theorem ckH_no {h : House} (hv : validH h = false) : ckH h = 80 := by simp [ckH, hv]
theorem validH_parts {h : House} (h0 : bigOK h = true) (h1 : h.ks.all kindOK = true) (h2 : h.ps.all (partOK h.ks.length) = true) : validH h = h.bs.all fun b => inR b 0 99 := by
  simp [validH, h0, h1, h2]
theorem any_not_all (l : List Int) (p : Int → Bool) : l.any (fun x => !p x) = !l.all p := by
  rw [Bool.eq_iff_iff]; simp

set_option maxRecDepth 100000 in
set_option maxHeartbeats 4000000 in
theorem check_no (L : HL) (h : House) (hn : h.ks.length ≤ 1000 ∧ h.ps.length ≤ 1000 ∧ h.bs.length ≤ 1000) (hv : bigOK h = false) (w : World) :
    Calls Try.prog 125 #[L.enc h] w fun e w' => e = .returned (.int .i64 (ckH h)) ∧ Below w.heap.size w w' := by
  obtain ⟨n1, n2, n3⟩ := hn
  have hv2 : ckH h = 80 := ckH_no (by simp [validH, hv])
  rw [hv2]
  clear hv2
  have hbw : Below w.heap.size w (w.alloc (.cells #[.slice L.Ak h.ks.length L.ck, .int .i64 h.fl, .slice L.Ap h.ps.length L.cp, .slice L.Ab h.bs.length L.cb] 27)) := (Below.refl _ _).alloc (Nat.le_refl _) _
  obtain ⟨Ak, ck, Ap, cp, Ab, cb⟩ := L
  by_cases k1 : h.ks.length ≤ 3
  · cases f1 : inR h.fl 0 9
    · clear hv
      go_enter Try.func125, Try.ntmps125
      go_wp2_with (go_at_call 171; refine (between_any _ _ _ _).mono ?_; rintro e w' ⟨rfl, rfl⟩)
      go_ret
      exact ⟨rfl, hbw⟩
    · by_cases p1 : h.ps.length ≤ 6
      · have b1 : 4 < h.bs.length := by
          have : ¬ h.bs.length ≤ 4 := fun hb => by simp [bigOK, k1, f1, p1, hb] at hv
          omega
        clear hv
        go_enter Try.func125, Try.ntmps125
        go_wp2_with (go_at_call 171; refine (between_any _ _ _ _).mono ?_; rintro e w' ⟨rfl, rfl⟩)
        go_ret
        exact ⟨rfl, hbw⟩
      · have p2 : 6 < h.ps.length := by omega
        clear hv p1
        go_enter Try.func125, Try.ntmps125
        go_wp2_with (go_at_call 171; refine (between_any _ _ _ _).mono ?_; rintro e w' ⟨rfl, rfl⟩)
        go_ret
        exact ⟨rfl, hbw⟩
  · have k2 : 3 < h.ks.length := by omega
    clear hv k1
    go_enter Try.func125, Try.ntmps125
    go_wp2_with (go_at_call 171; refine (between_any _ _ _ _).mono ?_; rintro e w' ⟨rfl, rfl⟩)
    go_ret
    exact ⟨rfl, hbw⟩

set_option maxRecDepth 100000 in
set_option maxHeartbeats 4000000 in
theorem check_yes (L : HL) (h : House) (hv : bigOK h = true) (w : World) (hH : HouseAt w w.heap.size L h) :
    Calls Try.prog 125 #[L.enc h] w fun e w' => e = .returned (.int .i64 (ckH h)) ∧ Below w.heap.size w w' := by
  have hv' := hv
  simp only [bigOK, Bool.and_eq_true, decide_eq_true_eq] at hv'
  obtain ⟨k1, f1, p1, b1⟩ := hv'
  have HV := Lib.hid hv
  have HH := Lib.hid hH
  clear hv hH
  obtain ⟨Ak, ck, Ap, cp, Ab, cb⟩ := L
  go_enter Try.func125, Try.ntmps125
  go_wp2_with (go_at_call 171; refine (between_any _ _ _ _).mono ?_; rintro e w' ⟨rfl, rfl⟩)
  clear f1
  go_loopw [32] (fun i wr => ∃ k : Nat, k ≤ h.ks.length ∧ i = .int .i64 k ∧ Hid (∀ j x, j < k → h.ks[j]? = some x → kindOK x = true) ∧ Below w.heap.size w wr ∧ HBox wr w.heap.size ⟨Ak, ck, Ap, cp, Ab, cb⟩ h) (fun i _ => h.ks.length - (intOf i).toNat)
  case atStart => exact ⟨0, Nat.zero_le _, rfl, Lib.hid (fun j x hj => by omega), (Below.refl _ _).alloc (Nat.le_refl _) _, HBox.new w ⟨Ak, ck, Ap, cp, Ab, cb⟩ h⟩
  case round =>
    obtain ⟨k, hk, rfl, hok, hb, hB⟩ := hrel
    have hsz := hb.size
    by_cases hlt : k < h.ks.length
    · obtain ⟨x, hx⟩ : ∃ x, h.ks[k]? = some x := ⟨_, List.getElem?_eq_getElem hlt⟩
      obtain ⟨bk, ok, rfl, hbk, d1, d2⟩ := HH.out.k.at_ hx
      have e1 := below_cell hb d1
      have e2 := below_cell hb d2
      have HX := Lib.hid hx
      clear hx d1 d2
      cases h1 : inR x.1 0 9
      · have hno : Hid (kindOK x = false) := Lib.hid (by rw [kindOK, h1]; rfl)
        go_wp2_with (go_at_call 171; refine (between_any _ _ _ _).mono ?_; rintro e w' ⟨rfl, rfl⟩)
        go_ret
        exact ⟨by rw [ckH_no (by simp [validH, allTo_bad HX.out hno.out])]; rfl, hb.alloc hsz _⟩
      · cases h2 : inR x.2 0 20
        · have hno : Hid (kindOK x = false) := Lib.hid (by rw [kindOK, h1, h2]; rfl)
          go_wp2_with (go_at_call 171; refine (between_any _ _ _ _).mono ?_; rintro e w' ⟨rfl, rfl⟩)
          go_ret
          exact ⟨by rw [ckH_no (by simp [validH, allTo_bad HX.out hno.out])]; rfl, hb.alloc hsz _⟩
        · have hyes : Hid (kindOK x = true) := Lib.hid (by rw [kindOK, h1, h2]; rfl)
          go_wp2_with (go_at_call 171; refine (between_any _ _ _ _).mono ?_; rintro e w' ⟨rfl, rfl⟩)
          go_roundw
          case rel => exact ⟨k + 1, by omega, by go_num, Lib.hid (allTo_step hok.out HX.out hyes.out), hb.alloc hsz _, hB.of (Below.heap_alloc _ _ _ hB.lt)⟩
          case measure => simp [intOf]; omega
    · obtain rfl : k = h.ks.length := by omega
      have hkall : Hid (h.ks.all kindOK = true) := Lib.hid (allTo_good hok.out)
      clear hok hlt hk
      obtain ⟨g0, g1, g2, g3⟩ := hB.cells
      go_wp2
      clear g0 g1 g2 g3
      obtain ⟨wo, rfl⟩ : ∃ wo : World, wo = wr := ⟨_, rfl⟩
      go_loopw [50] (fun i wr => ∃ k : Nat, k ≤ h.ps.length ∧ i = .int .i64 k ∧ Hid (∀ j x, j < k → h.ps[j]? = some x → partOK h.ks.length x = true) ∧ Below w.heap.size w wr ∧ HBox wr w.heap.size ⟨Ak, ck, Ap, cp, Ab, cb⟩ h) (fun i _ => h.ps.length - (intOf i).toNat)
      case atStart => exact ⟨0, Nat.zero_le _, rfl, Lib.hid (fun j x hj => by omega), hb, hB⟩
      case round =>
        clear hb hB hsz
        obtain ⟨k, hk, rfl, hok, hb, hB⟩ := hrel
        have hsz := hb.size
        obtain ⟨g0, g1, g2, g3⟩ := hB.cells
        have hlt0 : w.heap.size < wr.heap.size := hB.lt
        have hne0 : ¬ w.heap.size = wr.heap.size := by omega
        by_cases hlt : k < h.ps.length
        · obtain ⟨x, hx⟩ : ∃ x, h.ps[k]? = some x := ⟨_, List.getElem?_eq_getElem hlt⟩
          obtain ⟨bk, ok, rfl, hbk, d1, d2⟩ := HH.out.p.at_ hx
          have e1 := below_cell hb d1
          have e2 := below_cell hb d2
          have HX := Lib.hid hx
          clear hx d1 d2
          cases h1 : inR x.1 0 (h.ks.length - 1)
          · have hno : Hid (partOK h.ks.length x = false) := Lib.hid (by rw [partOK, h1]; rfl)
            go_wp2_with (go_at_call 171; refine (between_any _ _ _ _).mono ?_; rintro e w' ⟨rfl, rfl⟩)
            go_ret
            exact ⟨by rw [ckH_no (by simp [validH, allTo_bad HX.out hno.out])]; rfl, hb.alloc hsz _⟩
          · cases h2 : inR x.2 0 40
            · have hno : Hid (partOK h.ks.length x = false) := Lib.hid (by rw [partOK, h1, h2]; rfl)
              go_wp2_with (go_at_call 171; refine (between_any _ _ _ _).mono ?_; rintro e w' ⟨rfl, rfl⟩)
              go_ret
              exact ⟨by rw [ckH_no (by simp [validH, allTo_bad HX.out hno.out])]; rfl, hb.alloc hsz _⟩
            · have hyes : Hid (partOK h.ks.length x = true) := Lib.hid (by rw [partOK, h1, h2]; rfl)
              go_wp2_with (go_at_call 171; refine (between_any _ _ _ _).mono ?_; rintro e w' ⟨rfl, rfl⟩)
              go_roundw
              case rel => exact ⟨k + 1, by omega, by go_num, Lib.hid (allTo_step hok.out HX.out hyes.out), hb.alloc hsz _, hB.of (Below.heap_alloc _ _ _ hB.lt)⟩
              case measure => simp [intOf]; omega
        · obtain rfl : k = h.ps.length := by omega
          have hpall : Hid (h.ps.all (partOK h.ks.length) = true) := Lib.hid (allTo_good hok.out)
          have hI : IntsAt wr wr.heap.size Ab h.bs := (HH.out.b).keep hsz fun _ _ hlt => hb.cell (p := ⟨_, _, none⟩) hlt
          clear hok hlt hk
          cases ha : (h.bs.all fun b => inR b 0 99)
          · have ha2 : (h.bs.any fun x => !inR x 0 99) = true := by rw [any_not_all, ha]; rfl
            have HA := Lib.hid ha
            clear ha
            go_wp2_with (go_at_call 160; refine (contains78_any Ab cb h.bs (by omega) wr hI).mono ?_; rintro e W5 ⟨rfl, hb5⟩)
            go_ret
            exact ⟨by rw [ckH_no (by rw [validH_parts HV.out hkall.out hpall.out]; exact HA.out)]; rfl, hb.trans (hb5.mono hsz)⟩
          · have ha2 : (h.bs.any fun x => !inR x 0 99) = false := by rw [any_not_all, ha]; rfl
            have HA := Lib.hid ha
            clear ha
            go_wp2_with (go_at_call 160; refine (contains78_any Ab cb h.bs (by omega) wr hI).mono ?_; rintro e W5 ⟨rfl, hb5⟩)
            go_ret
            exact ⟨by rw [ckH_yes (by rw [validH_parts HV.out hkall.out hpall.out]; exact HA.out)]; rfl, hb.trans (hb5.mono hsz)⟩
theorem check_any (L : HL) (h : House) (hn : h.ks.length ≤ 1000 ∧ h.ps.length ≤ 1000 ∧ h.bs.length ≤ 1000) (w : World) (hH : HouseAt w w.heap.size L h) :
    Calls Try.prog 125 #[L.enc h] w fun e w' => e = .returned (.int .i64 (ckH h)) ∧ Below w.heap.size w w' := by
  cases hv : bigOK h
  · exact check_no L h hn hv w
  · exact check_yes L h hv w hH
theorem HOK.ofValid {h : House} (hv : validH h = true) : HOK h := by
  simp only [validH, bigOK, Bool.and_eq_true, decide_eq_true_eq, inR_true, List.all_eq_true] at hv
  obtain ⟨⟨k1, f1, p1, b1⟩, hk, hp, hb⟩ := hv
  refine ⟨k1, f1.1, f1.2, p1, b1, fun i x hx => ?_, fun i x hx => ?_, fun i x hx => hb x (List.mem_of_getElem? hx)⟩
  · have := hk x (List.mem_of_getElem? hx)
    simp only [kindOK, Bool.and_eq_true, inR_true] at this
    omega
  · have := hp x (List.mem_of_getElem? hx)
    simp only [partOK, Bool.and_eq_true, inR_true] at this
    omega
end Go.Proofs.Ytmbcpmnigggbaaa
namespace Go.Proofs.Ytmbcpmnigggbaaa
open Go.RowKit
/-! Plain lists: the parts of a barrel, its cask, and all lists with a barrel for each part. -/
def layAt (h : House) (c : Cask) (i : Int) : Cask := layC c (kindOf h (partOf h i.toNat)) (partOf h i.toNat)
/-- The cask with some parts. -/
def caskIn (h : House) (l : List Int) : Cask := l.foldl (layAt h) c0
theorem caskIn_snoc (h : House) (l : List Int) (i : Int) : caskIn h (l ++ [i]) = layAt h (caskIn h l) i := by simp [caskIn]
/-- The parts among the first k that are in a barrel. -/
def inTo (pack : List Int) (b : Int) : Nat → List Int
  | 0 => []
  | k + 1 => if barrelOf pack k = b then inTo pack b k ++ [(k : Int)] else inTo pack b k
def inOf (pack : List Int) (b : Int) : List Int := inTo pack b pack.length
theorem inTo_len (pack : List Int) (b : Int) : ∀ k, (inTo pack b k).length ≤ k
  | 0 => Nat.le_refl _
  | k + 1 => by
    have := inTo_len pack b k
    unfold inTo
    split
    · simp; omega
    · omega
theorem mem_inTo {pack : List Int} {b : Int} : ∀ {k : Nat} {i : Int}, i ∈ inTo pack b k ↔ ∃ j : Nat, i = (j : Int) ∧ j < k ∧ barrelOf pack j = b
  | 0, i => by simp [inTo]
  | k + 1, i => by
    unfold inTo
    split
    · rename_i hb
      rw [List.mem_append, mem_inTo]
      constructor
      · rintro (⟨j, h1, h2, h3⟩ | h)
        · exact ⟨j, h1, by omega, h3⟩
        · exact ⟨k, by simpa using h, by omega, hb⟩
      · rintro ⟨j, h1, h2, h3⟩
        by_cases e : j = k
        · right; subst e; simpa using h1
        · exact .inl ⟨j, h1, by omega, h3⟩
    · rename_i hb
      rw [mem_inTo]
      constructor
      · rintro ⟨j, h1, h2, h3⟩; exact ⟨j, h1, by omega, h3⟩
      · rintro ⟨j, h1, h2, h3⟩
        by_cases e : j = k
        · subst e; exact (hb h3).elim
        · exact ⟨j, h1, by omega, h3⟩

theorem casksTo_at (h : House) (pack : List Int) (b : Nat) (hb : b < 5) : ∀ k, (∀ j, j < k → -1 ≤ barrelOf pack j ∧ barrelOf pack j ≤ 4) → (casksTo h pack k).getD b c0 = caskIn h (inTo pack b k)
  | 0, _ => by
    simp only [casksTo, inTo, caskIn, List.foldl_nil]
    match b, hb with
    | 0, _ => rfl
    | 1, _ => rfl
    | 2, _ => rfl
    | 3, _ => rfl
    | 4, _ => rfl
  | k + 1, hr => by
    have ih := casksTo_at h pack b hb k (fun j hj => hr j (by omega))
    obtain ⟨r1, r2⟩ := hr k (by omega)
    unfold casksTo inTo
    by_cases hm : barrelOf pack k = -1
    · rw [if_pos hm, if_neg (by omega), ih]
    · rw [if_neg hm]
      by_cases hbb : barrelOf pack k = (b : Int)
      · rw [if_pos hbb, hbb, caskIn_snoc, ← ih]
        simp only [Int.toNat_natCast, List.getD]
        rw [List.getElem?_set_self (by rw [casksTo_len]; omega)]
        simp [layAt]
      · rw [if_neg hbb, ← ih]
        simp only [List.getD]
        rw [List.getElem?_set_ne (by omega)]

/-- All parts are parts of the house. -/
def PartsOK (h : House) (l : List Int) : Prop := ∀ i ∈ l, 0 ≤ i ∧ i < h.ps.length
theorem layAt_upto {h : House} (hv : HOK h) {c : Cask} {k : Nat} (hc : c.upto k) {i : Int} (hi : 0 ≤ i ∧ i < h.ps.length) : (layAt h c i).upto (k + 1) := by
  obtain ⟨kk, -, -, -, ⟨p2, p3⟩, k0, k1, k2, k3⟩ := hv.part (k := i.toNat) (by omega)
  obtain ⟨n0, n1, p0, p1, s0, s1, d0, d1⟩ := hc
  exact ⟨by simp only [layAt, layC]; omega, by simp only [layAt, layC]; omega, by simp only [layAt, layC]; omega, by simp only [layAt, layC]; omega, by simp only [layAt, layC]; omega, by simp only [layAt, layC]; omega, by simp only [layAt, layC]; omega, by simp only [layAt, layC]; omega⟩
theorem snoc_ind {α : Type} {P : List α → Prop} (h0 : P []) (h1 : ∀ l x, P l → P (l ++ [x])) (l : List α) : P l := by
  suffices h : ∀ l : List α, P l.reverse by simpa using h l.reverse
  intro l
  induction l with
  | nil => simpa using h0
  | cons x l ih => rw [List.reverse_cons]; exact h1 _ _ ih
theorem caskIn_upto {h : House} (hv : HOK h) (l : List Int) : PartsOK h l → (caskIn h l).upto l.length := by
  refine snoc_ind (P := fun l => PartsOK h l → (caskIn h l).upto l.length) ?_ ?_ l
  · intro _; exact ⟨by simp [caskIn, c0], by simp [caskIn, c0], by simp [caskIn, c0], by simp [caskIn, c0], by simp [caskIn, c0], by simp [caskIn, c0], by simp [caskIn, c0], by simp [caskIn, c0]⟩
  · intro l x ih hp
    rw [caskIn_snoc, List.length_append]
    exact layAt_upto hv (ih fun i hi => hp i (by simp [hi])) (hp x (by simp))
theorem inTo_parts {h : House} {pack : List Int} {b : Int} {k : Nat} (hk : k ≤ h.ps.length) : PartsOK h (inTo pack b k) := fun i hi => by
  obtain ⟨j, rfl, hj, -⟩ := mem_inTo.1 hi
  omega

/-- Pounds and salt of a barrel. -/
def needC (h : House) (l : List Int) : Int := (caskIn h l).p + saltC h.fl (caskIn h l)
/-- No barrel is over, with a list that may be too short. -/
def fitsR (h : House) (pack : List Int) : Bool := (List.range h.bs.length).all fun b => decide (needC h (inOf pack b) ≤ h.bs.getD b 0)
theorem fitsR_true {h : House} {pack : List Int} : fitsR h pack = true ↔ ∀ b, b < h.bs.length → needC h (inOf pack b) ≤ h.bs.getD b 0 := by
  simp [fitsR]

theorem cask_n (h : House) (l : List Int) : (caskIn h l).n = l.length :=
  snoc_ind (P := fun l => (caskIn h l).n = l.length) rfl (fun l x ih => by rw [caskIn_snoc, List.length_append]; simp only [layAt, layC, ih]; simp) l
/-- Nothing of a cask is less. -/
structure Cask.le (a b : Cask) : Prop where
  n : a.n ≤ b.n
  p : a.p ≤ b.p
  s : a.s ≤ b.s
  d : a.d ≤ b.d
theorem PartsOK.sub {h : House} {l l' : List Int} (hp : PartsOK h l') (hs : l.Sublist l') : PartsOK h l := fun i hi => hp i (hs.subset hi)
end Go.Proofs.Ytmbcpmnigggbaaa
namespace Go.Proofs.Ytmbcpmnigggbaaa
open Go.RowKit
attribute [local go_sem] Oper.semAt_some
theorem KpB.belowOf {S : Nat → Prop} {n B : Nat} {W W' : World} (h : KpB S n W W') (hB : B ≤ n) (hS : ∀ k, S k → B ≤ k) : Below B W W' := ⟨h.os, h.tape, h.output, h.size, fun k hk => h.block k (by omega) (fun hs => by have := hS k hs; omega)⟩
theorem packedC_ok {h : House} (hv : HOK h) (p : List Int) : ∀ (j : Nat) (c : Cask), (packedC h p)[j]? = some c → c.ok := fun j c hc => (casksTo_upto hv p _ (Nat.le_refl _) j c hc).ok (by have := hv.pl; omega)
theorem packedC_len (h : House) (p : List Int) : (packedC h p).length = 5 := casksTo_len _ _ _
theorem drew_below (w : World) : Below w.heap.size w w.drew := (Below.refl _ _).drew
theorem hb0to {w w1 w2 : World} (h : Below w.heap.size w w1) (k : Below w1.heap.size w1 w2) : Below w.heap.size w w2 := h.trans (k.mono h.size)
theorem extB_house {w x : World} {B : Nat} {L : HL} {h : House} (hh : HouseAt w B L h) (hB : B ≤ w.heap.size) : HouseAt (extB w x) (extB w x).heap.size L h :=
  hh.keep (Nat.le_trans hB (extB_below w x).size) fun b o hb => (extB_below w x).cell (p := ⟨b, o, none⟩) (by show b < w.heap.size; omega)
theorem heap_lt {W : World} {k : Nat} {o : Obj} (h : W.heap[k]? = some o) : k < W.heap.size := (Array.getElem?_eq_some_iff.1 h).1
/-! Salt, Good, Barrel. -/
theorem wp_region_extW {P : Program} {id : Nat} {Q : Exit → Act → World → Prop} {a : Act} {w : World} {L : List Oper} (hm : P.follows .mixedOrders = true) (hB : Region.lexB .any L.toArray = true)
    (h : wpQuiet P L.toArray (fun w' => ∃ x, w' = extB w x) (fun a' => ∀ w', (∃ x, w' = extB w x) → Q .normal a' w') L a) : (Code.region id L.toArray true).wp P Q a w := wp_region_ext hm hB h
/-- The cask in the block cb, of its own. -/
def CaskBox (W : World) (cb : Nat) (c : Cask) : Prop := W.heap[cb]? = some (.cells #[.int .i64 c.n, .int .i64 c.p, .int .i64 c.s, .int .i64 c.d] 167 (0, 0))
theorem CaskBox.at_ {W : World} {cb : Nat} {c : Cask} (h : CaskBox W cb c) : CaskAt W cb 0 c := by
  have h : W.heap[cb]? = some (.cells #[.int .i64 c.n, .int .i64 c.p, .int .i64 c.s, .int .i64 c.d] 167 (0, 0)) := h
  exact ⟨by simp [World.cell?, h], by simp [World.cell?, h], by simp [World.cell?, h], by simp [World.cell?, h]⟩
theorem CaskBox.lt {W : World} {cb : Nat} {c : Cask} (h : CaskBox W cb c) : cb < W.heap.size := heap_lt h
theorem CaskBox.frozen {W : World} {cb : Nat} {c : Cask} (h : CaskBox W cb c) (o : Nat) : W.frozen? ⟨cb, o, none⟩ = false := by simp [World.frozen?, show W.heap[cb]? = _ from h]
/-- Numbers from 0 to n - 1, strictly ascending. -/
def riseOK (l : List Int) (n : Int) (k : Nat) : Bool := inR (l.getD k 0) 0 (n - 1) && (k == 0 || decide (l.getD (k - 1) 0 < l.getD k 0))
def riseB (l : List Int) (n : Int) : Bool := (List.range l.length).all (riseOK l n)
theorem riseB_no {l : List Int} {n : Int} {k : Nat} (hk : k < l.length) (h : riseOK l n k = false) : riseB l n = false := by
  rw [riseB, List.all_eq_false]; exact ⟨k, List.mem_range.2 hk, by simp [h]⟩
theorem riseB_yes {l : List Int} {n : Int} (h : ∀ k, k < l.length → riseOK l n k = true) : riseB l n = true := by
  rw [riseB, List.all_eq_true]; exact fun k hk => h k (List.mem_range.1 hk)
theorem riseB_at {l : List Int} {n : Int} (h : riseB l n = true) {k : Nat} (hk : k < l.length) : riseOK l n k = true := List.all_eq_true.1 h k (List.mem_range.2 hk)
theorem riseB_in {l : List Int} {n : Int} (h : riseB l n = true) : ∀ i ∈ l, 0 ≤ i ∧ i < n := fun i hi => by
  obtain ⟨k, hk⟩ := List.getElem?_of_mem hi
  have h1 := riseB_at h (List.getElem?_eq_some_iff.1 hk).1
  simp only [riseOK, Bool.and_eq_true, inR_true, List.getD, hk, Option.getD_some] at h1
  omega
/-- A list is a packing. -/
def goodB (h : House) (pack : List Int) : Bool := decide (pack.length = h.ps.length) && (pack.all (fun b => inR b 0 (h.bs.length - 1)) && fitsC h (packedC h pack))
theorem any_not_all2 (l : List Int) (p : Int → Bool) : l.any (fun x => !p x) = !l.all p := by rw [Bool.eq_iff_iff]; simp
theorem packed_of_good (L : HL) (h : House) (hv : HOK h) (pack : List Int) (hl : pack.length = h.ps.length) (hr : pack.all (fun b => inR b 0 (h.bs.length - 1)) = true) (A : Option Addr) (c : Nat) (w : World)
    (hH : HouseAt w w.heap.size L h) (hP : IntsAt w w.heap.size A pack) :
    Calls Try.prog 175 #[L.enc h, .slice A pack.length c] w fun e w' => e = .returned (encCs (packedC h pack)) ∧ Below w.heap.size w w' :=
  packed_any L h hv pack hl (fun k b hb => by
    have := inR_true.1 (List.all_eq_true.1 hr b (List.mem_of_getElem? hb))
    have := hv.bl
    omega) A c w hH hP
set_option maxRecDepth 100000 in
set_option maxHeartbeats 4000000 in
theorem good_any (L : HL) (h : House) (hv : HOK h) (pack : List Int) (hl : pack.length ≤ 1000) (A : Option Addr) (c : Nat) (w : World) (hH : HouseAt w w.heap.size L h) (hI : IntsAt w w.heap.size A pack) :
    Calls Try.prog 201 #[L.enc h, .slice A pack.length c] w fun e w' => e = .returned (.bool (goodB h pack)) ∧ Below w.heap.size w w' := by
  have hb0 := (Below.refl _ _).alloc (Nat.le_refl w.heap.size) (.cells #[.slice L.Ak h.ks.length L.ck, .int .i64 h.fl, .slice L.Ap h.ps.length L.cp, .slice L.Ab h.bs.length L.cb] 27)
  have hX := HBox.new w L h
  have hbl := hv.bl
  have HX := Lib.hid hX
  have HB0 := Lib.hid hb0
  obtain ⟨g0, g1, g2, g3⟩ := hX.cells
  have e0 := extB_cell g0
  have e1 := extB_cell g1
  have e2 := extB_cell g2
  have e3 := extB_cell g3
  have HV := Lib.hid hv
  have hH1 := hH.below hb0
  have hI1 : IntsAt (w.alloc (.cells #[.slice L.Ak h.ks.length L.ck, .int .i64 h.fl, .slice L.Ap h.ps.length L.cp, .slice L.Ab h.bs.length L.cb] 27)) (w.alloc (.cells #[.slice L.Ak h.ks.length L.ck, .int .i64 h.fl, .slice L.Ap h.ps.length L.cp, .slice L.Ab h.bs.length L.cb] 27)).heap.size A pack := hI.keep hb0.size fun b o hlt => hb0.cell (p := ⟨b, o, none⟩) hlt
  have HH := Lib.hid hH1
  have HI := Lib.hid hI1
  obtain ⟨W1, hW1⟩ : ∃ W1, W1 = w.alloc (.cells #[.slice L.Ak h.ks.length L.ck, .int .i64 h.fl, .slice L.Ap h.ps.length L.cp, .slice L.Ab h.bs.length L.cb] 27) := ⟨_, rfl⟩
  rw [← hW1] at HX HB0 HH HI e0 e1 e2 e3
  have hIe : ∀ x, IntsAt (extB W1 x) (extB W1 x).heap.size A pack := fun x => HI.out.keep (extB_below W1 x).size fun b o hlt => (extB_below W1 x).cell (p := ⟨b, o, none⟩) hlt
  have HIE := Lib.hid hIe
  have HW := Lib.hid hW1
  clear hX hb0 g0 g1 g2 g3 hv hH hI hH1 hI1 hIe hW1
  by_cases hlen : pack.length = h.ps.length
  · have hd1 : ((pack.length : Int) == (h.ps.length : Int)) = true := by simp; omega
    have HLEN := Lib.hid hlen
    cases hall : pack.all (fun b => inR b 0 (h.bs.length - 1))
    · have hany : (pack.any fun x => !inR x 0 (h.bs.length - 1)) = true := by rw [any_not_all2, hall]; rfl
      have HANY := Lib.hid hany
      have HALL := Lib.hid hall
      clear hall hlen
      go_enter Try.func201, Try.ntmps201
      go_wp2
      rw [← HW.out]
      refine wp_region_extW (by kernel_rfl) (by kernel_rfl) ?_
      repeat (go_big_quiet_step (first
        | (go_at_call 160; exact ext_call (contains99_any L h (by omega) w.heap.size A c pack hl _ (HIE.out _) (HX.out.of ((extB_below W1 _).block _ HX.out.lt))))
        ))
      refine wpQuiet_nil ?_
      rintro _ ⟨x1, rfl⟩
      have hb8 := hb0to HB0.out (extB_below W1 x1)
      clear e0 e1 e2 e3
      go_wp2
      go_ret
      exact ⟨by rw [goodB, HALL.out]; simp, hb8⟩
    · have hany : (pack.any fun x => !inR x 0 (h.bs.length - 1)) = false := by rw [any_not_all2, hall]; rfl
      have HANY := Lib.hid hany
      have HALL := Lib.hid hall
      clear hall hlen
      have hg : goodB h pack = fitsC h (packedC h pack) := by rw [goodB, HALL.out, HLEN.out]; simp
      have HG := Lib.hid hg
      clear hg
      go_enter Try.func201, Try.ntmps201
      go_wp2
      rw [← HW.out]
      refine wp_region_extW (by kernel_rfl) (by kernel_rfl) ?_
      repeat (go_big_quiet_step (first
        | (go_at_call 160; exact ext_call (contains99_any L h (by omega) w.heap.size A c pack hl _ (HIE.out _) (HX.out.of ((extB_below W1 _).block _ HX.out.lt))))
        | (go_at_call 175; exact ext_call (packed_of_good L h HV.out pack HLEN.out HALL.out A c _ (extB_house HH.out (Nat.le_refl _)) (HIE.out _)))
        | (go_at_call 128; exact ext_call (fits_any L h HV.out _ (packedC_len h pack) (packedC_ok HV.out pack) _ (extB_house HH.out (Nat.le_refl _))))))
      refine wpQuiet_nil ?_
      rintro _ ⟨x1, rfl⟩
      have hb8 := hb0to HB0.out (extB_below W1 x1)
      clear e0 e1 e2 e3
      go_wp2
      go_ret
      exact ⟨by rw [HG.out]; rfl, hb8⟩
  · have hd1 : ((pack.length : Int) == (h.ps.length : Int)) = false := by simp; omega
    have HLEN := Lib.hid hlen
    clear hlen
    go_enter Try.func201, Try.ntmps201
    go_wp2
    rw [← HW.out]
    refine wp_region_extW (by kernel_rfl) (by kernel_rfl) ?_
    repeat (go_big_quiet_step (fail))
    refine wpQuiet_nil ?_
    rintro _ ⟨x1, rfl⟩
    have hb8 := hb0to HB0.out (extB_below W1 x1)
    clear e0 e1 e2 e3
    go_wp2
    go_ret
    exact ⟨by rw [goodB, decide_eq_false HLEN.out]; rfl, hb8⟩
def goodRet (h : House) (pack : List Int) : Bool × Int := if validH h = false then (false, 80) else (goodB h pack, 0)
set_option maxRecDepth 100000 in
set_option maxHeartbeats 4000000 in
theorem Good_any (L : HL) (h : House) (hn : h.ks.length ≤ 1000 ∧ h.ps.length ≤ 1000 ∧ h.bs.length ≤ 1000) (pack : List Int) (hl : pack.length ≤ 1000) (A : Option Addr) (c : Nat) (w : World) (hH : HouseAt w w.heap.size L h) (hI : IntsAt w w.heap.size A pack) :
    Calls Try.prog 181 #[L.enc h, .slice A pack.length c] w fun e w' => e = .returned (.tuple #[.bool (goodRet h pack).1, .int .i64 (goodRet h pack).2]) ∧ Below w.heap.size w w' := by
  have hbw := (Below.refl _ _).alloc (Nat.le_refl w.heap.size) (.cells #[.slice L.Ak h.ks.length L.ck, .int .i64 h.fl, .slice L.Ap h.ps.length L.cp, .slice L.Ab h.bs.length L.cb] 27)
  have HC := Lib.hid (check_any L h hn _ (hH.below hbw))
  have HB := Lib.hid (HBox.new w L h)
  have HBW := Lib.hid hbw
  have HH := Lib.hid hH
  have HI := Lib.hid hI
  clear hbw hH hI
  cases hv : validH h
  · have hk : ckH h = 80 := ckH_no hv
    have HV := Lib.hid hv
    clear hv
    go_enter Try.func181, Try.ntmps181
    go_wp2_with (go_at_call 125; refine HC.out.mono ?_; rintro e w1 ⟨rfl, hb1⟩)
    go_ret2
    exact ⟨by rw [goodRet, if_pos HV.out]; rfl, hb0to HBW.out hb1⟩
  · have hk : ckH h = 0 := ckH_yes hv
    have HV := Lib.hid (HOK.ofValid hv)
    have HV' := Lib.hid hv
    clear hv
    go_enter Try.func181, Try.ntmps181
    go_wp2_with (first
      | (go_at_call 125; refine HC.out.mono ?_; rintro e w1 ⟨rfl, hb1⟩; obtain ⟨g0, g1, g2, g3⟩ := (HB.out.of (hb1.block _ HB.out.lt)).cells)
      | (go_at_call 201; refine (good_any L h HV.out pack hl A c _ (HH.out.below (hb0to HBW.out hb1)) (HI.out.keep (hb0to HBW.out hb1).size fun b o hlt => (hb0to HBW.out hb1).cell (p := ⟨b, o, none⟩) hlt)).mono ?_; rintro e w2 ⟨rfl, hb2⟩))
    go_ret2
    exact ⟨by rw [goodRet, if_neg (by rw [HV'.out]; decide)]; rfl, hb0to HBW.out (hb0to hb1 hb2)⟩
/-- What Barrel returns: pounds, salt, days, the error. -/
def barrelRet (h : House) (pack : List Int) (b : Int) : Int × Int × Int × Int :=
  if validH h = false then (0, 0, 0, 80) else if (goodB h pack && inR b 0 (h.bs.length - 1)) = false then (0, 0, 0, 1) else
    ((caskOf (packedC h pack) b.toNat).p, saltC h.fl (caskOf (packedC h pack) b.toNat), (caskOf (packedC h pack) b.toNat).d, 0)
set_option maxRecDepth 100000 in
set_option maxHeartbeats 4000000 in
theorem barrel_any (L : HL) (h : House) (hn : h.ks.length ≤ 1000 ∧ h.ps.length ≤ 1000 ∧ h.bs.length ≤ 1000) (pack : List Int) (hl : pack.length ≤ 1000) (b : Int) (A : Option Addr) (c : Nat) (w : World) (hH : HouseAt w w.heap.size L h) (hI : IntsAt w w.heap.size A pack) :
    Calls Try.prog 182 #[L.enc h, .slice A pack.length c, .int .i64 b] w fun e w' => e = .returned (.tuple #[.int .i64 (barrelRet h pack b).1, .int .i64 (barrelRet h pack b).2.1, .int .i64 (barrelRet h pack b).2.2.1, .int .i64 (barrelRet h pack b).2.2.2]) ∧ Below w.heap.size w w' := by
  have hbw := (Below.refl _ _).alloc (Nat.le_refl w.heap.size) (.cells #[.slice L.Ak h.ks.length L.ck, .int .i64 h.fl, .slice L.Ap h.ps.length L.cp, .slice L.Ab h.bs.length L.cb] 27)
  have HC := Lib.hid (check_any L h hn _ (hH.below hbw))
  have HB := Lib.hid (HBox.new w L h)
  have HBW := Lib.hid hbw
  have HH := Lib.hid hH
  have HI := Lib.hid hI
  have hIk : ∀ W, Below w.heap.size w W → IntsAt W W.heap.size A pack := fun W hW => HI.out.keep hW.size fun b o hlt => hW.cell (p := ⟨b, o, none⟩) hlt
  have HIK := Lib.hid hIk
  clear hbw hH hI hIk
  cases hv : validH h
  · have hk : ckH h = 80 := ckH_no hv
    have HV := Lib.hid hv
    clear hv
    go_enter Try.func182, Try.ntmps182
    go_wp2_with (go_at_call 125; refine HC.out.mono ?_; rintro e w1 ⟨rfl, hb1⟩)
    refine bodyPost_ret (v := .tuple #[.int .i64 0, .int .i64 0, .int .i64 0, .int .i64 80]) (by simp [results, Try.results182, go_sem]) rfl ⟨by rw [barrelRet, if_pos HV.out], hb0to HBW.out hb1⟩
  · have hk : ckH h = 0 := ckH_yes hv
    have HV := Lib.hid (HOK.ofValid hv)
    have HV' := Lib.hid hv
    clear hv
    cases hg : goodB h pack
    · have HG := Lib.hid hg
      go_enter Try.func182, Try.ntmps182
      go_wp2_with (first
        | (go_at_call 125; refine HC.out.mono ?_; rintro e w1 ⟨rfl, hb1⟩; obtain ⟨g0, g1, g2, g3⟩ := (HB.out.of (hb1.block _ HB.out.lt)).cells)
        | (go_at_call 201; refine (good_any L h HV.out pack hl A c _ (HH.out.below (hb0to HBW.out hb1)) (HIK.out _ (hb0to HBW.out hb1))).mono ?_; rintro e w2 ⟨rfl, hb2⟩))
      refine bodyPost_ret (v := .tuple #[.int .i64 0, .int .i64 0, .int .i64 0, .int .i64 1]) (by simp [results, Try.results182, go_sem]) rfl ⟨by rw [barrelRet, if_neg (by rw [HV'.out]; decide), HG.out]; rfl, hb0to HBW.out (hb0to hb1 hb2)⟩
    · have HG := Lib.hid hg
      have hb1000 := hn.2.2
      cases hr : inR b 0 (h.bs.length - 1)
      · have HR := Lib.hid hr
        go_enter Try.func182, Try.ntmps182
        go_wp2_with (first
          | (go_at_call 125; refine HC.out.mono ?_; rintro e w1 ⟨rfl, hb1⟩; obtain ⟨g0, g1, g2, g3⟩ := (HB.out.of (hb1.block _ HB.out.lt)).cells)
          | (go_at_call 201; refine (good_any L h HV.out pack hl A c _ (HH.out.below (hb0to HBW.out hb1)) (HIK.out _ (hb0to HBW.out hb1))).mono ?_; rintro e w2 ⟨rfl, hb2⟩; have x0 := below_cell hb2 g0; have x1 := below_cell hb2 g1; have x2 := below_cell hb2 g2; have x3 := below_cell hb2 g3)
          | (go_at_call 202; refine (isBarrel_any L h _ _ hb1000).mono ?_; rintro e w3 ⟨rfl, hb3⟩))
        refine bodyPost_ret (v := .tuple #[.int .i64 0, .int .i64 0, .int .i64 0, .int .i64 1]) (by simp [results, Try.results182, go_sem]) rfl ⟨by rw [barrelRet, if_neg (by rw [HV'.out]; decide), HG.out, HR.out]; rfl, hb0to HBW.out (hb0to hb1 (hb0to hb2 hb3))⟩
      · obtain ⟨hb0, hbl⟩ := inR_true.1 hr
        obtain ⟨bn, rfl⟩ : ∃ bn : Nat, b = (bn : Int) := ⟨b.toNat, by omega⟩
        have hb5 : bn < 5 := by have := HV.out.bl; omega
        have HR := Lib.hid hr
        have hl5 := packedC_len h pack
        have hix := index81 hl5 hb5
        have hgl : pack.length = h.ps.length ∧ pack.all (fun b => inR b 0 (h.bs.length - 1)) = true := by
          simp only [goodB, Bool.and_eq_true, decide_eq_true_eq] at hg
          exact ⟨hg.1, hg.2.1⟩
        have HGL := Lib.hid hgl
        have hcok := packedC_ok HV.out pack bn _ (at_caskOf (by omega))
        have HCK := Lib.hid hcok
        have HF0 := Lib.hid (And.intro HV.out.f0 HV.out.f1)
        have hbr : barrelRet h pack bn = ((caskOf (packedC h pack) bn).p, saltC h.fl (caskOf (packedC h pack) bn), (caskOf (packedC h pack) bn).d, 0) := by
          rw [barrelRet, if_neg (by rw [HV'.out]; decide), HG.out, HR.out, if_neg (by decide), Int.toNat_natCast]
        have HBR := Lib.hid hbr
        clear hgl hl5 hcok hbr hb0 hbl
        go_enter Try.func182, Try.ntmps182
        go_wp2_with (first
          | (go_at_call 125; refine HC.out.mono ?_; rintro e w1 ⟨rfl, hb1⟩; obtain ⟨g0, g1, g2, g3⟩ := (HB.out.of (hb1.block _ HB.out.lt)).cells)
          | (go_at_call 201; refine (good_any L h HV.out pack hl A c _ (HH.out.below (hb0to HBW.out hb1)) (HIK.out _ (hb0to HBW.out hb1))).mono ?_; rintro e w2 ⟨rfl, hb2⟩; have x0 := below_cell hb2 g0; have x1 := below_cell hb2 g1; have x2 := below_cell hb2 g2; have x3 := below_cell hb2 g3)
          | (go_at_call 202; refine (isBarrel_any L h _ _ hb1000).mono ?_; rintro e w3 ⟨rfl, hb3⟩; have y0 := below_cell hb3 x0; have y1 := below_cell hb3 x1; have y2 := below_cell hb3 x2; have y3 := below_cell hb3 x3)
          | (go_at_call 175; refine (packed_of_good L h HV.out pack HGL.out.1 HGL.out.2 A c _ (HH.out.below (hb0to HBW.out (hb0to hb1 (hb0to hb2 hb3)))) (HIK.out _ (hb0to HBW.out (hb0to hb1 (hb0to hb2 hb3))))).mono ?_; rintro e w4 ⟨rfl, hb4⟩))
        have z1 := below_cell hb4 y1
        have hcb : CaskBox (w4.alloc (.cells #[.int .i64 (caskOf (packedC h pack) bn).n, .int .i64 (caskOf (packedC h pack) bn).p, .int .i64 (caskOf (packedC h pack) bn).s, .int .i64 (caskOf (packedC h pack) bn).d] 167)) w4.heap.size (caskOf (packedC h pack) bn) := World.alloc_heap_new w4 _
        obtain ⟨r0, r1, r2, r3⟩ := hcb.at_
        simp only [Nat.zero_add] at r1 r2 r3
        have z2 := below_cell ((Below.refl _ w4).alloc (Nat.le_refl _) (.cells #[.int .i64 (caskOf (packedC h pack) bn).n, .int .i64 (caskOf (packedC h pack) bn).p, .int .i64 (caskOf (packedC h pack) bn).s, .int .i64 (caskOf (packedC h pack) bn).d] 167)) z1
        have hbz := hb0to HBW.out (hb0to hb1 (hb0to hb2 (hb0to hb3 (hb0to hb4 ((Below.refl _ w4).alloc (Nat.le_refl _) (.cells #[.int .i64 (caskOf (packedC h pack) bn).n, .int .i64 (caskOf (packedC h pack) bn).p, .int .i64 (caskOf (packedC h pack) bn).s, .int .i64 (caskOf (packedC h pack) bn).d] 167))))))
        obtain ⟨W5, hW5⟩ : ∃ W5, w4.alloc (.cells #[.int .i64 (caskOf (packedC h pack) bn).n, .int .i64 (caskOf (packedC h pack) bn).p, .int .i64 (caskOf (packedC h pack) bn).s, .int .i64 (caskOf (packedC h pack) bn).d] 167) = W5 := ⟨_, rfl⟩
        rw [hW5] at r0 r1 r2 r3 z2 hbz ⊢
        have e0 := extB_cell r0
        have e1 := extB_cell r1
        have e2 := extB_cell r2
        have e3 := extB_cell r3
        have e4 := extB_cell z2
        clear hW5 hcb r0 r1 r2 r3 z1 z2 y0 y1 y2 y3 x0 x1 x2 x3 g0 g1 g2 g3
        refine wp_region_extW (by kernel_rfl) (by kernel_rfl) ?_
        repeat (go_big_quiet_step ((go_at_call 129; exact ext_call (saltC_any _ h.fl HCK.out HF0.out _))))
        refine wpQuiet_nil ?_
        rintro _ ⟨x1, rfl⟩
        have hb8 := extB_below W5 x1
        clear e0 e1 e2 e3 e4
        go_wp2
        refine bodyPost_ret (v := .tuple #[.int .i64 (caskOf (packedC h pack) bn).p, .int .i64 (saltC h.fl (caskOf (packedC h pack) bn)), .int .i64 (caskOf (packedC h pack) bn).d, .int .i64 0]) (by simp [results, Try.results182, go_sem]) rfl ⟨by rw [HBR.out], hb0to hbz hb8⟩
end Go.Proofs.Ytmbcpmnigggbaaa
namespace Go.Proofs.Ytmbcpmnigggbaaa
open Go.RowKit
theorem take_snoc_next {α : Type} {l : List α} {k : Nat} {x : α} (h : l[k]? = some x) : l.take k ++ [x] = l.take (k + 1) := by
  obtain ⟨hk2, e⟩ := List.getElem?_eq_some_iff.1 h
  subst e
  rw [← List.take_succ_eq_append_getElem hk2]
/-! The specification: what is valid, sums, parts of a barrel. -/
theorem below_drewN {B : Nat} {W W' : World} (h : Below B W W') (m : Nat) : Below B W (W'.drewN m) := ⟨h.os, h.tape, h.output, h.size, h.block⟩
theorem HBox.drewN {W : World} {b : Nat} {L : HL} {h : House} (H : HBox W b L h) (m : Nat) : HBox (W.drewN m) b L h := H
theorem within1_any (n lo hi : Int) (w : World) : Calls Try.prog 28 #[.int .i64 n, .int .i64 lo, .int .i64 hi] w fun e w' => e = .returned (.bool (inR n lo hi)) ∧ w = w' := by
  by_cases h : lo ≤ n <;> by_cases h2 : n ≤ hi
  all_goals
    have e : inR n lo hi = (decide (lo ≤ n) && decide (n ≤ hi)) := rfl
    have E := Lib.hid e
    clear e
    go_enter Try.func28, Try.ntmps28
    go_wp2
    go_ret
    exact ⟨by rw [E.out]; simp <;> omega, rfl⟩
theorem within_any (n lo hi : Int) (w : World) : Calls Try.prog 57 #[.int .i64 n, .int .i64 lo, .int .i64 hi] w fun e w' => e = .returned (.bool (inR n lo hi)) ∧ w = w' := by
  go_enter Try.func57, Try.ntmps57
  go_wp2_with (go_at_call 28; refine (within1_any _ _ _ _).mono ?_; rintro e w' ⟨rfl, rfl⟩)
  go_ret
  exact ⟨rfl, rfl⟩
theorem rIsBarrel_any (L : HL) (h : House) (k : Int) (w : World) (hn : h.bs.length ≤ 1000) : Calls Try.prog 136 #[L.enc h, .int .i64 k] w fun e w' => e = .returned (.bool (inR k 0 (h.bs.length - 1))) ∧ Below w.heap.size w w' := by
  go_enter Try.func136, Try.ntmps136
  go_wp2_with (go_at_call 57; refine (within_any _ _ _ _).mono ?_; rintro e w' ⟨rfl, rfl⟩)
  go_ret
  exact ⟨rfl, (Below.refl _ _).alloc (Nat.le_refl _) _⟩
/-- One part more of a list. -/
theorem take_step {l : List Int} {k : Nat} {x : Int} (h : l[k]? = some x) : l.take (k + 1) = l.take k ++ [x] := (take_snoc_next h).symm
theorem caskIn_take {h : House} (hv : HOK h) {l : List Int} (hp : PartsOK h l) {k : Nat} (hk : k ≤ l.length) : (caskIn h (l.take k)).upto k := by
  have := caskIn_upto hv (l.take k) (fun i hi => hp i (List.mem_of_mem_take hi))
  rwa [show (l.take k).length = k by simp; omega] at this
set_option maxRecDepth 100000 in
set_option maxHeartbeats 4000000 in
theorem pounds_any (L : HL) (h : House) (hv : HOK h) (l : List Int) (hl : l.length ≤ 100) (hp : PartsOK h l) (A : Option Addr) (c : Nat) (w : World) (hH : HouseAt w w.heap.size L h) (hI : IntsAt w w.heap.size A l) :
    Calls Try.prog 179 #[L.enc h, .slice A l.length c] w fun e w' => e = .returned (.int .i64 (caskIn h l).p) ∧ Below w.heap.size w w' := by
  have HH := Lib.hid hH
  have HI := Lib.hid hI
  have HV := Lib.hid hv
  have HP := Lib.hid hp
  have hpl6 := hv.pl
  clear hH hI hv hp
  go_enter Try.func179, Try.ntmps179
  go_wp2
  go_loopw [5, 6] (fun n i wr => ∃ k : Nat, k ≤ l.length ∧ i = .int .i64 k ∧ n = .int .i64 (caskIn h (l.take k)).p ∧ Below w.heap.size w wr ∧ HBox wr w.heap.size L h) (fun _ i _ => l.length - (intOf i).toNat)
  case atStart => exact ⟨0, Nat.zero_le _, rfl, rfl, (Below.refl _ _).alloc (Nat.le_refl _) _, HBox.new w L h⟩
  case round =>
    obtain ⟨k, hk, rfl, rfl, hb, hB⟩ := hrel
    obtain ⟨g0, g1, g2, g3⟩ := hB.cells
    have hup := caskIn_take HV.out HP.out hk
    have hu0 := hup.p0
    have hu1 := hup.p1
    by_cases hlt : k < l.length
    · obtain ⟨x, hx⟩ : ∃ x, l[k]? = some x := ⟨_, List.getElem?_eq_getElem hlt⟩
      obtain ⟨b1, o1, rfl, b1lt, d1⟩ := HI.out.at_ hx
      have e1 := below_cell hb d1
      obtain ⟨x0, x1⟩ := HP.out x (List.mem_of_getElem? hx)
      obtain ⟨xn, rfl⟩ : ∃ xn : Nat, x = (xn : Int) := ⟨x.toNat, by omega⟩
      have hxn : xn < h.ps.length := by omega
      obtain ⟨kk, p1, p2, p3, ⟨p4, p5⟩, _⟩ := HV.out.part hxn
      obtain ⟨b2, o2, e2, _, q1, q2⟩ := HH.out.p.at_ p1
      have f2 := below_cell hb q2
      have HX := Lib.hid (take_step hx)
      have hki : (k : Int) < l.length := by omega
      have hk0 : (0 : Int) ≤ (k : Int) := by omega
      have hxi : (xn : Int) < h.ps.length := by omega
      have hx0 : (0 : Int) ≤ (xn : Int) := by omega
      have hnx : (caskIn h (l.take (k + 1))).p = (caskIn h (l.take k)).p + (partOf h xn).2 := by rw [HX.out, caskIn_snoc]; simp [layAt, layC]
      have HNX := Lib.hid hnx
      rw [e2] at g2
      clear hx p1 p2 p3 q1 d1 hnx
      go_wp2
      go_quiet (fail)
      go_wp2
      go_roundw
      case rel => exact ⟨k + 1, by omega, by go_num, by rw [HNX.out], below_drewN hb _, hB.drewN _⟩
      case measure => simp [intOf]; omega
    · obtain rfl : k = l.length := by omega
      have HL' : Hid ((caskIn h (l.take l.length)).p = (caskIn h l).p) := Lib.hid (by rw [List.take_length])
      go_wp2
      go_ret
      exact ⟨by rw [← HL'.out]; rfl, hb⟩
theorem salt_eq {h : House} {l : List Int} (hl : l ≠ []) : saltC h.fl (caskIn h l) = h.fl + ((caskIn h l).p * (caskIn h l).s + 9) / 10 := by
  have : ¬ (caskIn h l).n = 0 := by
    rw [cask_n]
    have := List.length_pos_iff.2 hl
    omega
  rw [saltC, if_neg this]
theorem salt_nil {h : House} : saltC h.fl (caskIn h []) = 0 := by simp [saltC, caskIn, c0]
set_option maxRecDepth 100000 in
set_option maxHeartbeats 4000000 in
theorem saltOf_any (L : HL) (h : House) (hv : HOK h) (l : List Int) (hl : l.length ≤ 100) (hp : PartsOK h l) (A : Option Addr) (c : Nat) (w : World) (hH : HouseAt w w.heap.size L h) (hI : IntsAt w w.heap.size A l) :
    Calls Try.prog 180 #[L.enc h, .slice A l.length c] w fun e w' => e = .returned (.int .i64 (saltC h.fl (caskIn h l))) ∧ Below w.heap.size w w' := by
  have HH := Lib.hid hH
  have HI := Lib.hid hI
  have HV := Lib.hid hv
  have HP := Lib.hid hp
  have hpl6 := hv.pl
  have hf0 := hv.f0
  have hf1 := hv.f1
  clear hH hI hv hp
  rcases Nat.eq_zero_or_pos l.length with hz | hz
  · have hd : ((l.length : Int) == 0) = true := beq_iff_eq.2 (by omega)
    have HZ := Lib.hid hz
    clear hz
    go_enter Try.func180, Try.ntmps180
    go_wp2
    go_ret
    have : l = [] := List.eq_nil_of_length_eq_zero HZ.out
    exact ⟨by subst this; rw [salt_nil]; rfl, (Below.refl _ _).alloc (Nat.le_refl _) _⟩
  · have hd : ((l.length : Int) == 0) = false := beq_eq_false_iff_ne.2 (by omega)
    have hne : Hid (l ≠ []) := Lib.hid (List.length_pos_iff.1 hz)
    go_enter Try.func180, Try.ntmps180
    go_wp2
    go_loopw [5, 6] (fun n i wr => ∃ k : Nat, k ≤ l.length ∧ i = .int .i64 k ∧ n = .int .i64 (caskIn h (l.take k)).s ∧ Below w.heap.size w wr ∧ HBox wr w.heap.size L h) (fun _ i _ => l.length - (intOf i).toNat)
    case atStart => exact ⟨0, Nat.zero_le _, rfl, rfl, (Below.refl _ _).alloc (Nat.le_refl _) _, HBox.new w L h⟩
    case round =>
      obtain ⟨k, hk, rfl, rfl, hb, hB⟩ := hrel
      obtain ⟨g0, g1, g2, g3⟩ := hB.cells
      have hup := caskIn_take HV.out HP.out hk
      have hu0 := hup.s0
      have hu1 := hup.s1
      by_cases hlt : k < l.length
      · obtain ⟨x, hx⟩ : ∃ x, l[k]? = some x := ⟨_, List.getElem?_eq_getElem hlt⟩
        obtain ⟨b1, o1, rfl, b1lt, d1⟩ := HI.out.at_ hx
        have e1 := below_cell hb d1
        obtain ⟨x0, x1⟩ := HP.out x (List.mem_of_getElem? hx)
        obtain ⟨xn, rfl⟩ : ∃ xn : Nat, x = (xn : Int) := ⟨x.toNat, by omega⟩
        have hxn : xn < h.ps.length := by omega
        obtain ⟨kk, p1, p2, p3, ⟨p4, p5⟩, k0, k1, _⟩ := HV.out.part hxn
        obtain ⟨b2, o2, e2, _, q1, q2⟩ := HH.out.p.at_ p1
        obtain ⟨b3, o3, e3, _, r1, r2⟩ := HH.out.k.at_ p3
        rw [p2] at q1
        have f1 := below_cell hb q1
        have f3 := below_cell hb r1
        have hkk : kk < h.ks.length := (List.getElem?_eq_some_iff.1 p3).1
        have HX := Lib.hid (take_step hx)
        have hki : (k : Int) < l.length := by omega
        have hk0 : (0 : Int) ≤ (k : Int) := by omega
        have hxi : (xn : Int) < h.ps.length := by omega
        have hx0 : (0 : Int) ≤ (xn : Int) := by omega
        have hkki : (kk : Int) < h.ks.length := by omega
        have hkk0 : (0 : Int) ≤ (kk : Int) := by omega
        have hnx : (caskIn h (l.take (k + 1))).s = max (caskIn h (l.take k)).s (kindOf h (partOf h xn)).1 := by rw [HX.out, caskIn_snoc]; simp [layAt, layC]
        have HNX := Lib.hid hnx
        rw [e2] at g2
        rw [e3] at g0
        clear hx p1 p2 p3 q1 q2 r1 r2 d1 hnx e2 e3
        go_wp2
        go_quiet (fail)
        go_wp2
        go_roundw
        case rel => exact ⟨k + 1, by omega, by go_num, by rw [HNX.out]; congr 1; simp only [Int.max_def]; split <;> split <;> omega, below_drewN hb _, hB.drewN _⟩
        case measure => simp [intOf]; omega
      · obtain rfl : k = l.length := by omega
        have HL' : Hid (caskIn h (l.take l.length) = caskIn h l) := Lib.hid (by rw [List.take_length])
        rw [HL'.out] at hu0 hu1 ⊢
        have hup2 := caskIn_upto HV.out l HP.out
        have hp0 := hup2.p0
        have hp1 := hup2.p1
        have hps : 0 ≤ (caskIn h l).p * (caskIn h l).s := Int.mul_nonneg hp0 hu0
        have hps2 : (caskIn h l).p * (caskIn h l).s ≤ 10000 * 9 := Int.mul_le_mul (by omega) hu1 hu0 (by omega)
        have e0 := extB_cell g0
        have e1 := extB_cell g1
        have e2 := extB_cell g2
        have e3 := extB_cell g3
        clear hup hup2
        go_wp2
        refine wp_region_extW (by kernel_rfl) (by kernel_rfl) ?_
        repeat (go_big_quiet_step ((go_at_call 179; exact ext_call (pounds_any L h HV.out l hl HP.out A c _ (extB_house (HH.out.below hb) (Nat.le_refl _)) (HI.out.keep (Nat.le_trans hb.size (extB_below wr _).size) fun b o hlt => by exact ((extB_below wr _).cell (p := ⟨b, o, none⟩) (by have := hb.size; show b < wr.heap.size; omega)).trans (hb.cell (p := ⟨b, o, none⟩) hlt))))))
        refine wpQuiet_nil ?_
        rintro _ ⟨x1, rfl⟩
        have hb8 := extB_below wr x1
        clear e0 e1 e2 e3
        go_wp2
        go_ret
        exact ⟨by rw [salt_eq hne.out]; rfl, hb0to hb hb8⟩
set_option maxRecDepth 100000 in
set_option maxHeartbeats 4000000 in
theorem daysOf_any (L : HL) (h : House) (hv : HOK h) (l : List Int) (hl : l.length ≤ 100) (hp : PartsOK h l) (A : Option Addr) (c : Nat) (w : World) (hH : HouseAt w w.heap.size L h) (hI : IntsAt w w.heap.size A l) :
    Calls Try.prog 146 #[L.enc h, .slice A l.length c] w fun e w' => e = .returned (.int .i64 (caskIn h l).d) ∧ Below w.heap.size w w' := by
  have HH := Lib.hid hH
  have HI := Lib.hid hI
  have HV := Lib.hid hv
  have HP := Lib.hid hp
  have hpl6 := hv.pl
  clear hH hI hv hp
  go_enter Try.func146, Try.ntmps146
  go_wp2
  go_loopw [5, 6] (fun n i wr => ∃ k : Nat, k ≤ l.length ∧ i = .int .i64 k ∧ n = .int .i64 (caskIn h (l.take k)).d ∧ Below w.heap.size w wr ∧ HBox wr w.heap.size L h) (fun _ i _ => l.length - (intOf i).toNat)
  case atStart => exact ⟨0, Nat.zero_le _, rfl, rfl, (Below.refl _ _).alloc (Nat.le_refl _) _, HBox.new w L h⟩
  case round =>
    obtain ⟨k, hk, rfl, rfl, hb, hB⟩ := hrel
    obtain ⟨g0, g1, g2, g3⟩ := hB.cells
    have hup := caskIn_take HV.out HP.out hk
    have hu0 := hup.d0
    have hu1 := hup.d1
    by_cases hlt : k < l.length
    · obtain ⟨x, hx⟩ : ∃ x, l[k]? = some x := ⟨_, List.getElem?_eq_getElem hlt⟩
      obtain ⟨b1, o1, rfl, b1lt, d1⟩ := HI.out.at_ hx
      have e1 := below_cell hb d1
      obtain ⟨x0, x1⟩ := HP.out x (List.mem_of_getElem? hx)
      obtain ⟨xn, rfl⟩ : ∃ xn : Nat, x = (xn : Int) := ⟨x.toNat, by omega⟩
      have hxn : xn < h.ps.length := by omega
      obtain ⟨kk, p1, p2, p3, ⟨p4, p5⟩, _, _, k0, k1⟩ := HV.out.part hxn
      obtain ⟨b2, o2, e2, _, q1, q2⟩ := HH.out.p.at_ p1
      obtain ⟨b3, o3, e3, _, r1, r2⟩ := HH.out.k.at_ p3
      rw [p2] at q1
      have f1 := below_cell hb q1
      have f3 := below_cell hb r2
      have hkk : kk < h.ks.length := (List.getElem?_eq_some_iff.1 p3).1
      have HX := Lib.hid (take_step hx)
      have hki : (k : Int) < l.length := by omega
      have hk0 : (0 : Int) ≤ (k : Int) := by omega
      have hxi : (xn : Int) < h.ps.length := by omega
      have hx0 : (0 : Int) ≤ (xn : Int) := by omega
      have hkki : (kk : Int) < h.ks.length := by omega
      have hkk0 : (0 : Int) ≤ (kk : Int) := by omega
      have hnx : (caskIn h (l.take (k + 1))).d = max (caskIn h (l.take k)).d (kindOf h (partOf h xn)).2 := by rw [HX.out, caskIn_snoc]; simp [layAt, layC]
      have HNX := Lib.hid hnx
      rw [e2] at g2
      rw [e3] at g0
      clear hx p1 p2 p3 q1 q2 r1 r2 d1 hnx e2 e3
      go_wp2
      go_quiet (fail)
      go_wp2
      go_roundw
      case rel => exact ⟨k + 1, by omega, by go_num, by rw [HNX.out]; congr 1; simp only [Int.max_def]; split <;> split <;> omega, below_drewN hb _, hB.drewN _⟩
      case measure => simp [intOf]; omega
    · obtain rfl : k = l.length := by omega
      have HL' : Hid ((caskIn h (l.take l.length)).d = (caskIn h l).d) := Lib.hid (by rw [List.take_length])
      go_wp2
      go_ret
      exact ⟨by rw [← HL'.out]; rfl, hb⟩
/-! The specification: In, fits, IsPacking, sums over all barrels. -/
theorem ints_later {w W : World} {A : Option Addr} {l : List Int} (hI : IntsAt w w.heap.size A l) (hb : Below w.heap.size w W) : IntsAt W W.heap.size A l := hI.keep hb.size fun b o hlt => hb.cell (p := ⟨b, o, none⟩) hlt
def RowRet (l : List Int) (B : Nat) (w' : World) (e : Ending) : Prop := ∃ v, e = .returned v ∧ Ints w' B v l
theorem inTo_yes {pack : List Int} {b : Int} {k : Nat} (h : barrelOf pack k = b) : inTo pack b (k + 1) = inTo pack b k ++ [(k : Int)] := if_pos h
theorem inTo_no {pack : List Int} {b : Int} {k : Nat} (h : barrelOf pack k ≠ b) : inTo pack b (k + 1) = inTo pack b k := if_neg h
set_option maxRecDepth 100000 in
set_option maxHeartbeats 4000000 in
theorem in_any (pack : List Int) (hl : pack.length ≤ 1000) (b : Int) (A : Option Addr) (c : Nat) (w : World) (hI : IntsAt w w.heap.size A pack) :
    Calls Try.prog 145 #[.slice A pack.length c, .int .i64 b] w fun e w' => RowRet (inOf pack b) w.heap.size w' e ∧ Below w.heap.size w w' := by
  have HI := Lib.hid hI
  clear hI
  go_enter Try.func145, Try.ntmps145
  go_wp2
  go_loopw [5, 6] (fun v i wr => ∃ k : Nat, k ≤ pack.length ∧ i = .int .i64 k ∧ Ints wr w.heap.size v (inTo pack b k) ∧ Below w.heap.size w wr) (fun _ i _ => pack.length - (intOf i).toNat)
  case atStart => exact ⟨0, Nat.zero_le _, rfl, ints_nil _ _, Below.refl _ _⟩
  case round =>
    obtain ⟨k, hk, rfl, hown, hb⟩ := hrel
    have hsz := hb.size
    by_cases hlt : k < pack.length
    · obtain ⟨x, hx⟩ : ∃ x, pack[k]? = some x := ⟨_, List.getElem?_eq_getElem hlt⟩
      obtain ⟨b1, o1, rfl, b1lt, d1⟩ := HI.out.at_ hx
      have e1 := below_cell hb d1
      have hbo : barrelOf pack k = x := by simp [barrelOf, List.getD, hx]
      have hil := inTo_len pack b k
      by_cases hxb : x = b
      · have hd : (x == b) = true := by simpa using hxb
        have HY := Lib.hid (inTo_yes (hbo.trans hxb))
        clear hxb hbo hx d1
        go_wp2_with (refine wpl_app rfl (.tmp 19) (.tmp 21) rfl w.heap.size w.heap.size _ (inTo pack b k) k rfl (hown.alloc _) ⟨wr.heap.size, 0, none⟩ 1 rfl (by simp [go_sem]) (by omega) (by simp; omega) (Nat.le_refl _) ?_; intro v' w' hown' hb')
        go_roundw
        case rel => exact ⟨k + 1, by omega, by go_num, by rw [HY.out]; exact hown', hb.trans (((Below.refl _ _).alloc hsz _).trans hb')⟩
        case measure => simp [intOf]; omega
      · have hd : (x == b) = false := by simpa using hxb
        have HY := Lib.hid (inTo_no (pack := pack) (b := b) (k := k) (by rw [hbo]; exact hxb))
        clear hxb hbo hx d1
        go_wp2
        go_roundw
        case rel => exact ⟨k + 1, by omega, by go_num, by rw [HY.out]; exact hown, hb⟩
        case measure => simp [intOf]; omega
    · obtain rfl : k = pack.length := by omega
      go_wp2
      go_ret
      exact ⟨⟨_, rfl, hown⟩, hb⟩
theorem fitsR_no {h : House} {pack : List Int} {b : Nat} (hb : b < h.bs.length) (hn : ¬ needC h (inOf pack b) ≤ h.bs.getD b 0) : fitsR h pack = false := by
  rw [fitsR, List.all_eq_false]; exact ⟨b, List.mem_range.2 hb, by simpa using hn⟩
set_option maxRecDepth 100000 in
set_option maxHeartbeats 4000000 in
theorem rfits_any (L : HL) (h : House) (hv : HOK h) (pack : List Int) (hl : pack.length ≤ h.ps.length) (A : Option Addr) (c : Nat) (w : World) (hH : HouseAt w w.heap.size L h) (hI : IntsAt w w.heap.size A pack) :
    Calls Try.prog 137 #[L.enc h, .slice A pack.length c] w fun e w' => e = .returned (.bool (fitsR h pack)) ∧ Below w.heap.size w w' := by
  have HH := Lib.hid hH
  have HI := Lib.hid hI
  have HV := Lib.hid hv
  have hpl6 := hv.pl
  have hbl4 := hv.bl
  have hf0 := hv.f0
  have hf1 := hv.f1
  clear hH hI hv
  obtain ⟨Ak, ck, Ap, cp, Ab, cb⟩ := L
  go_enter Try.func137, Try.ntmps137
  go_wp2
  go_loopw [5] (fun i wr => ∃ k : Nat, k ≤ h.bs.length ∧ i = .int .i64 k ∧ Hid (∀ b, b < k → needC h (inOf pack b) ≤ h.bs.getD b 0) ∧ Below w.heap.size w wr ∧ HBox wr w.heap.size ⟨Ak, ck, Ap, cp, Ab, cb⟩ h) (fun i _ => h.bs.length - (intOf i).toNat)
  case atStart => exact ⟨0, Nat.zero_le _, rfl, Lib.hid (fun b hb => by omega), (Below.refl _ _).alloc (Nat.le_refl _) _, HBox.new w ⟨Ak, ck, Ap, cp, Ab, cb⟩ h⟩
  case round =>
    obtain ⟨k, hk, rfl, hall, hb, hB⟩ := hrel
    have hsz := hb.size
    obtain ⟨g0, g1, g2, g3⟩ := hB.cells
    by_cases hlt : k < h.bs.length
    · obtain ⟨x, hx⟩ : ∃ x, h.bs[k]? = some x := ⟨_, List.getElem?_eq_getElem hlt⟩
      obtain ⟨b1, o1, rfl, b1lt, d1⟩ := HH.out.b.at_ hx
      have hgx : h.bs.getD k 0 = x := by simp [List.getD, hx]
      have HGX := Lib.hid hgx
      have hpo : PartsOK h (inOf pack k) := inTo_parts hl
      have HPO := Lib.hid hpo
      have hil : (inOf pack k).length ≤ pack.length := inTo_len _ _ _
      have HC := Lib.hid (fun A' c' W (hW : Below w.heap.size w W) (hI' : IntsAt W W.heap.size A' (inOf pack k)) => pounds_any _ h HV.out (inOf pack k) (by omega) hpo A' c' W (HH.out.below hW) hI')
      have HS := Lib.hid (fun A' c' W (hW : Below w.heap.size w W) (hI' : IntsAt W W.heap.size A' (inOf pack k)) => saltOf_any _ h HV.out (inOf pack k) (by omega) hpo A' c' W (HH.out.below hW) hI')
      have hup := (caskIn_upto HV.out _ hpo).ok (by omega)
      have hp0 := hup.p0
      have hp1 := hup.p1
      have hsb := saltC_bd hup ⟨hf0, hf1⟩
      have hki : (k : Int) < h.bs.length := by omega
      have hk0 : (0 : Int) ≤ (k : Int) := by omega
      have hnc : needC h (inOf pack k) = (caskIn h (inOf pack k)).p + saltC h.fl (caskIn h (inOf pack k)) := rfl
      have HNC := Lib.hid hnc
      clear hx hgx hpo hnc hup
      by_cases hov : x < (caskIn h (inOf pack k)).p + saltC h.fl (caskIn h (inOf pack k))
      all_goals
        go_wp2_with (go_at_call 145; refine (in_any pack (by omega) k A c _ (ints_later HI.out hb)).mono ?_; rintro e w2 ⟨⟨v, rfl, hown⟩, hb2⟩; obtain ⟨A2, c2, rfl, -, -, hI2⟩ := hown.lay; have x0 := extB_cell (below_cell hb2 g0); have x1 := extB_cell (below_cell hb2 g1); have x2 := extB_cell (below_cell hb2 g2); have x3 := extB_cell (below_cell hb2 g3); have d2 := extB_cell (below_cell hb2 (below_cell hb d1)))
        have hI3 := Lib.hid (fun x => (ints_later (hI2.at_.keep (Nat.le_refl _) (fun _ _ _ => rfl)) (extB_below w2 x) : IntsAt (extB w2 x) (extB w2 x).heap.size A2 (inOf pack k)))
        have hbe := Lib.hid (fun x => (hb0to hb (hb0to hb2 (extB_below w2 x)) : Below w.heap.size w (extB w2 x)))
        clear hI2 hown
        refine wp_region_extW (by kernel_rfl) (by kernel_rfl) ?_
        repeat (go_big_quiet_step (first
          | (go_at_call 179; exact ext_call (HC.out A2 c2 _ (hbe.out _) (hI3.out _)))
          | (go_at_call 180; exact ext_call (HS.out A2 c2 _ (hbe.out _) (hI3.out _)))))
        refine wpQuiet_nil ?_
        rintro _ ⟨y1, rfl⟩
        have hb3 := hbe.out y1
        clear x0 x1 x2 x3 d2
      · have hno := fitsR_no (h := h) (pack := pack) (b := k) hlt (by rw [HNC.out, HGX.out]; omega)
        have HNO := Lib.hid hno
        clear hno
        go_wp2
        go_ret
        exact ⟨by rw [HNO.out]; rfl, hb3⟩
      · go_wp2
        go_roundw
        case rel => exact ⟨k + 1, by omega, by go_num, Lib.hid (fun b hbk => by by_cases e : b = k; subst e; rw [HNC.out, HGX.out]; omega; exact hall.out b (by omega)), hb3, hB.of (((extB_below w2 y1).block _ (Nat.lt_of_lt_of_le hB.lt hb2.size)).trans (hb2.block _ hB.lt))⟩
        case measure => simp [intOf]; omega
    · obtain rfl : k = h.bs.length := by omega
      go_wp2
      go_ret
      have : fitsR h pack = true := fitsR_true.2 hall.out
      exact ⟨by rw [this]; rfl, hb⟩
/-! Plain: a packing's casks, by the lists of their parts. -/
def InRange (lo : Int) (nb : Nat) (p : List Int) : Prop := ∀ x ∈ p, lo ≤ x ∧ x < nb
theorem barrel_range {p : List Int} {nb : Nat} (h : InRange (-1) nb p) (hnb : nb ≤ 5) : ∀ j, -1 ≤ barrelOf p j ∧ barrelOf p j ≤ 4 := fun j => by
  unfold barrelOf
  cases hj : p[j]? with
  | none => simp [List.getD, hj]
  | some x =>
    have := h x (List.mem_of_getElem? hj)
    simp only [List.getD, hj, Option.getD_some]
    omega
theorem InRange.low {lo : Int} {nb : Nat} {p : List Int} (h : InRange lo nb p) (hlo : -1 ≤ lo) : InRange (-1) nb p := fun x hx => by have := h x hx; omega
theorem caskOf_packed {h : House} {p : List Int} (hl : p.length = h.ps.length) {nb : Nat} (hr : InRange (-1) nb p) (hnb : nb ≤ 5) {b : Nat} (hb : b < 5) : caskOf (packedC h p) b = caskIn h (inOf p b) := by
  unfold caskOf packedC inOf
  rw [← hl]
  exact casksTo_at h p b hb p.length (fun j _ => barrel_range hr hnb j)
theorem fits_packed {h : House} (hv : HOK h) {p : List Int} (hl : p.length = h.ps.length) {nb : Nat} (hr : InRange (-1) nb p) (hnb : nb ≤ 5) : fitsC h (packedC h p) = fitsR h p := by
  unfold fitsC fitsR
  rw [Bool.eq_iff_iff]
  simp only [List.all_eq_true, List.mem_range]
  have hbl := hv.bl
  have : ∀ b, b < h.bs.length → (roomOK h (packedC h p) b = true ↔ decide (needC h (inOf p b) ≤ h.bs.getD b 0) = true) := fun b hb => by
    rw [roomOK, caskOf_packed hl hr hnb (by omega)]
    rfl
  exact ⟨fun h1 b hb => (this b hb).1 (h1 b hb), fun h1 b hb => (this b hb).2 (h1 b hb)⟩
end Go.Proofs.Ytmbcpmnigggbaaa
namespace Go.Proofs.Ytmbcpmnigggbaaa
open Go.RowKit
set_option maxRecDepth 100000 in
set_option maxHeartbeats 4000000 in
theorem rcheck_no (L : HL) (h : House) (hn : h.ks.length ≤ 1000 ∧ h.ps.length ≤ 1000 ∧ h.bs.length ≤ 1000) (hv : bigOK h = false) (w : World) :
    Calls Try.prog 11 #[L.enc h] w fun e w' => e = .returned (.int .i64 (ckH h)) ∧ Below w.heap.size w w' := by
  obtain ⟨n1, n2, n3⟩ := hn
  have hv2 : ckH h = 80 := ckH_no (by simp [validH, hv])
  rw [hv2]
  clear hv2
  have hbw : Below w.heap.size w (w.alloc (.cells #[.slice L.Ak h.ks.length L.ck, .int .i64 h.fl, .slice L.Ap h.ps.length L.cp, .slice L.Ab h.bs.length L.cb] 27)) := (Below.refl _ _).alloc (Nat.le_refl _) _
  obtain ⟨Ak, ck, Ap, cp, Ab, cb⟩ := L
  by_cases k1 : h.ks.length ≤ 3
  · cases f1 : inR h.fl 0 9
    · clear hv
      go_enter Try.func11, Try.ntmps11
      go_wp2_with (go_at_call 57; refine (within_any _ _ _ _).mono ?_; rintro e w' ⟨rfl, rfl⟩)
      go_ret
      exact ⟨rfl, hbw⟩
    · by_cases p1 : h.ps.length ≤ 6
      · have b1 : 4 < h.bs.length := by
          have : ¬ h.bs.length ≤ 4 := fun hb => by simp [bigOK, k1, f1, p1, hb] at hv
          omega
        clear hv
        go_enter Try.func11, Try.ntmps11
        go_wp2_with (go_at_call 57; refine (within_any _ _ _ _).mono ?_; rintro e w' ⟨rfl, rfl⟩)
        go_ret
        exact ⟨rfl, hbw⟩
      · have p2 : 6 < h.ps.length := by omega
        clear hv p1
        go_enter Try.func11, Try.ntmps11
        go_wp2_with (go_at_call 57; refine (within_any _ _ _ _).mono ?_; rintro e w' ⟨rfl, rfl⟩)
        go_ret
        exact ⟨rfl, hbw⟩
  · have k2 : 3 < h.ks.length := by omega
    clear hv k1
    go_enter Try.func11, Try.ntmps11
    go_wp2_with (go_at_call 57; refine (within_any _ _ _ _).mono ?_; rintro e w' ⟨rfl, rfl⟩)
    go_ret
    exact ⟨rfl, hbw⟩
set_option maxRecDepth 100000 in
set_option maxHeartbeats 4000000 in
theorem rcheck_yes (L : HL) (h : House) (hv : bigOK h = true) (w : World) (hH : HouseAt w w.heap.size L h) :
    Calls Try.prog 11 #[L.enc h] w fun e w' => e = .returned (.int .i64 (ckH h)) ∧ Below w.heap.size w w' := by
  have hv' := hv
  simp only [bigOK, Bool.and_eq_true, decide_eq_true_eq] at hv'
  obtain ⟨k1, f1, p1, b1⟩ := hv'
  have HV := Lib.hid hv
  have HH := Lib.hid hH
  clear hv hH
  obtain ⟨Ak, ck, Ap, cp, Ab, cb⟩ := L
  go_enter Try.func11, Try.ntmps11
  go_wp2_with (go_at_call 57; refine (within_any _ _ _ _).mono ?_; rintro e w' ⟨rfl, rfl⟩)
  clear f1
  go_loopw [3] (fun i wr => ∃ k : Nat, k ≤ h.ks.length ∧ i = .int .i64 k ∧ Hid (∀ j x, j < k → h.ks[j]? = some x → kindOK x = true) ∧ Below w.heap.size w wr ∧ HBox wr w.heap.size ⟨Ak, ck, Ap, cp, Ab, cb⟩ h) (fun i _ => h.ks.length - (intOf i).toNat)
  case atStart => exact ⟨0, Nat.zero_le _, rfl, Lib.hid (fun j x hj => by omega), (Below.refl _ _).alloc (Nat.le_refl _) _, HBox.new w ⟨Ak, ck, Ap, cp, Ab, cb⟩ h⟩
  case round =>
    obtain ⟨k, hk, rfl, hok, hb, hB⟩ := hrel
    have hsz := hb.size
    obtain ⟨g0, g1, g2, g3⟩ := hB.cells
    by_cases hlt : k < h.ks.length
    · obtain ⟨x, hx⟩ : ∃ x, h.ks[k]? = some x := ⟨_, List.getElem?_eq_getElem hlt⟩
      obtain ⟨bk, ok, rfl, hbk, d1, d2⟩ := HH.out.k.at_ hx
      have e1 := below_cell hb d1
      have e2 := below_cell hb d2
      have HX := Lib.hid hx
      clear hx d1 d2
      cases h1 : inR x.1 0 9
      · have hno : Hid (kindOK x = false) := Lib.hid (by rw [kindOK, h1]; rfl)
        go_wp2_with (go_at_call 57; refine (within_any _ _ _ _).mono ?_; rintro e w' ⟨rfl, rfl⟩)
        go_ret
        exact ⟨by rw [ckH_no (by simp [validH, allTo_bad HX.out hno.out])]; rfl, hb⟩
      · cases h2 : inR x.2 0 20
        · have hno : Hid (kindOK x = false) := Lib.hid (by rw [kindOK, h1, h2]; rfl)
          go_wp2_with (go_at_call 57; refine (within_any _ _ _ _).mono ?_; rintro e w' ⟨rfl, rfl⟩)
          go_ret
          exact ⟨by rw [ckH_no (by simp [validH, allTo_bad HX.out hno.out])]; rfl, hb⟩
        · have hyes : Hid (kindOK x = true) := Lib.hid (by rw [kindOK, h1, h2]; rfl)
          go_wp2_with (go_at_call 57; refine (within_any _ _ _ _).mono ?_; rintro e w' ⟨rfl, rfl⟩)
          go_roundw
          case rel => exact ⟨k + 1, by omega, by go_num, Lib.hid (allTo_step hok.out HX.out hyes.out), hb, hB⟩
          case measure => simp [intOf]; omega
    · obtain rfl : k = h.ks.length := by omega
      have hkall : Hid (h.ks.all kindOK = true) := Lib.hid (allTo_good hok.out)
      clear hok hlt hk
      go_wp2
      clear g0 g1 g2 g3
      obtain ⟨wo, rfl⟩ : ∃ wo : World, wo = wr := ⟨_, rfl⟩
      go_loopw [4] (fun i wr => ∃ k : Nat, k ≤ h.ps.length ∧ i = .int .i64 k ∧ Hid (∀ j x, j < k → h.ps[j]? = some x → partOK h.ks.length x = true) ∧ Below w.heap.size w wr ∧ HBox wr w.heap.size ⟨Ak, ck, Ap, cp, Ab, cb⟩ h) (fun i _ => h.ps.length - (intOf i).toNat)
      case atStart => exact ⟨0, Nat.zero_le _, rfl, Lib.hid (fun j x hj => by omega), hb, hB⟩
      case round =>
        clear hb hB hsz
        obtain ⟨k, hk, rfl, hok, hb, hB⟩ := hrel
        have hsz := hb.size
        obtain ⟨g0, g1, g2, g3⟩ := hB.cells
        by_cases hlt : k < h.ps.length
        · obtain ⟨x, hx⟩ : ∃ x, h.ps[k]? = some x := ⟨_, List.getElem?_eq_getElem hlt⟩
          obtain ⟨bk, ok, rfl, hbk, d1, d2⟩ := HH.out.p.at_ hx
          have e1 := extB_cell (below_cell hb d1)
          have e2 := extB_cell (below_cell hb d2)
          have x0 := extB_cell g0
          have x2 := extB_cell g2
          have hki : (k : Int) < h.ps.length := by omega
          have hk0 : (0 : Int) ≤ (k : Int) := by omega
          have hwr : IntKind.i64.wrap ((h.ks.length : Int) - 1) = (h.ks.length : Int) - 1 := IntWalk.i64_in _ (by omega)
          have HX := Lib.hid hx
          clear hx d1 d2
          cases h1 : inR x.1 0 (h.ks.length - 1)
          · have hno : Hid (partOK h.ks.length x = false) := Lib.hid (by rw [partOK, h1]; rfl)
            go_wp2
            refine wp_region_extW (by kernel_rfl) (by kernel_rfl) ?_
            repeat (go_big_quiet_step ((go_at_call 57; exact ext_same (within_any _ _ _ _))))
            refine wpQuiet_nil ?_
            rintro _ ⟨x1, rfl⟩
            have hb3 := hb0to hb (extB_below wr x1)
            clear x0 x2 e1 e2
            go_wp2
            go_ret
            exact ⟨by rw [ckH_no (by simp [validH, allTo_bad HX.out hno.out])]; rfl, hb3⟩
          · cases h2 : inR x.2 0 40
            · have hno : Hid (partOK h.ks.length x = false) := Lib.hid (by rw [partOK, h1, h2]; rfl)
              go_wp2
              refine wp_region_extW (by kernel_rfl) (by kernel_rfl) ?_
              repeat (go_big_quiet_step ((go_at_call 57; exact ext_same (within_any _ _ _ _))))
              refine wpQuiet_nil ?_
              rintro _ ⟨x1, rfl⟩
              have hb3 := hb0to hb (extB_below wr x1)
              clear x0 x2 e1 e2
              go_wp2
              go_ret
              exact ⟨by rw [ckH_no (by simp [validH, allTo_bad HX.out hno.out])]; rfl, hb3⟩
            · have hyes : Hid (partOK h.ks.length x = true) := Lib.hid (by rw [partOK, h1, h2]; rfl)
              go_wp2
              refine wp_region_extW (by kernel_rfl) (by kernel_rfl) ?_
              repeat (go_big_quiet_step ((go_at_call 57; exact ext_same (within_any _ _ _ _))))
              refine wpQuiet_nil ?_
              rintro _ ⟨x1, rfl⟩
              have hb2 := extB_below wr x1
              clear x0 x2 e1 e2
              go_wp2
              go_roundw
              case rel => exact ⟨k + 1, by omega, by go_num, Lib.hid (allTo_step hok.out HX.out hyes.out), hb0to hb hb2, hB.of (hb2.block _ hB.lt)⟩
              case measure => simp [intOf]; omega
        · obtain rfl : k = h.ps.length := by omega
          have hpall : Hid (h.ps.all (partOK h.ks.length) = true) := Lib.hid (allTo_good hok.out)
          clear hok hlt hk
          go_wp2
          clear g0 g1 g2 g3
          obtain ⟨wo, rfl⟩ : ∃ wo : World, wo = wr := ⟨_, rfl⟩
          go_loopw [5] (fun i wr => ∃ k : Nat, k ≤ h.bs.length ∧ i = .int .i64 k ∧ Hid (∀ (j : Nat) (x : Int), j < k → h.bs[j]? = some x → inR x 0 99 = true) ∧ Below w.heap.size w wr ∧ HBox wr w.heap.size ⟨Ak, ck, Ap, cp, Ab, cb⟩ h) (fun i _ => h.bs.length - (intOf i).toNat)
          case atStart => exact ⟨0, Nat.zero_le _, rfl, Lib.hid (fun j x hj => by omega), hb, hB⟩
          case round =>
            clear hb hB hsz
            obtain ⟨k, hk, rfl, hok, hb, hB⟩ := hrel
            have hsz := hb.size
            obtain ⟨g0, g1, g2, g3⟩ := hB.cells
            by_cases hlt : k < h.bs.length
            · obtain ⟨x, hx⟩ : ∃ x, h.bs[k]? = some x := ⟨_, List.getElem?_eq_getElem hlt⟩
              obtain ⟨bk, ok, rfl, hbk, d1⟩ := HH.out.b.at_ hx
              have e1 := below_cell hb d1
              have HX := Lib.hid hx
              clear hx d1
              cases h1 : inR x 0 99
              · have hno : Hid ((h.bs.all fun b => inR b 0 99) = false) := Lib.hid (by rw [List.all_eq_false]; exact ⟨x, List.mem_of_getElem? HX.out, by simp [h1]⟩)
                go_wp2_with (go_at_call 57; refine (within_any _ _ _ _).mono ?_; rintro e w' ⟨rfl, rfl⟩)
                go_ret
                exact ⟨by rw [ckH_no (by rw [validH_parts HV.out hkall.out hpall.out]; exact hno.out)]; rfl, hb⟩
              · have H1 := Lib.hid h1
                go_wp2_with (go_at_call 57; refine (within_any _ _ _ _).mono ?_; rintro e w' ⟨rfl, rfl⟩)
                go_roundw
                case rel => exact ⟨k + 1, by omega, by go_num, Lib.hid (fun j y hj hy => by by_cases e : j = k; subst e; rw [HX.out] at hy; cases hy; exact H1.out; exact hok.out j y (by omega) hy), hb, hB⟩
                case measure => simp [intOf]; omega
            · obtain rfl : k = h.bs.length := by omega
              have hball : Hid ((h.bs.all fun b => inR b 0 99) = true) := Lib.hid (by
                rw [List.all_eq_true]
                intro x hx
                obtain ⟨j, hj⟩ := List.getElem?_of_mem hx
                exact hok.out j x (List.getElem?_eq_some_iff.1 hj).1 hj)
              go_wp2
              go_ret
              exact ⟨by rw [ckH_yes (by rw [validH_parts HV.out hkall.out hpall.out]; exact hball.out)]; rfl, hb⟩
theorem rcheck_any (L : HL) (h : House) (hn : h.ks.length ≤ 1000 ∧ h.ps.length ≤ 1000 ∧ h.bs.length ≤ 1000) (w : World) (hH : HouseAt w w.heap.size L h) :
    Calls Try.prog 11 #[L.enc h] w fun e w' => e = .returned (.int .i64 (ckH h)) ∧ Below w.heap.size w w' := by
  cases hv : bigOK h
  · exact rcheck_no L h hn hv w
  · exact rcheck_yes L h hv w hH
end Go.Proofs.Ytmbcpmnigggbaaa
namespace Go.Proofs.Ytmbcpmnigggbaaa
open Go.RowKit
set_option maxRecDepth 100000 in
set_option maxHeartbeats 4000000 in
theorem rising_any (l : List Int) (hl : l.length ≤ 1000) (n : Int) (A : Option Addr) (c : Nat) (w : World) (hI : IntsAt w w.heap.size A l) :
    Calls Try.prog 88 #[.slice A l.length c, .int .i64 0, .int .i64 (n - 1)] w fun e w' => e = .returned (.bool (riseB l n)) ∧ Below w.heap.size w w' := by
  have HI := Lib.hid hI
  clear hI
  go_enter Try.func88, Try.ntmps88
  go_wp2
  go_loopw [7] (fun i wr => ∃ k : Nat, k ≤ l.length ∧ i = .int .i64 k ∧ Hid (∀ j, j < k → riseOK l n j = true) ∧ Below w.heap.size w wr) (fun i _ => l.length - (intOf i).toNat)
  case atStart => exact ⟨0, Nat.zero_le _, rfl, Lib.hid (fun j hj => by omega), Below.refl _ _⟩
  case round =>
    obtain ⟨k, hk', rfl, hok, hb⟩ := hrel
    have hsz := hb.size
    by_cases hlt : k < l.length
    · obtain ⟨x, hx⟩ : ∃ x, l[k]? = some x := ⟨_, List.getElem?_eq_getElem hlt⟩
      have hgx : l.getD k 0 = x := by simp [List.getD, hx]
      have hI := HI.out
      obtain ⟨b1, o1, rfl, b1lt, d1⟩ := HI.out.at_ hx
      have e1 := extB_cell (below_cell hb d1)
      have hki : (k : Int) < l.length := by omega
      have hk0' : (0 : Int) ≤ (k : Int) := by omega
      cases hr : inR x 0 (n - 1)
      · have hno : Hid (riseOK l n k = false) := Lib.hid (by rw [riseOK, hgx, hr]; rfl)
        clear hx hgx hI d1
        go_wp2
        refine wp_region_extW (by kernel_rfl) (by kernel_rfl) ?_
        repeat (go_big_quiet_step ((go_at_call 28; exact ext_same (within1_any _ _ _ _))))
        refine wpQuiet_nil ?_
        rintro _ ⟨x1, rfl⟩
        have hb3 := hb0to hb (extB_below wr x1)
        clear e1
        go_wp2
        go_ret
        exact ⟨by rw [riseB_no hlt hno.out]; rfl, hb3⟩
      · rcases Nat.eq_zero_or_pos k with rfl | hk0
        · have hyes : Hid (riseOK l n 0 = true) := Lib.hid (by rw [riseOK, hgx, hr]; rfl)
          simp only [Nat.add_zero] at e1
          clear hx hgx hI d1
          go_wp2
          refine wp_region_extW (by kernel_rfl) (by kernel_rfl) ?_
          repeat (go_big_quiet_step ((go_at_call 28; exact ext_same (within1_any _ _ _ _))))
          refine wpQuiet_nil ?_
          rintro _ ⟨x1, rfl⟩
          have hb3 := hb0to hb (extB_below wr x1)
          clear e1
          go_wp2
          go_roundw
          case rel => exact ⟨1, by omega, by go_num, Lib.hid (fun j hj => by obtain rfl : j = 0 := (by omega); exact hyes.out), hb3⟩
          case measure => simp [intOf]; omega
        · obtain ⟨y, hy⟩ : ∃ y, l[k - 1]? = some y := ⟨_, List.getElem?_eq_getElem (by omega)⟩
          have hgy : l.getD (k - 1) 0 = y := by simp [List.getD, hy]
          obtain ⟨b1', o1', e', _, d2⟩ := hI.at_ hy
          cases e'
          have hd0 : decide (0 < k) = true := by simp; omega
          have ht3 : (1 : Int) ≤ (k : Int) := by omega
          have ht2 : (0 : Int) ≤ (k : Int) - 1 := by omega
          have ht4 : (k : Int) - 1 < l.length := by omega
          have ec : IntKind.i64.wrap ((k : Int) - 1) = ((k - 1 : Nat) : Int) := by rw [IntWalk.i64_in _ (by omega)]; omega
          have e2 := extB_cell (below_cell hb d2)
          have hk1 : ((k - 1 : Nat) : Int) < l.length := by omega
          have hk2 : k - 1 < l.length := by omega
          by_cases hxy : x ≤ y
          · have hdx : decide (x ≤ y) = true := by simpa using hxy
            have hno : Hid (riseOK l n k = false) := Lib.hid (by rw [riseOK, hgx, hgy, hr]; simp; omega)
            clear hx hgx hy hgy hI d1 d2
            go_wp2
            refine wp_region_extW (by kernel_rfl) (by kernel_rfl) ?_
            repeat (go_big_quiet_step ((go_at_call 28; exact ext_same (within1_any _ _ _ _))))
            refine wpQuiet_nil ?_
            rintro _ ⟨x1, rfl⟩
            have hb3 := hb0to hb (extB_below wr x1)
            clear e1 e2
            go_wp2
            go_ret
            exact ⟨by rw [riseB_no hlt hno.out]; rfl, hb3⟩
          · have hdx : decide (x ≤ y) = false := by simpa using hxy
            have hyes : Hid (riseOK l n k = true) := Lib.hid (by rw [riseOK, hgx, hgy, hr]; simp; omega)
            clear hx hgx hy hgy hI d1 d2
            go_wp2
            refine wp_region_extW (by kernel_rfl) (by kernel_rfl) ?_
            repeat (go_big_quiet_step ((go_at_call 28; exact ext_same (within1_any _ _ _ _))))
            refine wpQuiet_nil ?_
            rintro _ ⟨x1, rfl⟩
            have hb3 := hb0to hb (extB_below wr x1)
            clear e1 e2
            go_wp2
            go_roundw
            case rel => exact ⟨k + 1, by omega, by go_num, Lib.hid (fun j hj => by by_cases e : j = k; exact e ▸ hyes.out; exact hok.out j (by omega)), hb3⟩
            case measure => simp [intOf]; omega
    · obtain rfl : k = l.length := by omega
      have hrise := riseB_yes hok.out
      have HR := Lib.hid hrise
      clear hrise
      go_wp2
      go_ret
      exact ⟨by rw [HR.out]; rfl, hb⟩
theorem all_range {pack : List Int} {nb : Nat} (h : pack.all (fun b => inR b 0 ((nb : Int) - 1)) = true) : InRange 0 nb pack := fun x hx => by
  have := inR_true.1 (List.all_eq_true.1 h x hx)
  omega
theorem goodB_parts {h : House} {pack : List Int} (hg : goodB h pack = true) : pack.length = h.ps.length ∧ InRange 0 h.bs.length pack ∧ fitsC h (packedC h pack) = true := by
  simp only [goodB, Bool.and_eq_true, decide_eq_true_eq] at hg
  exact ⟨hg.1, all_range hg.2.1, hg.2.2⟩
theorem goodB_eq {h : House} (hv : HOK h) {pack : List Int} (hl : pack.length = h.ps.length) (hr : pack.all (fun b => inR b 0 ((h.bs.length : Int) - 1)) = true) : goodB h pack = fitsR h pack := by
  rw [goodB, hr, decide_eq_true hl, fits_packed hv hl ((all_range hr).low (by omega)) (by have := hv.bl; omega)]
  rfl
set_option maxRecDepth 100000 in
set_option maxHeartbeats 4000000 in
theorem isPacking_any (L : HL) (h : House) (hv : HOK h) (pack : List Int) (hl : pack.length ≤ 1000) (A : Option Addr) (c : Nat) (w : World) (hH : HouseAt w w.heap.size L h) (hI : IntsAt w w.heap.size A pack) :
    Calls Try.prog 85 #[L.enc h, .slice A pack.length c] w fun e w' => e = .returned (.bool (goodB h pack)) ∧ Below w.heap.size w w' := by
  have HH := Lib.hid hH
  have HI := Lib.hid hI
  have HV := Lib.hid hv
  have hpl6 := hv.pl
  have hbl4 := hv.bl
  clear hH hI hv
  by_cases hlen : pack.length = h.ps.length
  · have hd : ((pack.length : Int) != (h.ps.length : Int)) = false := by simp; omega
    have HLEN := Lib.hid hlen
    clear hlen
    go_enter Try.func85, Try.ntmps85
    go_wp2
    go_loopw [5] (fun i wr => ∃ k : Nat, k ≤ pack.length ∧ i = .int .i64 k ∧ Hid (∀ (j : Nat) (x : Int), j < k → pack[j]? = some x → inR x 0 (h.bs.length - 1) = true) ∧ Below w.heap.size w wr ∧ HBox wr w.heap.size L h) (fun i _ => pack.length - (intOf i).toNat)
    case atStart => exact ⟨0, Nat.zero_le _, rfl, Lib.hid (fun j x hj => by omega), (Below.refl _ _).alloc (Nat.le_refl _) _, HBox.new w L h⟩
    case round =>
      obtain ⟨k, hk, rfl, hok, hb, hB⟩ := hrel
      have hsz := hb.size
      obtain ⟨g0, g1, g2, g3⟩ := hB.cells
      by_cases hlt : k < pack.length
      · obtain ⟨x, hx⟩ : ∃ x, pack[k]? = some x := ⟨_, List.getElem?_eq_getElem hlt⟩
        obtain ⟨b1, o1, rfl, b1lt, d1⟩ := HI.out.at_ hx
        have e5 := extB_cell (below_cell hb d1)
        have e0 := extB_cell g0
        have e1 := extB_cell g1
        have e2 := extB_cell g2
        have e3 := extB_cell g3
        have hki : (k : Int) < pack.length := by omega
        have hk0 : (0 : Int) ≤ (k : Int) := by omega
        have HX := Lib.hid hx
        clear hx d1
        cases hr : inR x 0 (h.bs.length - 1)
        · have hno : Hid ((pack.all fun b => inR b 0 (h.bs.length - 1)) = false) := Lib.hid (by rw [List.all_eq_false]; exact ⟨x, List.mem_of_getElem? HX.out, by simp [hr]⟩)
          go_wp2
          refine wp_region_extW (by kernel_rfl) (by kernel_rfl) ?_
          repeat (go_big_quiet_step ((go_at_call 136; exact ext_call (rIsBarrel_any L h _ _ (by omega)))))
          refine wpQuiet_nil ?_
          rintro _ ⟨x1, rfl⟩
          have hb3 := hb0to hb (extB_below wr x1)
          clear e0 e1 e2 e3 e5
          go_wp2
          go_ret
          exact ⟨by rw [goodB, hno.out]; simp, hb3⟩
        · have HR := Lib.hid hr
          go_wp2
          refine wp_region_extW (by kernel_rfl) (by kernel_rfl) ?_
          repeat (go_big_quiet_step ((go_at_call 136; exact ext_call (rIsBarrel_any L h _ _ (by omega)))))
          refine wpQuiet_nil ?_
          rintro _ ⟨x1, rfl⟩
          have hb2 := extB_below wr x1
          clear e0 e1 e2 e3 e5
          go_wp2
          go_roundw
          case rel => exact ⟨k + 1, by omega, by go_num, Lib.hid (fun j y hj hy => by by_cases e : j = k; subst e; rw [HX.out] at hy; cases hy; exact HR.out; exact hok.out j y (by omega) hy), hb0to hb hb2, hB.of (hb2.block _ hB.lt)⟩
          case measure => simp [intOf]; omega
      · obtain rfl : k = pack.length := by omega
        have hall : (pack.all fun b => inR b 0 (h.bs.length - 1)) = true := by
          rw [List.all_eq_true]
          intro x hx
          obtain ⟨j, hj⟩ := List.getElem?_of_mem hx
          exact hok.out j x (List.getElem?_eq_some_iff.1 hj).1 hj
        have HG := Lib.hid (goodB_eq HV.out HLEN.out hall)
        clear hall hok
        go_wp2_with (go_at_call 137; refine (rfits_any L h HV.out pack (Nat.le_of_eq HLEN.out) A c _ (HH.out.below hb) (ints_later HI.out hb)).mono ?_; rintro e w3 ⟨rfl, hb3⟩)
        go_ret
        exact ⟨by rw [HG.out]; rfl, hb0to hb hb3⟩
  · have hd : ((pack.length : Int) != (h.ps.length : Int)) = true := by simp; omega
    have HLEN := Lib.hid hlen
    clear hlen
    go_enter Try.func85, Try.ntmps85
    go_wp2
    go_ret
    exact ⟨by rw [goodB, decide_eq_false HLEN.out]; rfl, (Below.refl _ _).alloc (Nat.le_refl _) _⟩
end Go.Proofs.Ytmbcpmnigggbaaa
