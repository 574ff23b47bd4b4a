import Derived.Test.YtmbcpmnigggbaaaS4
import Derived.Outline
namespace Go.Proofs.Ytmbcpmnigggbaaa
open Go.RowKit
def caskOf (l : List Cask) (b : Nat) : Cask := l.getD b c0
def roomOK (h : House) (l : List Cask) (b : Nat) : Bool := decide ((caskOf l b).p + saltC h.fl (caskOf l b) ≤ h.bs.getD b 0)
/-- No barrel is over. -/
def fitsC (h : House) (l : List Cask) : Bool := (List.range h.bs.length).all (roomOK h l)

theorem saltC_bd {c : Cask} {fl : Int} (hc : c.ok) (hf : 0 ≤ fl ∧ fl ≤ 9) : 0 ≤ saltC fl c ∧ saltC fl c ≤ 10000 := by
  obtain ⟨hn0, hn1, hp0, hp1, hs0, hs1, hd0, hd1⟩ := hc
  have hps : 0 ≤ c.p * c.s := Int.mul_nonneg hp0 hs0
  have hps2 : c.p * c.s ≤ 10000 * 9 := Int.mul_le_mul hp1 hs1 hs0 (by omega)
  unfold saltC
  split <;> omega

set_option maxRecDepth 100000 in
set_option maxHeartbeats 4000000 in
theorem fits_any (L : HL) (h : House) (hv : HOK h) (l : List Cask) (hl : l.length = 5) (hok : ∀ (j : Nat) (c : Cask), l[j]? = some c → c.ok) (w : World) (hH : HouseAt w w.heap.size L h) :
    Calls Try.prog 128 #[encCs l, L.enc h] w fun e w' => e = .returned (.bool (fitsC h l)) ∧ Below w.heap.size w w' := by
  have hbl := hv.bl
  have hf0 := hv.f0
  have hf1 := hv.f1
  have HH := Lib.hid hH
  have HV := Lib.hid hv
  have HO := Lib.hid hok
  clear hH hv hok
  obtain ⟨Ak, ck, Ap, cp, Ab, cb⟩ := L
  unfold encCs
  go_enter Try.func128, Try.ntmps128
  go_wp2
  go_loopw [10] (fun i wr => ∃ k : Nat, k ≤ h.bs.length ∧ i = .int .i64 k ∧ Below w.heap.size w wr ∧ HBox wr (w.heap.size + 1) ⟨Ak, ck, Ap, cp, Ab, cb⟩ h ∧ CasksAt wr w.heap.size l ∧ ∀ j, j < k → roomOK h l j = true) (fun i _ => h.bs.length - (intOf i).toNat)
  case atStart =>
    have hb2 : Below w.heap.size w ((w.alloc (.cells (flatC l).toArray 169)).alloc (.cells #[.slice Ak h.ks.length ck, .int .i64 h.fl, .slice Ap h.ps.length cp, .slice Ab h.bs.length cb] 27)) := ((Below.refl _ _).alloc (Nat.le_refl _) _).alloc (by simp) _
    have hB2 := HBox.new (w.alloc (.cells (flatC l).toArray 169)) ⟨Ak, ck, Ap, cp, Ab, cb⟩ h
    rw [World.size_alloc] at hB2
    exact ⟨0, Nat.zero_le _, rfl, hb2, hB2, (Below.heap_alloc _ _ _ (by simp)).trans (World.alloc_heap_new w _), fun j hj => by omega⟩
  case round =>
    obtain ⟨k, hk, rfl, hb, hB, hC, hall⟩ := hrel
    have HA := Lib.hid hall
    clear hall
    by_cases hlt : k < h.bs.length
    · obtain ⟨x, hx⟩ : ∃ x, h.bs[k]? = some x := ⟨_, List.getElem?_eq_getElem hlt⟩
      obtain ⟨b1, o1, rfl, b1lt, d1⟩ := IntsAt.at_ (HH.out.b.keep hb.size fun _ _ hlt => hb.cell (p := ⟨_, _, none⟩) hlt) hx
      have hkl : k < l.length := by omega
      obtain ⟨cc, hcc⟩ : ∃ cc, l[k]? = some cc := ⟨_, List.getElem?_eq_getElem hkl⟩
      have hcok := HO.out k cc hcc
      have hsb := saltC_bd hcok ⟨hf0, hf1⟩
      have hp0 := hcok.p0
      have hp1 := hcok.p1
      obtain ⟨f0, f1, f2, f3⟩ := hC.at_ hcc
      have e0 := extB_cell f0
      have e1 := extB_cell f1
      have e2 := extB_cell f2
      have e3 := extB_cell f3
      obtain ⟨_, g1, _, _⟩ := hB.cells
      have e4 := extB_cell g1
      have hro : roomOK h l k = decide (cc.p + saltC h.fl cc ≤ x) := by simp [roomOK, caskOf, List.getD, hcc, hx]
      have RO := Lib.hid hro
      have CK := Lib.hid hcok
      clear hro hcok hx hcc
      by_cases hov : x < cc.p + saltC h.fl cc
      · as_aux_lemma =>
        go_wp2
        refine wp_region_ext (by kernel_rfl) (by kernel_rfl) ?_
        repeat (go_big_quiet_step ((go_at_call 129; exact ext_call (saltC_any cc h.fl CK.out ⟨hf0, hf1⟩ _))))
        refine wpQuiet_nil ?_
        rintro _ ⟨x1, rfl⟩
        have hb1 := hb.trans ((extB_below wr x1).mono hb.size)
        go_wp2
        go_ret
        refine ⟨?_, hb1⟩
        have : fitsC h l = false := by
          rw [fitsC, List.all_eq_false]
          exact ⟨k, List.mem_range.2 hlt, by rw [RO.out]; simp; omega⟩
        rw [this]; rfl
      · as_aux_lemma =>
        go_wp2
        refine wp_region_ext (by kernel_rfl) (by kernel_rfl) ?_
        repeat (go_big_quiet_step ((go_at_call 129; exact ext_call (saltC_any cc h.fl CK.out ⟨hf0, hf1⟩ _))))
        refine wpQuiet_nil ?_
        rintro _ ⟨x1, rfl⟩
        have hb0 := extB_below wr x1
        have hb1 := hb.trans (hb0.mono hb.size)
        go_wp2
        go_roundw
        case rel =>
          refine ⟨k + 1, by omega, by go_num, hb1, hB.of (hb0.block _ hB.lt), (hb0.block _ (Array.getElem?_eq_some_iff.1 hC).1).trans hC, fun j hj => ?_⟩
          by_cases ej : j = k
          · subst ej; rw [RO.out]; simp; omega
          · exact HA.out j (by omega)
        case measure => simp [intOf]; omega
    · obtain rfl : k = h.bs.length := by omega
      go_wp2
      go_ret
      refine ⟨?_, hb⟩
      have : fitsC h l = true := by
        rw [fitsC, List.all_eq_true]
        exact fun j hj => HA.out j (List.mem_range.1 hj)
      rw [this]; rfl
theorem at_caskOf {l : List Cask} {k : Nat} (h : k < l.length) : l[k]? = some (caskOf l k) := by simp [caskOf, List.getD, List.getElem?_eq_getElem h]
set_option maxRecDepth 100000 in
theorem index81 {l : List Cask} (hl : l.length = 5) {k : Nat} (hk : k < 5) (w : World) : (Instr.index 169 (encCs l) (.int .i64 k)).run Try.prog w = .ok (caskOf l k).enc w := by
  obtain ⟨a, b, c, d, e, rfl⟩ := list5 hl
  have : k = 0 ∨ k = 1 ∨ k = 2 ∨ k = 3 ∨ k = 4 := by omega
  rcases this with rfl | rfl | rfl | rfl | rfl <;> rfl

end Go.Proofs.Ytmbcpmnigggbaaa
namespace Go.Proofs.Ytmbcpmnigggbaaa
open Go.RowKit
theorem isBarrel_any (L : HL) (h : House) (k : Int) (w : World) (hn : h.bs.length ≤ 1000) : Calls Try.prog 202 #[L.enc h, .int .i64 k] w fun e w' => e = .returned (.bool (inR k 0 (h.bs.length - 1))) ∧ Below w.heap.size w w' := by
  go_enter Try.func202, Try.ntmps202
  go_wp2_with (go_at_call 171; refine (between_any _ _ _ _).mono ?_; rintro e w' ⟨rfl, rfl⟩)
  go_ret
  exact ⟨rfl, (Below.refl _ _).alloc (Nat.le_refl _) _⟩
theorem check1_any (n : Int) (w : World) : Calls Try.prog 172 #[.int .i64 n] w fun e w' => e = .returned (.bool (!inR n 0 99)) ∧ w = w' := by
  go_enter Try.func172, Try.ntmps172
  go_wp2_with (go_at_call 171; refine (between_any _ _ _ _).mono ?_; rintro e w' ⟨rfl, rfl⟩)
  go_ret
  exact ⟨rfl, rfl⟩
theorem good1_any (L : HL) (h : House) (b : Nat) (n : Int) (w : World) (hn : h.bs.length ≤ 1000) (hB : HBox w b L h) : Calls Try.prog 210 #[.int .i64 n, .pointer (some ⟨b, 0, none⟩)] w fun e w' => e = .returned (.bool (!inR n 0 (h.bs.length - 1))) ∧ Below w.heap.size w w' := by
  obtain ⟨g0, g1, g2, g3⟩ := hB.cells
  clear hB
  go_enter Try.func210, Try.ntmps210
  go_wp2_with (go_at_call 202; refine (isBarrel_any L h _ _ hn).mono ?_; rintro e w' ⟨rfl, hb⟩)
  go_ret
  exact ⟨rfl, hb⟩

/-- slices.IndexFunc's answer. -/
def firstB (p : Int → Bool) : List Int → Nat → Int
  | [], _ => -1
  | x :: l, k => if p x then (k : Int) else firstB p l (k + 1)
theorem firstB_any (p : Int → Bool) : ∀ (l : List Int) (k : Nat), decide (0 ≤ firstB p l k) = l.any p
  | [], k => by simp [firstB]
  | x :: l, k => by
    unfold firstB
    by_cases h : p x = true
    · rw [if_pos h]; simp [h]
    · rw [if_neg h, firstB_any p l (k + 1)]; simp [h]
theorem firstB_yes {p : Int → Bool} {l : List Int} {k : Nat} {x : Int} (hx : l[k]? = some x) (hp : p x = true) : firstB p (l.drop k) k = k := by
  obtain ⟨h, e⟩ := List.getElem?_eq_some_iff.1 hx
  rw [List.drop_eq_getElem_cons h, firstB, e, if_pos hp]
theorem firstB_no {p : Int → Bool} {l : List Int} {k : Nat} {x : Int} (hx : l[k]? = some x) (hp : p x = false) : firstB p (l.drop k) k = firstB p (l.drop (k + 1)) (k + 1) := by
  obtain ⟨h, e⟩ := List.getElem?_eq_some_iff.1 hx
  rw [List.drop_eq_getElem_cons h, firstB, e, if_neg (by simp [hp])]
theorem firstB_end {p : Int → Bool} {l : List Int} : firstB p (l.drop l.length) l.length = -1 := by simp [firstB]
set_option maxRecDepth 100000 in
set_option maxHeartbeats 4000000 in
theorem index78_any (A : Option Addr) (c : Nat) (l : List Int) (hl : l.length ≤ 1000) (w : World) (hI : IntsAt w w.heap.size A l) :
    Calls Try.prog 188 #[.slice A l.length c, .func (.func 172) #[] #[]] w fun e w' => e = .returned (.int .i64 (firstB (fun x => !inR x 0 99) l 0)) ∧ Below w.heap.size w w' := by
  have HI := Lib.hid hI
  clear hI
  go_enter Try.func188, Try.ntmps188
  go_wp2
  go_loopw [5, 8] (fun _ i wr => ∃ k : Nat, k ≤ l.length ∧ i = .int .i64 k ∧ Hid (firstB (fun x => !inR x 0 99) l 0 = firstB (fun x => !inR x 0 99) (l.drop k) k) ∧ Below w.heap.size w wr) (fun _ i _ => l.length - (intOf i).toNat)
  case atStart => exact ⟨0, Nat.zero_le _, rfl, Lib.hid (by rw [List.drop_zero]), Below.refl _ _⟩
  case round =>
    obtain ⟨k, hk, rfl, hF, hb⟩ := hrel
    by_cases hlt : k < l.length
    · obtain ⟨x, hx⟩ : ∃ x, l[k]? = some x := ⟨_, List.getElem?_eq_getElem hlt⟩
      obtain ⟨b1, o1, rfl, b1lt, d1⟩ := HI.out.at_ hx
      have d2 := below_cell hb d1
      have HX := Lib.hid hx
      clear hx d1
      have hsz := hb.size
      cases hp : (fun x => !inR x 0 99) x
      · have HPX := Lib.hid hp
        have hp' : inR x 0 99 = true := by simpa using hp
        clear hp
        go_wp2_with (go_at_call 172; refine (check1_any _ _).mono ?_; rintro e W5 ⟨rfl, rfl⟩)
        go_roundw
        case rel => exact ⟨k + 1, by omega, by go_num, Lib.hid (by rw [hF.out]; exact firstB_no HX.out HPX.out), hb⟩
        case measure => simp [intOf]; omega
      · have HPX := Lib.hid hp
        have hp' : inR x 0 99 = false := by simpa using hp
        clear hp
        go_wp2_with (go_at_call 172; refine (check1_any _ _).mono ?_; rintro e W5 ⟨rfl, rfl⟩)
        go_ret
        exact ⟨by rw [hF.out, firstB_yes HX.out HPX.out]; rfl, hb⟩
    · obtain rfl : k = l.length := by omega
      go_wp2
      go_ret
      exact ⟨by rw [hF.out, firstB_end]; rfl, hb⟩
theorem contains78_any (A : Option Addr) (c : Nat) (l : List Int) (hl : l.length ≤ 1000) (w : World) (hI : IntsAt w w.heap.size A l) :
    Calls Try.prog 160 #[.slice A l.length c, .func (.func 172) #[] #[]] w fun e w' => e = .returned (.bool (l.any (fun x => !inR x 0 99))) ∧ Below w.heap.size w w' := by
  rw [← firstB_any (fun x => !inR x 0 99) l 0]
  go_enter Try.func160, Try.ntmps160
  go_wp2_with (go_at_call 188; refine (index78_any A c l hl _ hI).mono ?_; rintro e w' ⟨rfl, hb⟩)
  go_ret
  exact ⟨rfl, hb⟩
set_option maxRecDepth 100000 in
set_option maxHeartbeats 4000000 in
theorem index99_any (L : HL) (h : House) (hbl : h.bs.length ≤ 1000) (b : Nat) (A : Option Addr) (c : Nat) (l : List Int) (hl : l.length ≤ 1000) (w : World) (hI : IntsAt w w.heap.size A l) (hB : HBox w b L h) :
    Calls Try.prog 188 #[.slice A l.length c, .func (.func 210) #[] #[.pointer (some ⟨b, 0, none⟩)]] w fun e w' => e = .returned (.int .i64 (firstB (fun x => !inR x 0 (h.bs.length - 1)) l 0)) ∧ Below w.heap.size w w' := by
  have HI := Lib.hid hI
  clear hI
  have HBX := Lib.hid hB
  clear hB
  go_enter Try.func188, Try.ntmps188
  go_wp2
  go_loopw [5, 8] (fun _ i wr => ∃ k : Nat, k ≤ l.length ∧ i = .int .i64 k ∧ Hid (firstB (fun x => !inR x 0 (h.bs.length - 1)) l 0 = firstB (fun x => !inR x 0 (h.bs.length - 1)) (l.drop k) k) ∧ Below w.heap.size w wr) (fun _ i _ => l.length - (intOf i).toNat)
  case atStart => exact ⟨0, Nat.zero_le _, rfl, Lib.hid (by rw [List.drop_zero]), Below.refl _ _⟩
  case round =>
    obtain ⟨k, hk, rfl, hF, hb⟩ := hrel
    by_cases hlt : k < l.length
    · obtain ⟨x, hx⟩ : ∃ x, l[k]? = some x := ⟨_, List.getElem?_eq_getElem hlt⟩
      obtain ⟨b1, o1, rfl, b1lt, d1⟩ := HI.out.at_ hx
      have d2 := below_cell hb d1
      have HX := Lib.hid hx
      clear hx d1
      have hsz := hb.size
      cases hp : (fun x => !inR x 0 (h.bs.length - 1)) x
      · have HPX := Lib.hid hp
        have hp' : inR x 0 (h.bs.length - 1) = true := by simpa using hp
        clear hp
        go_wp2_with (go_at_call 210; refine (good1_any L h b _ _ hbl (HBX.out.of (hb.block _ HBX.out.lt))).mono ?_; rintro e W5 ⟨rfl, hb5⟩)
        go_roundw
        case rel => exact ⟨k + 1, by omega, by go_num, Lib.hid (by rw [hF.out]; exact firstB_no HX.out HPX.out), hb.trans (hb5.mono hsz)⟩
        case measure => simp [intOf]; omega
      · have HPX := Lib.hid hp
        have hp' : inR x 0 (h.bs.length - 1) = false := by simpa using hp
        clear hp
        go_wp2_with (go_at_call 210; refine (good1_any L h b _ _ hbl (HBX.out.of (hb.block _ HBX.out.lt))).mono ?_; rintro e W5 ⟨rfl, hb5⟩)
        go_ret
        exact ⟨by rw [hF.out, firstB_yes HX.out HPX.out]; rfl, hb.trans (hb5.mono hsz)⟩
    · obtain rfl : k = l.length := by omega
      go_wp2
      go_ret
      exact ⟨by rw [hF.out, firstB_end]; rfl, hb⟩
theorem contains99_any (L : HL) (h : House) (hbl : h.bs.length ≤ 1000) (b : Nat) (A : Option Addr) (c : Nat) (l : List Int) (hl : l.length ≤ 1000) (w : World) (hI : IntsAt w w.heap.size A l) (hB : HBox w b L h) :
    Calls Try.prog 160 #[.slice A l.length c, .func (.func 210) #[] #[.pointer (some ⟨b, 0, none⟩)]] w fun e w' => e = .returned (.bool (l.any (fun x => !inR x 0 (h.bs.length - 1)))) ∧ Below w.heap.size w w' := by
  rw [← firstB_any (fun x => !inR x 0 (h.bs.length - 1)) l 0]
  go_enter Try.func160, Try.ntmps160
  go_wp2_with (go_at_call 188; refine (index99_any L h hbl b A c l hl _ hI hB).mono ?_; rintro e w' ⟨rfl, hb⟩)
  go_ret
  exact ⟨rfl, hb⟩
theorem allTo_bad {p : Int × Int → Bool} {l : List (Int × Int)} {k : Nat} {x : Int × Int} (hx : l[k]? = some x) (hp : p x = false) : l.all p = false := by
  rw [List.all_eq_false]
  exact ⟨x, List.mem_of_getElem? hx, by simp [hp]⟩
theorem allTo_good {p : Int × Int → Bool} {l : List (Int × Int)} (h : ∀ j x, j < l.length → l[j]? = some x → p x = true) : l.all p = true := by
  rw [List.all_eq_true]
  intro x hx
  obtain ⟨j, hj⟩ := List.getElem?_of_mem hx
  exact h j x (List.getElem?_eq_some_iff.1 hj).1 hj
theorem allTo_step {p : Int × Int → Bool} {l : List (Int × Int)} {k : Nat} {x : Int × Int} (h : ∀ j x, j < k → l[j]? = some x → p x = true) (hx : l[k]? = some x) (hk : p x = true) : ∀ j x, j < k + 1 → l[j]? = some x → p x = true := by
  intro j y hj hy
  by_cases e : j = k
  · subst e; rw [hx] at hy; cases hy; exact hk
  · exact h j y (by omega) hy
theorem ckH_yes {h : House} (hv : validH h = true) : ckH h = 0 := by simp [ckH, hv]
theorem ckH_no {h : House} (hv : validH h = false) : ckH h = 80 := by simp [ckH, hv]
theorem validH_parts {h : House} (h0 : bigOK h = true) (h1 : h.ks.all kindOK = true) (h2 : h.ps.all (partOK h.ks.length) = true) : validH h = h.bs.all fun b => inR b 0 99 := by
  simp [validH, h0, h1, h2]
theorem any_not_all (l : List Int) (p : Int → Bool) : l.any (fun x => !p x) = !l.all p := by
  rw [Bool.eq_iff_iff]; simp

set_option maxRecDepth 100000 in
set_option maxHeartbeats 4000000 in
theorem check_no (L : HL) (h : House) (hn : h.ks.length ≤ 1000 ∧ h.ps.length ≤ 1000 ∧ h.bs.length ≤ 1000) (hv : bigOK h = false) (w : World) :
    Calls Try.prog 125 #[L.enc h] w fun e w' => e = .returned (.int .i64 (ckH h)) ∧ Below w.heap.size w w' := by
  obtain ⟨n1, n2, n3⟩ := hn
  have hv2 : ckH h = 80 := ckH_no (by simp [validH, hv])
  rw [hv2]
  clear hv2
  have hbw : Below w.heap.size w (w.alloc (.cells #[.slice L.Ak h.ks.length L.ck, .int .i64 h.fl, .slice L.Ap h.ps.length L.cp, .slice L.Ab h.bs.length L.cb] 27)) := (Below.refl _ _).alloc (Nat.le_refl _) _
  obtain ⟨Ak, ck, Ap, cp, Ab, cb⟩ := L
  by_cases k1 : h.ks.length ≤ 3
  · cases f1 : inR h.fl 0 9
    · clear hv
      go_enter Try.func125, Try.ntmps125
      go_wp2_with (go_at_call 171; refine (between_any _ _ _ _).mono ?_; rintro e w' ⟨rfl, rfl⟩)
      go_ret
      exact ⟨rfl, hbw⟩
    · by_cases p1 : h.ps.length ≤ 6
      · have b1 : 4 < h.bs.length := by
          have : ¬ h.bs.length ≤ 4 := fun hb => by simp [bigOK, k1, f1, p1, hb] at hv
          omega
        clear hv
        go_enter Try.func125, Try.ntmps125
        go_wp2_with (go_at_call 171; refine (between_any _ _ _ _).mono ?_; rintro e w' ⟨rfl, rfl⟩)
        go_ret
        exact ⟨rfl, hbw⟩
      · have p2 : 6 < h.ps.length := by omega
        clear hv p1
        go_enter Try.func125, Try.ntmps125
        go_wp2_with (go_at_call 171; refine (between_any _ _ _ _).mono ?_; rintro e w' ⟨rfl, rfl⟩)
        go_ret
        exact ⟨rfl, hbw⟩
  · have k2 : 3 < h.ks.length := by omega
    clear hv k1
    go_enter Try.func125, Try.ntmps125
    go_wp2_with (go_at_call 171; refine (between_any _ _ _ _).mono ?_; rintro e w' ⟨rfl, rfl⟩)
    go_ret
    exact ⟨rfl, hbw⟩

set_option maxRecDepth 100000 in
set_option maxHeartbeats 4000000 in
theorem check_yes (L : HL) (h : House) (hv : bigOK h = true) (w : World) (hH : HouseAt w w.heap.size L h) :
    Calls Try.prog 125 #[L.enc h] w fun e w' => e = .returned (.int .i64 (ckH h)) ∧ Below w.heap.size w w' := by
  have hv' := hv
  simp only [bigOK, Bool.and_eq_true, decide_eq_true_eq] at hv'
  obtain ⟨k1, f1, p1, b1⟩ := hv'
  have HV := Lib.hid hv
  have HH := Lib.hid hH
  clear hv hH
  obtain ⟨Ak, ck, Ap, cp, Ab, cb⟩ := L
  go_enter Try.func125, Try.ntmps125
  go_wp2_with (go_at_call 171; refine (between_any _ _ _ _).mono ?_; rintro e w' ⟨rfl, rfl⟩)
  clear f1
  go_loopw [32] (fun i wr => ∃ k : Nat, k ≤ h.ks.length ∧ i = .int .i64 k ∧ Hid (∀ j x, j < k → h.ks[j]? = some x → kindOK x = true) ∧ Below w.heap.size w wr ∧ HBox wr w.heap.size ⟨Ak, ck, Ap, cp, Ab, cb⟩ h) (fun i _ => h.ks.length - (intOf i).toNat)
  case atStart => exact ⟨0, Nat.zero_le _, rfl, Lib.hid (fun j x hj => by omega), (Below.refl _ _).alloc (Nat.le_refl _) _, HBox.new w ⟨Ak, ck, Ap, cp, Ab, cb⟩ h⟩
  case round =>
    obtain ⟨k, hk, rfl, hok, hb, hB⟩ := hrel
    have hsz := hb.size
    by_cases hlt : k < h.ks.length
    · obtain ⟨x, hx⟩ : ∃ x, h.ks[k]? = some x := ⟨_, List.getElem?_eq_getElem hlt⟩
      obtain ⟨bk, ok, rfl, hbk, d1, d2⟩ := HH.out.k.at_ hx
      have e1 := below_cell hb d1
      have e2 := below_cell hb d2
      have HX := Lib.hid hx
      clear hx d1 d2
      cases h1 : inR x.1 0 9
      · have hno : Hid (kindOK x = false) := Lib.hid (by rw [kindOK, h1]; rfl)
        go_wp2_with (go_at_call 171; refine (between_any _ _ _ _).mono ?_; rintro e w' ⟨rfl, rfl⟩)
        go_ret
        exact ⟨by rw [ckH_no (by simp [validH, allTo_bad HX.out hno.out])]; rfl, hb.alloc hsz _⟩
      · cases h2 : inR x.2 0 20
        · have hno : Hid (kindOK x = false) := Lib.hid (by rw [kindOK, h1, h2]; rfl)
          go_wp2_with (go_at_call 171; refine (between_any _ _ _ _).mono ?_; rintro e w' ⟨rfl, rfl⟩)
          go_ret
          exact ⟨by rw [ckH_no (by simp [validH, allTo_bad HX.out hno.out])]; rfl, hb.alloc hsz _⟩
        · have hyes : Hid (kindOK x = true) := Lib.hid (by rw [kindOK, h1, h2]; rfl)
          go_wp2_with (go_at_call 171; refine (between_any _ _ _ _).mono ?_; rintro e w' ⟨rfl, rfl⟩)
          go_roundw
          case rel => exact ⟨k + 1, by omega, by go_num, Lib.hid (allTo_step hok.out HX.out hyes.out), hb.alloc hsz _, hB.of (Below.heap_alloc _ _ _ hB.lt)⟩
          case measure => simp [intOf]; omega
    · obtain rfl : k = h.ks.length := by omega
      have hkall : Hid (h.ks.all kindOK = true) := Lib.hid (allTo_good hok.out)
      clear hok hlt hk
      obtain ⟨g0, g1, g2, g3⟩ := hB.cells
      go_wp2
      clear g0 g1 g2 g3
      obtain ⟨wo, rfl⟩ : ∃ wo : World, wo = wr := ⟨_, rfl⟩
      go_loopw [50] (fun i wr => ∃ k : Nat, k ≤ h.ps.length ∧ i = .int .i64 k ∧ Hid (∀ j x, j < k → h.ps[j]? = some x → partOK h.ks.length x = true) ∧ Below w.heap.size w wr ∧ HBox wr w.heap.size ⟨Ak, ck, Ap, cp, Ab, cb⟩ h) (fun i _ => h.ps.length - (intOf i).toNat)
      case atStart => exact ⟨0, Nat.zero_le _, rfl, Lib.hid (fun j x hj => by omega), hb, hB⟩
      case round =>
        clear hb hB hsz
        obtain ⟨k, hk, rfl, hok, hb, hB⟩ := hrel
        have hsz := hb.size
        obtain ⟨g0, g1, g2, g3⟩ := hB.cells
        have hlt0 : w.heap.size < wr.heap.size := hB.lt
        have hne0 : ¬ w.heap.size = wr.heap.size := by omega
        by_cases hlt : k < h.ps.length
        · obtain ⟨x, hx⟩ : ∃ x, h.ps[k]? = some x := ⟨_, List.getElem?_eq_getElem hlt⟩
          obtain ⟨bk, ok, rfl, hbk, d1, d2⟩ := HH.out.p.at_ hx
          have e1 := below_cell hb d1
          have e2 := below_cell hb d2
          have HX := Lib.hid hx
          clear hx d1 d2
          cases h1 : inR x.1 0 (h.ks.length - 1)
          · have hno : Hid (partOK h.ks.length x = false) := Lib.hid (by rw [partOK, h1]; rfl)
            go_wp2_with (go_at_call 171; refine (between_any _ _ _ _).mono ?_; rintro e w' ⟨rfl, rfl⟩)
            go_ret
            exact ⟨by rw [ckH_no (by simp [validH, allTo_bad HX.out hno.out])]; rfl, hb.alloc hsz _⟩
          · cases h2 : inR x.2 0 40
            · have hno : Hid (partOK h.ks.length x = false) := Lib.hid (by rw [partOK, h1, h2]; rfl)
              go_wp2_with (go_at_call 171; refine (between_any _ _ _ _).mono ?_; rintro e w' ⟨rfl, rfl⟩)
              go_ret
              exact ⟨by rw [ckH_no (by simp [validH, allTo_bad HX.out hno.out])]; rfl, hb.alloc hsz _⟩
            · have hyes : Hid (partOK h.ks.length x = true) := Lib.hid (by rw [partOK, h1, h2]; rfl)
              go_wp2_with (go_at_call 171; refine (between_any _ _ _ _).mono ?_; rintro e w' ⟨rfl, rfl⟩)
              go_roundw
              case rel => exact ⟨k + 1, by omega, by go_num, Lib.hid (allTo_step hok.out HX.out hyes.out), hb.alloc hsz _, hB.of (Below.heap_alloc _ _ _ hB.lt)⟩
              case measure => simp [intOf]; omega
        · obtain rfl : k = h.ps.length := by omega
          have hpall : Hid (h.ps.all (partOK h.ks.length) = true) := Lib.hid (allTo_good hok.out)
          have hI : IntsAt wr wr.heap.size Ab h.bs := (HH.out.b).keep hsz fun _ _ hlt => hb.cell (p := ⟨_, _, none⟩) hlt
          clear hok hlt hk
          cases ha : (h.bs.all fun b => inR b 0 99)
          · have ha2 : (h.bs.any fun x => !inR x 0 99) = true := by rw [any_not_all, ha]; rfl
            have HA := Lib.hid ha
            clear ha
            go_wp2_with (go_at_call 160; refine (contains78_any Ab cb h.bs (by omega) wr hI).mono ?_; rintro e W5 ⟨rfl, hb5⟩)
            go_ret
            exact ⟨by rw [ckH_no (by rw [validH_parts HV.out hkall.out hpall.out]; exact HA.out)]; rfl, hb.trans (hb5.mono hsz)⟩
          · have ha2 : (h.bs.any fun x => !inR x 0 99) = false := by rw [any_not_all, ha]; rfl
            have HA := Lib.hid ha
            clear ha
            go_wp2_with (go_at_call 160; refine (contains78_any Ab cb h.bs (by omega) wr hI).mono ?_; rintro e W5 ⟨rfl, hb5⟩)
            go_ret
            exact ⟨by rw [ckH_yes (by rw [validH_parts HV.out hkall.out hpall.out]; exact HA.out)]; rfl, hb.trans (hb5.mono hsz)⟩
theorem check_any (L : HL) (h : House) (hn : h.ks.length ≤ 1000 ∧ h.ps.length ≤ 1000 ∧ h.bs.length ≤ 1000) (w : World) (hH : HouseAt w w.heap.size L h) :
    Calls Try.prog 125 #[L.enc h] w fun e w' => e = .returned (.int .i64 (ckH h)) ∧ Below w.heap.size w w' := by
  cases hv : bigOK h
  · exact check_no L h hn hv w
  · exact check_yes L h hv w hH
theorem HOK.ofValid {h : House} (hv : validH h = true) : HOK h := by
  simp only [validH, bigOK, Bool.and_eq_true, decide_eq_true_eq, inR_true, List.all_eq_true] at hv
  obtain ⟨⟨k1, f1, p1, b1⟩, hk, hp, hb⟩ := hv
  refine ⟨k1, f1.1, f1.2, p1, b1, fun i x hx => ?_, fun i x hx => ?_, fun i x hx => hb x (List.mem_of_getElem? hx)⟩
  · have := hk x (List.mem_of_getElem? hx)
    simp only [kindOK, Bool.and_eq_true, inR_true] at this
    omega
  · have := hp x (List.mem_of_getElem? hx)
    simp only [partOK, Bool.and_eq_true, inR_true] at this
    omega
end Go.Proofs.Ytmbcpmnigggbaaa
namespace Go.Proofs.Ytmbcpmnigggbaaa
open Go.RowKit
/-! Plain lists: the parts of a barrel, its cask, and all lists with a barrel for each part. -/
def layAt (h : House) (c : Cask) (i : Int) : Cask := layC c (kindOf h (partOf h i.toNat)) (partOf h i.toNat)
/-- The cask with some parts. -/
def caskIn (h : House) (l : List Int) : Cask := l.foldl (layAt h) c0
theorem caskIn_snoc (h : House) (l : List Int) (i : Int) : caskIn h (l ++ [i]) = layAt h (caskIn h l) i := by simp [caskIn]
/-- The parts among the first k that are in a barrel. -/
def inTo (pack : List Int) (b : Int) : Nat → List Int
  | 0 => []
  | k + 1 => if barrelOf pack k = b then inTo pack b k ++ [(k : Int)] else inTo pack b k
def inOf (pack : List Int) (b : Int) : List Int := inTo pack b pack.length
theorem inTo_len (pack : List Int) (b : Int) : ∀ k, (inTo pack b k).length ≤ k
  | 0 => Nat.le_refl _
  | k + 1 => by
    have := inTo_len pack b k
    unfold inTo
    split
    · simp; omega
    · omega
theorem mem_inTo {pack : List Int} {b : Int} : ∀ {k : Nat} {i : Int}, i ∈ inTo pack b k ↔ ∃ j : Nat, i = (j : Int) ∧ j < k ∧ barrelOf pack j = b
  | 0, i => by simp [inTo]
  | k + 1, i => by
    unfold inTo
    split
    · rename_i hb
      rw [List.mem_append, mem_inTo]
      constructor
      · rintro (⟨j, h1, h2, h3⟩ | h)
        · exact ⟨j, h1, by omega, h3⟩
        · exact ⟨k, by simpa using h, by omega, hb⟩
      · rintro ⟨j, h1, h2, h3⟩
        by_cases e : j = k
        · right; subst e; simpa using h1
        · exact .inl ⟨j, h1, by omega, h3⟩
    · rename_i hb
      rw [mem_inTo]
      constructor
      · rintro ⟨j, h1, h2, h3⟩; exact ⟨j, h1, by omega, h3⟩
      · rintro ⟨j, h1, h2, h3⟩
        by_cases e : j = k
        · subst e; exact (hb h3).elim
        · exact ⟨j, h1, by omega, h3⟩

theorem casksTo_at (h : House) (pack : List Int) (b : Nat) (hb : b < 5) : ∀ k, (∀ j, j < k → -1 ≤ barrelOf pack j ∧ barrelOf pack j ≤ 4) → (casksTo h pack k).getD b c0 = caskIn h (inTo pack b k)
  | 0, _ => by
    simp only [casksTo, inTo, caskIn, List.foldl_nil]
    match b, hb with
    | 0, _ => rfl
    | 1, _ => rfl
    | 2, _ => rfl
    | 3, _ => rfl
    | 4, _ => rfl
  | k + 1, hr => by
    have ih := casksTo_at h pack b hb k (fun j hj => hr j (by omega))
    obtain ⟨r1, r2⟩ := hr k (by omega)
    unfold casksTo inTo
    by_cases hm : barrelOf pack k = -1
    · rw [if_pos hm, if_neg (by omega), ih]
    · rw [if_neg hm]
      by_cases hbb : barrelOf pack k = (b : Int)
      · rw [if_pos hbb, hbb, caskIn_snoc, ← ih]
        simp only [Int.toNat_natCast, List.getD]
        rw [List.getElem?_set_self (by rw [casksTo_len]; omega)]
        simp [layAt]
      · rw [if_neg hbb, ← ih]
        simp only [List.getD]
        rw [List.getElem?_set_ne (by omega)]

/-- All parts are parts of the house. -/
def PartsOK (h : House) (l : List Int) : Prop := ∀ i ∈ l, 0 ≤ i ∧ i < h.ps.length
theorem layAt_upto {h : House} (hv : HOK h) {c : Cask} {k : Nat} (hc : c.upto k) {i : Int} (hi : 0 ≤ i ∧ i < h.ps.length) : (layAt h c i).upto (k + 1) := by
  obtain ⟨kk, -, -, -, ⟨p2, p3⟩, k0, k1, k2, k3⟩ := hv.part (k := i.toNat) (by omega)
  obtain ⟨n0, n1, p0, p1, s0, s1, d0, d1⟩ := hc
  exact ⟨by simp only [layAt, layC]; omega, by simp only [layAt, layC]; omega, by simp only [layAt, layC]; omega, by simp only [layAt, layC]; omega, by simp only [layAt, layC]; omega, by simp only [layAt, layC]; omega, by simp only [layAt, layC]; omega, by simp only [layAt, layC]; omega⟩
theorem snoc_ind {α : Type} {P : List α → Prop} (h0 : P []) (h1 : ∀ l x, P l → P (l ++ [x])) (l : List α) : P l := by
  suffices h : ∀ l : List α, P l.reverse by simpa using h l.reverse
  intro l
  induction l with
  | nil => simpa using h0
  | cons x l ih => rw [List.reverse_cons]; exact h1 _ _ ih
theorem caskIn_upto {h : House} (hv : HOK h) (l : List Int) : PartsOK h l → (caskIn h l).upto l.length := by
  refine snoc_ind (P := fun l => PartsOK h l → (caskIn h l).upto l.length) ?_ ?_ l
  · intro _; exact ⟨by simp [caskIn, c0], by simp [caskIn, c0], by simp [caskIn, c0], by simp [caskIn, c0], by simp [caskIn, c0], by simp [caskIn, c0], by simp [caskIn, c0], by simp [caskIn, c0]⟩
  · intro l x ih hp
    rw [caskIn_snoc, List.length_append]
    exact layAt_upto hv (ih fun i hi => hp i (by simp [hi])) (hp x (by simp))
theorem inTo_parts {h : House} {pack : List Int} {b : Int} {k : Nat} (hk : k ≤ h.ps.length) : PartsOK h (inTo pack b k) := fun i hi => by
  obtain ⟨j, rfl, hj, -⟩ := mem_inTo.1 hi
  omega

/-- Pounds and salt of a barrel. -/
def needC (h : House) (l : List Int) : Int := (caskIn h l).p + saltC h.fl (caskIn h l)
/-- No barrel is over, with a list that may be too short. -/
def fitsR (h : House) (pack : List Int) : Bool := (List.range h.bs.length).all fun b => decide (needC h (inOf pack b) ≤ h.bs.getD b 0)
theorem fitsR_true {h : House} {pack : List Int} : fitsR h pack = true ↔ ∀ b, b < h.bs.length → needC h (inOf pack b) ≤ h.bs.getD b 0 := by
  simp [fitsR]

theorem cask_n (h : House) (l : List Int) : (caskIn h l).n = l.length :=
  snoc_ind (P := fun l => (caskIn h l).n = l.length) rfl (fun l x ih => by rw [caskIn_snoc, List.length_append]; simp only [layAt, layC, ih]; simp) l
/-- Nothing of a cask is less. -/
structure Cask.le (a b : Cask) : Prop where
  n : a.n ≤ b.n
  p : a.p ≤ b.p
  s : a.s ≤ b.s
  d : a.d ≤ b.d
theorem PartsOK.sub {h : House} {l l' : List Int} (hp : PartsOK h l') (hs : l.Sublist l') : PartsOK h l := fun i hi => hp i (hs.subset hi)
end Go.Proofs.Ytmbcpmnigggbaaa
