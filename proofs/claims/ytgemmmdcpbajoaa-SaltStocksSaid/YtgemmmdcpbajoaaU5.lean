import Derived.Test.YtgemmmdcpbajoaaU4
namespace Go.Proofs.Ytgemmmdcpbajoaa
open Go.RowKit

set_option maxRecDepth 100000 in
set_option maxHeartbeats 4000000 in
theorem rising_any (l : List Int) (hl : l.length ≤ 1000) (n : Int) (A : Option Addr) (c : Nat) (w : World) (hI : IntsAt w w.heap.size A l) :
    Calls Try.prog 61 #[.slice A l.length c, .int .i64 0, .int .i64 (n - 1)] w fun e w' => e = .returned (.bool (riseB l n)) ∧ Below w.heap.size w w' := by
  have HI := Lib.hid hI
  clear hI
  go_enter Try.func61, Try.ntmps61
  go_wp2
  go_loopw [7] (fun i wr => ∃ k : Nat, k ≤ l.length ∧ i = .int .i64 k ∧ Hid (∀ j, j < k → riseOK l n j = true) ∧ Below w.heap.size w wr) (fun i _ => l.length - (intOf i).toNat)
  case atStart => exact ⟨0, Nat.zero_le _, rfl, Lib.hid (fun j hj => by omega), Below.refl _ _⟩
  case round =>
    obtain ⟨k, hk', rfl, hok, hb⟩ := hrel
    have hsz := hb.size
    by_cases hlt : k < l.length
    · obtain ⟨x, hx⟩ : ∃ x, l[k]? = some x := ⟨_, List.getElem?_eq_getElem hlt⟩
      have hgx : l.getD k 0 = x := by simp [List.getD, hx]
      have hI := HI.out
      obtain ⟨b1, o1, rfl, b1lt, d1⟩ := HI.out.at_ hx
      have e1 := extB_cell (below_cell hb d1)
      have hki : (k : Int) < l.length := by omega
      have hk0' : (0 : Int) ≤ (k : Int) := by omega
      cases hr : inR x 0 (n - 1)
      · have hno : Hid (riseOK l n k = false) := Lib.hid (by rw [riseOK, hgx, hr]; rfl)
        clear hx hgx hI d1
        go_wp2
        refine wp_region_extW (by kernel_rfl) (by kernel_rfl) ?_
        repeat (go_big_quiet_step ((go_at_call 48; exact ext_same (within1_any _ _ _ _))))
        refine wpQuiet_nil ?_
        rintro _ ⟨x1, rfl⟩
        have hb3 := hb0to hb (extB_below wr x1)
        clear e1
        go_wp2
        go_ret
        exact ⟨by rw [riseB_no hlt hno.out]; rfl, hb3⟩
      · rcases Nat.eq_zero_or_pos k with rfl | hk0
        · have hyes : Hid (riseOK l n 0 = true) := Lib.hid (by rw [riseOK, hgx, hr]; rfl)
          simp only [Nat.add_zero] at e1
          clear hx hgx hI d1
          go_wp2
          refine wp_region_extW (by kernel_rfl) (by kernel_rfl) ?_
          repeat (go_big_quiet_step ((go_at_call 48; exact ext_same (within1_any _ _ _ _))))
          refine wpQuiet_nil ?_
          rintro _ ⟨x1, rfl⟩
          have hb3 := hb0to hb (extB_below wr x1)
          clear e1
          go_wp2
          go_roundw
          case rel => exact ⟨1, by omega, by go_num, Lib.hid (fun j hj => by obtain rfl : j = 0 := (by omega); exact hyes.out), hb3⟩
          case measure => simp [intOf]; omega
        · obtain ⟨y, hy⟩ : ∃ y, l[k - 1]? = some y := ⟨_, List.getElem?_eq_getElem (by omega)⟩
          have hgy : l.getD (k - 1) 0 = y := by simp [List.getD, hy]
          obtain ⟨b1', o1', e', _, d2⟩ := hI.at_ hy
          cases e'
          have hd0 : decide (0 < k) = true := by simp; omega
          have ht3 : (1 : Int) ≤ (k : Int) := by omega
          have ht2 : (0 : Int) ≤ (k : Int) - 1 := by omega
          have ht4 : (k : Int) - 1 < l.length := by omega
          have ec : IntKind.i64.wrap ((k : Int) - 1) = ((k - 1 : Nat) : Int) := by rw [IntWalk.i64_in _ (by omega)]; omega
          have e2 := extB_cell (below_cell hb d2)
          have hk1 : ((k - 1 : Nat) : Int) < l.length := by omega
          have hk2 : k - 1 < l.length := by omega
          by_cases hxy : x ≤ y
          · have hdx : decide (x ≤ y) = true := by simpa using hxy
            have hno : Hid (riseOK l n k = false) := Lib.hid (by rw [riseOK, hgx, hgy, hr]; simp; omega)
            clear hx hgx hy hgy hI d1 d2
            go_wp2
            refine wp_region_extW (by kernel_rfl) (by kernel_rfl) ?_
            repeat (go_big_quiet_step ((go_at_call 48; exact ext_same (within1_any _ _ _ _))))
            refine wpQuiet_nil ?_
            rintro _ ⟨x1, rfl⟩
            have hb3 := hb0to hb (extB_below wr x1)
            clear e1 e2
            go_wp2
            go_ret
            exact ⟨by rw [riseB_no hlt hno.out]; rfl, hb3⟩
          · have hdx : decide (x ≤ y) = false := by simpa using hxy
            have hyes : Hid (riseOK l n k = true) := Lib.hid (by rw [riseOK, hgx, hgy, hr]; simp; omega)
            clear hx hgx hy hgy hI d1 d2
            go_wp2
            refine wp_region_extW (by kernel_rfl) (by kernel_rfl) ?_
            repeat (go_big_quiet_step ((go_at_call 48; exact ext_same (within1_any _ _ _ _))))
            refine wpQuiet_nil ?_
            rintro _ ⟨x1, rfl⟩
            have hb3 := hb0to hb (extB_below wr x1)
            clear e1 e2
            go_wp2
            go_roundw
            case rel => exact ⟨k + 1, by omega, by go_num, Lib.hid (fun j hj => by by_cases e : j = k; exact e ▸ hyes.out; exact hok.out j (by omega)), hb3⟩
            case measure => simp [intOf]; omega
    · obtain rfl : k = l.length := by omega
      have hrise := riseB_yes hok.out
      have HR := Lib.hid hrise
      clear hrise
      go_wp2
      go_ret
      exact ⟨by rw [HR.out]; rfl, hb⟩
theorem areParts_any (L : HL) (h : House) (hn : h.ps.length ≤ 1000) (l : List Int) (hl : l.length ≤ 1000) (A : Option Addr) (c : Nat) (w : World) (hI : IntsAt w w.heap.size A l) :
    Calls Try.prog 24 #[L.enc h, .slice A l.length c] w fun e w' => e = .returned (.bool (riseB l h.ps.length)) ∧ Below w.heap.size w w' := by
  have hbw := (Below.refl _ _).alloc (Nat.le_refl w.heap.size) (.cells #[.slice L.Ak h.ks.length L.ck, .int .i64 h.fl, .slice L.Ap h.ps.length L.cp, .slice L.Ab h.bs.length L.cb] 26)
  have HR := Lib.hid (rising_any l hl h.ps.length A c _ (ints_later hI hbw))
  have HBW := Lib.hid hbw
  clear hI hbw
  go_enter Try.func24, Try.ntmps24
  go_wp2_with (go_at_call 61; refine HR.out.mono ?_; rintro e w' ⟨rfl, hb⟩)
  go_ret
  exact ⟨rfl, hb0to HBW.out hb⟩
theorem rSalt_eq {h : House} {l : List Int} {e : Int} (he : e = askH h (riseB l h.ps.length)) (h0 : e ≠ 0) : saltRet h l = (0, e) := by
  subst he
  unfold askH at h0 ⊢
  unfold saltRet
  split
  · rfl
  · rename_i hv
    rw [if_neg hv] at h0
    split
    · rfl
    · rename_i hr; rw [if_neg hr] at h0; exact (h0 rfl).elim
set_option maxRecDepth 100000 in
set_option maxHeartbeats 4000000 in
theorem rSalt_any (L : HL) (h : House) (hn : h.ks.length ≤ 1000 ∧ h.ps.length ≤ 1000 ∧ h.bs.length ≤ 1000) (l : List Int) (hl : l.length ≤ 1000) (A : Option Addr) (c : Nat) (w : World) (hH : HouseAt w w.heap.size L h) (hI : IntsAt w w.heap.size A l) :
    Calls Try.prog 30 #[L.enc h, .slice A l.length c] w fun e w' => e = .returned (.tuple #[.int .i64 (saltRet h l).1, .int .i64 (saltRet h l).2]) ∧ Below w.heap.size w w' := by
  have hbw := (Below.refl _ _).alloc (Nat.le_refl w.heap.size) (.cells #[.slice L.Ak h.ks.length L.ck, .int .i64 h.fl, .slice L.Ap h.ps.length L.cp, .slice L.Ab h.bs.length L.cb] 26)
  have HB := HBox.new w L h
  obtain ⟨g0, g1, g2, g3⟩ := HB.cells
  have HH := Lib.hid (hH.below hbw)
  have HI := Lib.hid (ints_later hI hbw)
  have HBW := Lib.hid hbw
  obtain ⟨W1, hW1⟩ : ∃ W1, W1 = w.alloc (.cells #[.slice L.Ak h.ks.length L.ck, .int .i64 h.fl, .slice L.Ap h.ps.length L.cp, .slice L.Ab h.bs.length L.cb] 26) := ⟨_, rfl⟩
  rw [← hW1] at HB g0 g1 g2 g3 HH HI HBW
  have e0 := extB_cell g0
  have e1 := extB_cell g1
  have e2 := extB_cell g2
  have e3 := extB_cell g3
  have HW := Lib.hid hW1
  have HHE := Lib.hid (fun x => extB_house (x := x) HH.out (Nat.le_refl _))
  have HIE := Lib.hid (fun x => (ints_later HI.out (extB_below W1 x)))
  have HXB := Lib.hid HB
  clear hbw hH hI hW1 HB g0 g1 g2 g3
  obtain ⟨e, he⟩ : ∃ e, e = askH h (riseB l h.ps.length) := ⟨_, rfl⟩
  have HA := Lib.hid (fun x => by have := ask_any L h hn (riseB l h.ps.length) (extB W1 x) (HHE.out x); rwa [← he] at this)
  have HP := Lib.hid (fun x => areParts_any L h hn.2.1 l hl A c (extB W1 x) (HIE.out x))
  by_cases h0 : e = 0
  · have hd : (e != 0) = false := by simp [h0]
    have hv : validH h = true ∧ riseB l h.ps.length = true := by
      rw [h0] at he
      unfold askH at he
      split at he
      · cases he
      · split at he
        · cases he
        · rename_i h1 h2
          exact ⟨by simpa using h1, by simpa using h2⟩
    have HV := Lib.hid (HOK.ofValid hv.1)
    have HV1 := Lib.hid hv.1
    have HV2 := Lib.hid hv.2
    have hl6 := riseB_len hv.2
    have hpl := HV.out.pl
    have HS := Lib.hid (fun W hW => saltOf_any L h HV.out l (by omega) (riseB_in hv.2) A c W (HH.out.below hW) (ints_later HI.out hW))
    clear he h0 hv
    go_enter Try.func30, Try.ntmps30
    go_wp2
    rw [← HW.out]
    refine wp_region_extW (by kernel_rfl) (by kernel_rfl) ?_
    repeat (go_big_quiet_step (first
      | (go_at_call 24; exact ext_call (HP.out _))
      | (go_at_call 69; exact ext_call (HA.out _))))
    refine wpQuiet_nil ?_
    rintro _ ⟨x1, rfl⟩
    have hb3 := extB_below W1 x1
    have g0 := e0 x1
    have g1 := e1 x1
    have g2 := e2 x1
    have g3 := e3 x1
    clear e0 e1 e2 e3
    go_wp2_with (go_at_call 80; refine (HS.out _ hb3).mono ?_; rintro e w3 ⟨rfl, hb4⟩)
    go_ret2
    exact ⟨by rw [saltRet, if_neg (by rw [HV1.out]; decide), if_neg (by rw [HV2.out]; decide)]; rfl, hb0to HBW.out (hb0to hb3 hb4)⟩
  · have hd : (e != 0) = true := by simp [h0]
    have HR := Lib.hid (rSalt_eq he h0)
    clear he h0
    go_enter Try.func30, Try.ntmps30
    go_wp2
    rw [← HW.out]
    refine wp_region_extW (by kernel_rfl) (by kernel_rfl) ?_
    repeat (go_big_quiet_step (first
      | (go_at_call 24; exact ext_call (HP.out _))
      | (go_at_call 69; exact ext_call (HA.out _))))
    refine wpQuiet_nil ?_
    rintro _ ⟨x1, rfl⟩
    have hb3 := extB_below W1 x1
    clear e0 e1 e2 e3
    go_wp2
    go_ret2
    exact ⟨by rw [HR.out]; rfl, hb0to HBW.out hb3⟩
end Go.Proofs.Ytgemmmdcpbajoaa
