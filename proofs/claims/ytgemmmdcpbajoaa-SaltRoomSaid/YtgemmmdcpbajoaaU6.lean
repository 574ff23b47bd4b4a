import Derived.Test.YtgemmmdcpbajoaaU4
namespace Go.Proofs.Ytgemmmdcpbajoaa
open Go.RowKit

set_option maxRecDepth 100000 in
set_option maxHeartbeats 4000000 in
theorem rising_any (l : List Int) (hl : l.length ≤ 1000) (n : Int) (A : Option Addr) (c : Nat) (w : World) (hI : IntsAt w w.heap.size A l) :
    Calls Try.prog 61 #[.slice A l.length c, .int .i64 0, .int .i64 (n - 1)] w fun e w' => e = .returned (.bool (riseB l n)) ∧ Below w.heap.size w w' := by
  have HI := Lib.hid hI
  clear hI
  go_enter Try.func61, Try.ntmps61
  go_wp2
  go_loopw [7] (fun i wr => ∃ k : Nat, k ≤ l.length ∧ i = .int .i64 k ∧ Hid (∀ j, j < k → riseOK l n j = true) ∧ Below w.heap.size w wr) (fun i _ => l.length - (intOf i).toNat)
  case atStart => exact ⟨0, Nat.zero_le _, rfl, Lib.hid (fun j hj => by omega), Below.refl _ _⟩
  case round =>
    obtain ⟨k, hk', rfl, hok, hb⟩ := hrel
    have hsz := hb.size
    by_cases hlt : k < l.length
    · obtain ⟨x, hx⟩ : ∃ x, l[k]? = some x := ⟨_, List.getElem?_eq_getElem hlt⟩
      have hgx : l.getD k 0 = x := by simp [List.getD, hx]
      have hI := HI.out
      obtain ⟨b1, o1, rfl, b1lt, d1⟩ := HI.out.at_ hx
      have e1 := extB_cell (below_cell hb d1)
      have hki : (k : Int) < l.length := by omega
      have hk0' : (0 : Int) ≤ (k : Int) := by omega
      cases hr : inR x 0 (n - 1)
      · have hno : Hid (riseOK l n k = false) := Lib.hid (by rw [riseOK, hgx, hr]; rfl)
        clear hx hgx hI d1
        go_wp2
        refine wp_region_extW (by kernel_rfl) (by kernel_rfl) ?_
        repeat (go_big_quiet_step ((go_at_call 48; exact ext_same (within1_any _ _ _ _))))
        refine wpQuiet_nil ?_
        rintro _ ⟨x1, rfl⟩
        have hb3 := hb0to hb (extB_below wr x1)
        clear e1
        go_wp2
        go_ret
        exact ⟨by rw [riseB_no hlt hno.out]; rfl, hb3⟩
      · rcases Nat.eq_zero_or_pos k with rfl | hk0
        · have hyes : Hid (riseOK l n 0 = true) := Lib.hid (by rw [riseOK, hgx, hr]; rfl)
          simp only [Nat.add_zero] at e1
          clear hx hgx hI d1
          go_wp2
          refine wp_region_extW (by kernel_rfl) (by kernel_rfl) ?_
          repeat (go_big_quiet_step ((go_at_call 48; exact ext_same (within1_any _ _ _ _))))
          refine wpQuiet_nil ?_
          rintro _ ⟨x1, rfl⟩
          have hb3 := hb0to hb (extB_below wr x1)
          clear e1
          go_wp2
          go_roundw
          case rel => exact ⟨1, by omega, by go_num, Lib.hid (fun j hj => by obtain rfl : j = 0 := (by omega); exact hyes.out), hb3⟩
          case measure => simp [intOf]; omega
        · obtain ⟨y, hy⟩ : ∃ y, l[k - 1]? = some y := ⟨_, List.getElem?_eq_getElem (by omega)⟩
          have hgy : l.getD (k - 1) 0 = y := by simp [List.getD, hy]
          obtain ⟨b1', o1', e', _, d2⟩ := hI.at_ hy
          cases e'
          have hd0 : decide (0 < k) = true := by simp; omega
          have ht3 : (1 : Int) ≤ (k : Int) := by omega
          have ht2 : (0 : Int) ≤ (k : Int) - 1 := by omega
          have ht4 : (k : Int) - 1 < l.length := by omega
          have ec : IntKind.i64.wrap ((k : Int) - 1) = ((k - 1 : Nat) : Int) := by rw [IntWalk.i64_in _ (by omega)]; omega
          have e2 := extB_cell (below_cell hb d2)
          have hk1 : ((k - 1 : Nat) : Int) < l.length := by omega
          have hk2 : k - 1 < l.length := by omega
          by_cases hxy : x ≤ y
          · have hdx : decide (x ≤ y) = true := by simpa using hxy
            have hno : Hid (riseOK l n k = false) := Lib.hid (by rw [riseOK, hgx, hgy, hr]; simp; omega)
            clear hx hgx hy hgy hI d1 d2
            go_wp2
            refine wp_region_extW (by kernel_rfl) (by kernel_rfl) ?_
            repeat (go_big_quiet_step ((go_at_call 48; exact ext_same (within1_any _ _ _ _))))
            refine wpQuiet_nil ?_
            rintro _ ⟨x1, rfl⟩
            have hb3 := hb0to hb (extB_below wr x1)
            clear e1 e2
            go_wp2
            go_ret
            exact ⟨by rw [riseB_no hlt hno.out]; rfl, hb3⟩
          · have hdx : decide (x ≤ y) = false := by simpa using hxy
            have hyes : Hid (riseOK l n k = true) := Lib.hid (by rw [riseOK, hgx, hgy, hr]; simp; omega)
            clear hx hgx hy hgy hI d1 d2
            go_wp2
            refine wp_region_extW (by kernel_rfl) (by kernel_rfl) ?_
            repeat (go_big_quiet_step ((go_at_call 48; exact ext_same (within1_any _ _ _ _))))
            refine wpQuiet_nil ?_
            rintro _ ⟨x1, rfl⟩
            have hb3 := hb0to hb (extB_below wr x1)
            clear e1 e2
            go_wp2
            go_roundw
            case rel => exact ⟨k + 1, by omega, by go_num, Lib.hid (fun j hj => by by_cases e : j = k; exact e ▸ hyes.out; exact hok.out j (by omega)), hb3⟩
            case measure => simp [intOf]; omega
    · obtain rfl : k = l.length := by omega
      have hrise := riseB_yes hok.out
      have HR := Lib.hid hrise
      clear hrise
      go_wp2
      go_ret
      exact ⟨by rw [HR.out]; rfl, hb⟩
theorem areParts_any (L : HL) (h : House) (hn : h.ps.length ≤ 1000) (l : List Int) (hl : l.length ≤ 1000) (A : Option Addr) (c : Nat) (w : World) (hI : IntsAt w w.heap.size A l) :
    Calls Try.prog 24 #[L.enc h, .slice A l.length c] w fun e w' => e = .returned (.bool (riseB l h.ps.length)) ∧ Below w.heap.size w w' := by
  have hbw := (Below.refl _ _).alloc (Nat.le_refl w.heap.size) (.cells #[.slice L.Ak h.ks.length L.ck, .int .i64 h.fl, .slice L.Ap h.ps.length L.cp, .slice L.Ab h.bs.length L.cb] 26)
  have HR := Lib.hid (rising_any l hl h.ps.length A c _ (ints_later hI hbw))
  have HBW := Lib.hid hbw
  clear hI hbw
  go_enter Try.func24, Try.ntmps24
  go_wp2_with (go_at_call 61; refine HR.out.mono ?_; rintro e w' ⟨rfl, hb⟩)
  go_ret
  exact ⟨rfl, hb0to HBW.out hb⟩
theorem rSalt_eq {h : House} {l : List Int} {e : Int} (he : e = askH h (riseB l h.ps.length)) (h0 : e ≠ 0) : saltRet h l = (0, e) := by
  subst he
  unfold askH at h0 ⊢
  unfold saltRet
  split
  · rfl
  · rename_i hv
    rw [if_neg hv] at h0
    split
    · rfl
    · rename_i hr; rw [if_neg hr] at h0; exact (h0 rfl).elim
set_option maxRecDepth 100000 in
set_option maxHeartbeats 4000000 in
theorem rSalt_any (L : HL) (h : House) (hn : h.ks.length ≤ 1000 ∧ h.ps.length ≤ 1000 ∧ h.bs.length ≤ 1000) (l : List Int) (hl : l.length ≤ 1000) (A : Option Addr) (c : Nat) (w : World) (hH : HouseAt w w.heap.size L h) (hI : IntsAt w w.heap.size A l) :
    Calls Try.prog 30 #[L.enc h, .slice A l.length c] w fun e w' => e = .returned (.tuple #[.int .i64 (saltRet h l).1, .int .i64 (saltRet h l).2]) ∧ Below w.heap.size w w' := by
  have hbw := (Below.refl _ _).alloc (Nat.le_refl w.heap.size) (.cells #[.slice L.Ak h.ks.length L.ck, .int .i64 h.fl, .slice L.Ap h.ps.length L.cp, .slice L.Ab h.bs.length L.cb] 26)
  have HB := HBox.new w L h
  obtain ⟨g0, g1, g2, g3⟩ := HB.cells
  have HH := Lib.hid (hH.below hbw)
  have HI := Lib.hid (ints_later hI hbw)
  have HBW := Lib.hid hbw
  obtain ⟨W1, hW1⟩ : ∃ W1, W1 = w.alloc (.cells #[.slice L.Ak h.ks.length L.ck, .int .i64 h.fl, .slice L.Ap h.ps.length L.cp, .slice L.Ab h.bs.length L.cb] 26) := ⟨_, rfl⟩
  rw [← hW1] at HB g0 g1 g2 g3 HH HI HBW
  have e0 := extB_cell g0
  have e1 := extB_cell g1
  have e2 := extB_cell g2
  have e3 := extB_cell g3
  have HW := Lib.hid hW1
  have HHE := Lib.hid (fun x => extB_house (x := x) HH.out (Nat.le_refl _))
  have HIE := Lib.hid (fun x => (ints_later HI.out (extB_below W1 x)))
  have HXB := Lib.hid HB
  clear hbw hH hI hW1 HB g0 g1 g2 g3
  obtain ⟨e, he⟩ : ∃ e, e = askH h (riseB l h.ps.length) := ⟨_, rfl⟩
  have HA := Lib.hid (fun x => by have := ask_any L h hn (riseB l h.ps.length) (extB W1 x) (HHE.out x); rwa [← he] at this)
  have HP := Lib.hid (fun x => areParts_any L h hn.2.1 l hl A c (extB W1 x) (HIE.out x))
  by_cases h0 : e = 0
  · have hd : (e != 0) = false := by simp [h0]
    have hv : validH h = true ∧ riseB l h.ps.length = true := by
      rw [h0] at he
      unfold askH at he
      split at he
      · cases he
      · split at he
        · cases he
        · rename_i h1 h2
          exact ⟨by simpa using h1, by simpa using h2⟩
    have HV := Lib.hid (HOK.ofValid hv.1)
    have HV1 := Lib.hid hv.1
    have HV2 := Lib.hid hv.2
    have hl6 := riseB_len hv.2
    have hpl := HV.out.pl
    have HS := Lib.hid (fun W hW => saltOf_any L h HV.out l (by omega) (riseB_in hv.2) A c W (HH.out.below hW) (ints_later HI.out hW))
    clear he h0 hv
    go_enter Try.func30, Try.ntmps30
    go_wp2
    rw [← HW.out]
    refine wp_region_extW (by kernel_rfl) (by kernel_rfl) ?_
    repeat (go_big_quiet_step (first
      | (go_at_call 24; exact ext_call (HP.out _))
      | (go_at_call 69; exact ext_call (HA.out _))))
    refine wpQuiet_nil ?_
    rintro _ ⟨x1, rfl⟩
    have hb3 := extB_below W1 x1
    have g0 := e0 x1
    have g1 := e1 x1
    have g2 := e2 x1
    have g3 := e3 x1
    clear e0 e1 e2 e3
    go_wp2_with (go_at_call 80; refine (HS.out _ hb3).mono ?_; rintro e w3 ⟨rfl, hb4⟩)
    go_ret2
    exact ⟨by rw [saltRet, if_neg (by rw [HV1.out]; decide), if_neg (by rw [HV2.out]; decide)]; rfl, hb0to HBW.out (hb0to hb3 hb4)⟩
  · have hd : (e != 0) = true := by simp [h0]
    have HR := Lib.hid (rSalt_eq he h0)
    clear he h0
    go_enter Try.func30, Try.ntmps30
    go_wp2
    rw [← HW.out]
    refine wp_region_extW (by kernel_rfl) (by kernel_rfl) ?_
    repeat (go_big_quiet_step (first
      | (go_at_call 24; exact ext_call (HP.out _))
      | (go_at_call 69; exact ext_call (HA.out _))))
    refine wpQuiet_nil ?_
    rintro _ ⟨x1, rfl⟩
    have hb3 := extB_below W1 x1
    clear e0 e1 e2 e3
    go_wp2
    go_ret2
    exact ⟨by rw [HR.out]; rfl, hb0to HBW.out hb3⟩
end Go.Proofs.Ytgemmmdcpbajoaa
namespace Go.Proofs.Ytgemmmdcpbajoaa
open Go.RowKit

theorem all_range {pack : List Int} {nb : Nat} (h : pack.all (fun b => inR b 0 ((nb : Int) - 1)) = true) : InRange 0 nb pack := fun x hx => by
  have := inR_true.1 (List.all_eq_true.1 h x hx)
  omega
theorem goodB_parts {h : House} {pack : List Int} (hg : goodB h pack = true) : pack.length = h.ps.length ∧ InRange 0 h.bs.length pack ∧ fitsC h (packedC h pack) = true := by
  simp only [goodB, Bool.and_eq_true, decide_eq_true_eq] at hg
  exact ⟨hg.1, all_range hg.2.1, hg.2.2⟩
theorem goodB_eq {h : House} (hv : HOK h) {pack : List Int} (hl : pack.length = h.ps.length) (hr : pack.all (fun b => inR b 0 ((h.bs.length : Int) - 1)) = true) : goodB h pack = fitsR h pack := by
  rw [goodB, hr, decide_eq_true hl, fits_packed hv hl ((all_range hr).low (by omega)) (by have := hv.bl; omega)]
  rfl
set_option maxRecDepth 100000 in
set_option maxHeartbeats 4000000 in
theorem isPacking_any (L : HL) (h : House) (hv : HOK h) (pack : List Int) (hl : pack.length ≤ 1000) (A : Option Addr) (c : Nat) (w : World) (hH : HouseAt w w.heap.size L h) (hI : IntsAt w w.heap.size A pack) :
    Calls Try.prog 52 #[L.enc h, .slice A pack.length c] w fun e w' => e = .returned (.bool (goodB h pack)) ∧ Below w.heap.size w w' := by
  have HH := Lib.hid hH
  have HI := Lib.hid hI
  have HV := Lib.hid hv
  have hpl6 := hv.pl
  have hbl4 := hv.bl
  clear hH hI hv
  by_cases hlen : pack.length = h.ps.length
  · have hd : ((pack.length : Int) != (h.ps.length : Int)) = false := by simp; omega
    have HLEN := Lib.hid hlen
    clear hlen
    go_enter Try.func52, Try.ntmps52
    go_wp2
    go_loopw [5] (fun i wr => ∃ k : Nat, k ≤ pack.length ∧ i = .int .i64 k ∧ Hid (∀ (j : Nat) (x : Int), j < k → pack[j]? = some x → inR x 0 (h.bs.length - 1) = true) ∧ Below w.heap.size w wr ∧ HBox wr w.heap.size L h) (fun i _ => pack.length - (intOf i).toNat)
    case atStart => exact ⟨0, Nat.zero_le _, rfl, Lib.hid (fun j x hj => by omega), (Below.refl _ _).alloc (Nat.le_refl _) _, HBox.new w L h⟩
    case round =>
      obtain ⟨k, hk, rfl, hok, hb, hB⟩ := hrel
      have hsz := hb.size
      obtain ⟨g0, g1, g2, g3⟩ := hB.cells
      by_cases hlt : k < pack.length
      · obtain ⟨x, hx⟩ : ∃ x, pack[k]? = some x := ⟨_, List.getElem?_eq_getElem hlt⟩
        obtain ⟨b1, o1, rfl, b1lt, d1⟩ := HI.out.at_ hx
        have e5 := extB_cell (below_cell hb d1)
        have e0 := extB_cell g0
        have e1 := extB_cell g1
        have e2 := extB_cell g2
        have e3 := extB_cell g3
        have hki : (k : Int) < pack.length := by omega
        have hk0 : (0 : Int) ≤ (k : Int) := by omega
        have HX := Lib.hid hx
        clear hx d1
        cases hr : inR x 0 (h.bs.length - 1)
        · have hno : Hid ((pack.all fun b => inR b 0 (h.bs.length - 1)) = false) := Lib.hid (by rw [List.all_eq_false]; exact ⟨x, List.mem_of_getElem? HX.out, by simp [hr]⟩)
          go_wp2
          refine wp_region_extW (by kernel_rfl) (by kernel_rfl) ?_
          repeat (go_big_quiet_step ((go_at_call 51; exact ext_call (rIsBarrel_any L h _ _ (by omega)))))
          refine wpQuiet_nil ?_
          rintro _ ⟨x1, rfl⟩
          have hb3 := hb0to hb (extB_below wr x1)
          clear e0 e1 e2 e3 e5
          go_wp2
          go_ret
          exact ⟨by rw [goodB, hno.out]; simp, hb3⟩
        · have HR := Lib.hid hr
          go_wp2
          refine wp_region_extW (by kernel_rfl) (by kernel_rfl) ?_
          repeat (go_big_quiet_step ((go_at_call 51; exact ext_call (rIsBarrel_any L h _ _ (by omega)))))
          refine wpQuiet_nil ?_
          rintro _ ⟨x1, rfl⟩
          have hb2 := extB_below wr x1
          clear e0 e1 e2 e3 e5
          go_wp2
          go_roundw
          case rel => exact ⟨k + 1, by omega, by go_num, Lib.hid (fun j y hj hy => by by_cases e : j = k; subst e; rw [HX.out] at hy; cases hy; exact HR.out; exact hok.out j y (by omega) hy), hb0to hb hb2, hB.of (hb2.block _ hB.lt)⟩
          case measure => simp [intOf]; omega
      · obtain rfl : k = pack.length := by omega
        have hall : (pack.all fun b => inR b 0 (h.bs.length - 1)) = true := by
          rw [List.all_eq_true]
          intro x hx
          obtain ⟨j, hj⟩ := List.getElem?_of_mem hx
          exact hok.out j x (List.getElem?_eq_some_iff.1 hj).1 hj
        have HG := Lib.hid (goodB_eq HV.out HLEN.out hall)
        clear hall hok
        go_wp2_with (go_at_call 91; refine (rfits_any L h HV.out pack (Nat.le_of_eq HLEN.out) A c _ (HH.out.below hb) (ints_later HI.out hb)).mono ?_; rintro e w3 ⟨rfl, hb3⟩)
        go_ret
        exact ⟨by rw [HG.out]; rfl, hb0to hb hb3⟩
  · have hd : ((pack.length : Int) != (h.ps.length : Int)) = true := by simp; omega
    have HLEN := Lib.hid hlen
    clear hlen
    go_enter Try.func52, Try.ntmps52
    go_wp2
    go_ret
    exact ⟨by rw [goodB, decide_eq_false HLEN.out]; rfl, (Below.refl _ _).alloc (Nat.le_refl _) _⟩
set_option maxRecDepth 100000 in
set_option maxHeartbeats 4000000 in
theorem rGood_any (L : HL) (h : House) (hn : h.ks.length ≤ 1000 ∧ h.ps.length ≤ 1000 ∧ h.bs.length ≤ 1000) (pack : List Int) (hl : pack.length ≤ 1000) (A : Option Addr) (c : Nat) (w : World) (hH : HouseAt w w.heap.size L h) (hI : IntsAt w w.heap.size A pack) :
    Calls Try.prog 32 #[L.enc h, .slice A pack.length c] w fun e w' => e = .returned (.tuple #[.bool (goodRet h pack).1, .int .i64 (goodRet h pack).2]) ∧ Below w.heap.size w w' := by
  have hbw := (Below.refl _ _).alloc (Nat.le_refl w.heap.size) (.cells #[.slice L.Ak h.ks.length L.ck, .int .i64 h.fl, .slice L.Ap h.ps.length L.cp, .slice L.Ab h.bs.length L.cb] 26)
  have HC := Lib.hid (rcheck_any L h hn _ (hH.below hbw))
  have HB := Lib.hid (HBox.new w L h)
  have HBW := Lib.hid hbw
  have HH := Lib.hid hH
  have HI := Lib.hid hI
  clear hbw hH hI
  cases hv : validH h
  · have hk : ckH h = 80 := ckH_no hv
    have HV := Lib.hid hv
    clear hv
    go_enter Try.func32, Try.ntmps32
    go_wp2_with (go_at_call 29; refine HC.out.mono ?_; rintro e w1 ⟨rfl, hb1⟩)
    go_ret2
    exact ⟨by rw [goodRet, if_pos HV.out]; rfl, hb0to HBW.out hb1⟩
  · have hk : ckH h = 0 := ckH_yes hv
    have HV := Lib.hid (HOK.ofValid hv)
    have HV' := Lib.hid hv
    clear hv
    go_enter Try.func32, Try.ntmps32
    go_wp2_with (first
      | (go_at_call 29; refine HC.out.mono ?_; rintro e w1 ⟨rfl, hb1⟩; obtain ⟨g0, g1, g2, g3⟩ := (HB.out.of (hb1.block _ HB.out.lt)).cells)
      | (go_at_call 52; refine (isPacking_any L h HV.out pack hl A c _ (HH.out.below (hb0to HBW.out hb1)) (ints_later HI.out (hb0to HBW.out hb1))).mono ?_; rintro e w2 ⟨rfl, hb2⟩))
    go_ret2
    exact ⟨by rw [goodRet, if_neg (by rw [HV'.out]; decide)]; rfl, hb0to HBW.out (hb0to hb1 hb2)⟩
set_option maxRecDepth 100000 in
set_option maxHeartbeats 4000000 in
theorem rBarrel_any (L : HL) (h : House) (hn : h.ks.length ≤ 1000 ∧ h.ps.length ≤ 1000 ∧ h.bs.length ≤ 1000) (pack : List Int) (hl : pack.length ≤ 1000) (b : Int) (A : Option Addr) (c : Nat) (w : World) (hH : HouseAt w w.heap.size L h) (hI : IntsAt w w.heap.size A pack) :
    Calls Try.prog 34 #[L.enc h, .slice A pack.length c, .int .i64 b] w fun e w' => e = .returned (.tuple #[.int .i64 (barrelRet h pack b).1, .int .i64 (barrelRet h pack b).2.1, .int .i64 (barrelRet h pack b).2.2.1, .int .i64 (barrelRet h pack b).2.2.2]) ∧ Below w.heap.size w w' := by
  have hbw := (Below.refl _ _).alloc (Nat.le_refl w.heap.size) (.cells #[.slice L.Ak h.ks.length L.ck, .int .i64 h.fl, .slice L.Ap h.ps.length L.cp, .slice L.Ab h.bs.length L.cb] 26)
  have HC := Lib.hid (rcheck_any L h hn _ (hH.below hbw))
  have HB := Lib.hid (HBox.new w L h)
  have HBW := Lib.hid hbw
  have HH := Lib.hid hH
  have HI := Lib.hid hI
  clear hbw hH hI
  cases hv : validH h
  · have hk : ckH h = 80 := ckH_no hv
    have HV := Lib.hid hv
    clear hv
    go_enter Try.func34, Try.ntmps34
    go_wp2_with (go_at_call 29; refine HC.out.mono ?_; rintro e w1 ⟨rfl, hb1⟩)
    refine bodyPost_ret (v := .tuple #[.int .i64 0, .int .i64 0, .int .i64 0, .int .i64 80]) (by simp [results, Try.results34, go_sem]) rfl ⟨by rw [barrelRet, if_pos HV.out], hb0to HBW.out hb1⟩
  · have hk : ckH h = 0 := ckH_yes hv
    have HV := Lib.hid (HOK.ofValid hv)
    have HV' := Lib.hid hv
    clear hv
    cases hg : goodB h pack
    · have HG := Lib.hid hg
      go_enter Try.func34, Try.ntmps34
      go_wp2_with (first
        | (go_at_call 29; refine HC.out.mono ?_; rintro e w1 ⟨rfl, hb1⟩; obtain ⟨g0, g1, g2, g3⟩ := (HB.out.of (hb1.block _ HB.out.lt)).cells)
        | (go_at_call 52; refine (isPacking_any L h HV.out pack hl A c _ (HH.out.below (hb0to HBW.out hb1)) (ints_later HI.out (hb0to HBW.out hb1))).mono ?_; rintro e w2 ⟨rfl, hb2⟩))
      refine bodyPost_ret (v := .tuple #[.int .i64 0, .int .i64 0, .int .i64 0, .int .i64 1]) (by simp [results, Try.results34, go_sem]) rfl ⟨by rw [barrelRet, if_neg (by rw [HV'.out]; decide), HG.out]; rfl, hb0to HBW.out (hb0to hb1 hb2)⟩
    · have HG := Lib.hid hg
      have hb1000 := hn.2.2
      cases hr : inR b 0 (h.bs.length - 1)
      · have HR := Lib.hid hr
        go_enter Try.func34, Try.ntmps34
        go_wp2_with (first
          | (go_at_call 29; refine HC.out.mono ?_; rintro e w1 ⟨rfl, hb1⟩; obtain ⟨g0, g1, g2, g3⟩ := (HB.out.of (hb1.block _ HB.out.lt)).cells)
          | (go_at_call 52; refine (isPacking_any L h HV.out pack hl A c _ (HH.out.below (hb0to HBW.out hb1)) (ints_later HI.out (hb0to HBW.out hb1))).mono ?_; rintro e w2 ⟨rfl, hb2⟩; have x0 := below_cell hb2 g0; have x1 := below_cell hb2 g1; have x2 := below_cell hb2 g2; have x3 := below_cell hb2 g3)
          | (go_at_call 51; refine (rIsBarrel_any L h _ _ hb1000).mono ?_; rintro e w3 ⟨rfl, hb3⟩))
        refine bodyPost_ret (v := .tuple #[.int .i64 0, .int .i64 0, .int .i64 0, .int .i64 1]) (by simp [results, Try.results34, go_sem]) rfl ⟨by rw [barrelRet, if_neg (by rw [HV'.out]; decide), HG.out, HR.out]; rfl, hb0to HBW.out (hb0to hb1 (hb0to hb2 hb3))⟩
      · obtain ⟨hb0, hbl⟩ := inR_true.1 hr
        obtain ⟨bn, rfl⟩ : ∃ bn : Nat, b = (bn : Int) := ⟨b.toNat, by omega⟩
        have hb5 : bn < 5 := by have := HV.out.bl; omega
        have HR := Lib.hid hr
        obtain ⟨hgl, hgr, hgf⟩ := goodB_parts hg
        have hpo : PartsOK h (inOf pack bn) := inTo_parts (Nat.le_of_eq hgl)
        have hil : (inOf pack bn).length ≤ pack.length := inTo_len _ _ _
        have hpl := HV.out.pl
        have hck := caskOf_packed hgl (hgr.low (by omega)) (by have := HV.out.bl; omega) hb5
        have hbr : barrelRet h pack bn = ((caskIn h (inOf pack bn)).p, saltC h.fl (caskIn h (inOf pack bn)), (caskIn h (inOf pack bn)).d, 0) := by
          rw [barrelRet, if_neg (by rw [HV'.out]; decide), HG.out, HR.out, if_neg (by decide), Int.toNat_natCast, hck]
        have HBR := Lib.hid hbr
        have H71 := Lib.hid (fun A' c' W (hW : Below w.heap.size w W) (hI' : IntsAt W W.heap.size A' (inOf pack bn)) => pounds_any L h HV.out (inOf pack bn) (by omega) hpo A' c' W (HH.out.below hW) hI')
        have H80 := Lib.hid (fun A' c' W (hW : Below w.heap.size w W) (hI' : IntsAt W W.heap.size A' (inOf pack bn)) => saltOf_any L h HV.out (inOf pack bn) (by omega) hpo A' c' W (HH.out.below hW) hI')
        have H84 := Lib.hid (fun A' c' W (hW : Below w.heap.size w W) (hI' : IntsAt W W.heap.size A' (inOf pack bn)) => daysOf_any L h HV.out (inOf pack bn) (by omega) hpo A' c' W (HH.out.below hW) hI')
        clear hgl hgr hgf hpo hil hck hbr hb0 hbl
        go_enter Try.func34, Try.ntmps34
        go_wp2_with (first
          | (go_at_call 29; refine HC.out.mono ?_; rintro e w1 ⟨rfl, hb1⟩; obtain ⟨g0, g1, g2, g3⟩ := (HB.out.of (hb1.block _ HB.out.lt)).cells)
          | (go_at_call 52; refine (isPacking_any L h HV.out pack hl A c _ (HH.out.below (hb0to HBW.out hb1)) (ints_later HI.out (hb0to HBW.out hb1))).mono ?_; rintro e w2 ⟨rfl, hb2⟩; have x0 := below_cell hb2 g0; have x1 := below_cell hb2 g1; have x2 := below_cell hb2 g2; have x3 := below_cell hb2 g3)
          | (go_at_call 51; refine (rIsBarrel_any L h _ _ hb1000).mono ?_; rintro e w3 ⟨rfl, hb3⟩; have y0 := below_cell hb3 x0; have y1 := below_cell hb3 x1; have y2 := below_cell hb3 x2; have y3 := below_cell hb3 x3)
          | (go_at_call 63; refine (in_any pack hl bn A c _ (ints_later HI.out (hb0to HBW.out (hb0to hb1 (hb0to hb2 hb3))))).mono ?_; rintro e w4 ⟨⟨v, rfl, hown⟩, hb4⟩; obtain ⟨A2, c2, rfl, -, -, hI2⟩ := hown.lay; have z0 := extB_cell (below_cell hb4 y0); have z1 := extB_cell (below_cell hb4 y1); have z2 := extB_cell (below_cell hb4 y2); have z3 := extB_cell (below_cell hb4 y3)))
        have hb5' := hb0to HBW.out (hb0to hb1 (hb0to hb2 (hb0to hb3 hb4)))
        have hI3 := Lib.hid (fun x => (ints_later hI2.at_ (extB_below w4 x) : IntsAt (extB w4 x) (extB w4 x).heap.size A2 (inOf pack bn)))
        have hbe := Lib.hid (fun x => (hb0to hb5' (extB_below w4 x) : Below w.heap.size w (extB w4 x)))
        clear hown hI2 g0 g1 g2 g3 x0 x1 x2 x3 y0 y1 y2 y3
        refine wp_region_extW (by kernel_rfl) (by kernel_rfl) ?_
        repeat (go_big_quiet_step (first
          | (go_at_call 71; exact ext_call (H71.out A2 c2 _ (hbe.out _) (hI3.out _)))
          | (go_at_call 80; exact ext_call (H80.out A2 c2 _ (hbe.out _) (hI3.out _)))
          | (go_at_call 84; exact ext_call (H84.out A2 c2 _ (hbe.out _) (hI3.out _)))))
        refine wpQuiet_nil ?_
        rintro _ ⟨q, rfl⟩
        have hb8 := hbe.out q
        clear z0 z1 z2 z3
        go_wp2
        refine bodyPost_ret (v := .tuple #[.int .i64 (caskIn h (inOf pack bn)).p, .int .i64 (saltC h.fl (caskIn h (inOf pack bn))), .int .i64 (caskIn h (inOf pack bn)).d, .int .i64 0]) (by simp [results, Try.results34, go_sem]) rfl ⟨by rw [HBR.out], hb8⟩
end Go.Proofs.Ytgemmmdcpbajoaa
