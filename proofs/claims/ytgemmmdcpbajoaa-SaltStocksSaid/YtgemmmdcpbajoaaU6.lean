import Derived.Test.YtgemmmdcpbajoaaU5
namespace Go.Proofs.Ytgemmmdcpbajoaa
open Go.RowKit

theorem all_range {pack : List Int} {nb : Nat} (h : pack.all (fun b => inR b 0 ((nb : Int) - 1)) = true) : InRange 0 nb pack := fun x hx => by
  have := inR_true.1 (List.all_eq_true.1 h x hx)
  omega
theorem goodB_parts {h : House} {pack : List Int} (hg : goodB h pack = true) : pack.length = h.ps.length ∧ InRange 0 h.bs.length pack ∧ fitsC h (packedC h pack) = true := by
  simp only [goodB, Bool.and_eq_true, decide_eq_true_eq] at hg
  exact ⟨hg.1, all_range hg.2.1, hg.2.2⟩
theorem goodB_eq {h : House} (hv : HOK h) {pack : List Int} (hl : pack.length = h.ps.length) (hr : pack.all (fun b => inR b 0 ((h.bs.length : Int) - 1)) = true) : goodB h pack = fitsR h pack := by
  rw [goodB, hr, decide_eq_true hl, fits_packed hv hl ((all_range hr).low (by omega)) (by have := hv.bl; omega)]
  rfl
set_option maxRecDepth 100000 in
set_option maxHeartbeats 4000000 in
theorem isPacking_any (L : HL) (h : House) (hv : HOK h) (pack : List Int) (hl : pack.length ≤ 1000) (A : Option Addr) (c : Nat) (w : World) (hH : HouseAt w w.heap.size L h) (hI : IntsAt w w.heap.size A pack) :
    Calls Try.prog 52 #[L.enc h, .slice A pack.length c] w fun e w' => e = .returned (.bool (goodB h pack)) ∧ Below w.heap.size w w' := by
  have HH := Lib.hid hH
  have HI := Lib.hid hI
  have HV := Lib.hid hv
  have hpl6 := hv.pl
  have hbl4 := hv.bl
  clear hH hI hv
  by_cases hlen : pack.length = h.ps.length
  · have hd : ((pack.length : Int) != (h.ps.length : Int)) = false := by simp; omega
    have HLEN := Lib.hid hlen
    clear hlen
    go_enter Try.func52, Try.ntmps52
    go_wp2
    go_loopw [5] (fun i wr => ∃ k : Nat, k ≤ pack.length ∧ i = .int .i64 k ∧ Hid (∀ (j : Nat) (x : Int), j < k → pack[j]? = some x → inR x 0 (h.bs.length - 1) = true) ∧ Below w.heap.size w wr ∧ HBox wr w.heap.size L h) (fun i _ => pack.length - (intOf i).toNat)
    case atStart => exact ⟨0, Nat.zero_le _, rfl, Lib.hid (fun j x hj => by omega), (Below.refl _ _).alloc (Nat.le_refl _) _, HBox.new w L h⟩
    case round =>
      obtain ⟨k, hk, rfl, hok, hb, hB⟩ := hrel
      have hsz := hb.size
      obtain ⟨g0, g1, g2, g3⟩ := hB.cells
      by_cases hlt : k < pack.length
      · obtain ⟨x, hx⟩ : ∃ x, pack[k]? = some x := ⟨_, List.getElem?_eq_getElem hlt⟩
        obtain ⟨b1, o1, rfl, b1lt, d1⟩ := HI.out.at_ hx
        have e5 := extB_cell (below_cell hb d1)
        have e0 := extB_cell g0
        have e1 := extB_cell g1
        have e2 := extB_cell g2
        have e3 := extB_cell g3
        have hki : (k : Int) < pack.length := by omega
        have hk0 : (0 : Int) ≤ (k : Int) := by omega
        have HX := Lib.hid hx
        clear hx d1
        cases hr : inR x 0 (h.bs.length - 1)
        · have hno : Hid ((pack.all fun b => inR b 0 (h.bs.length - 1)) = false) := Lib.hid (by rw [List.all_eq_false]; exact ⟨x, List.mem_of_getElem? HX.out, by simp [hr]⟩)
          go_wp2
          refine wp_region_extW (by kernel_rfl) (by kernel_rfl) ?_
          repeat (go_big_quiet_step ((go_at_call 51; exact ext_call (rIsBarrel_any L h _ _ (by omega)))))
          refine wpQuiet_nil ?_
          rintro _ ⟨x1, rfl⟩
          have hb3 := hb0to hb (extB_below wr x1)
          clear e0 e1 e2 e3 e5
          go_wp2
          go_ret
          exact ⟨by rw [goodB, hno.out]; simp, hb3⟩
        · have HR := Lib.hid hr
          go_wp2
          refine wp_region_extW (by kernel_rfl) (by kernel_rfl) ?_
          repeat (go_big_quiet_step ((go_at_call 51; exact ext_call (rIsBarrel_any L h _ _ (by omega)))))
          refine wpQuiet_nil ?_
          rintro _ ⟨x1, rfl⟩
          have hb2 := extB_below wr x1
          clear e0 e1 e2 e3 e5
          go_wp2
          go_roundw
          case rel => exact ⟨k + 1, by omega, by go_num, Lib.hid (fun j y hj hy => by by_cases e : j = k; subst e; rw [HX.out] at hy; cases hy; exact HR.out; exact hok.out j y (by omega) hy), hb0to hb hb2, hB.of (hb2.block _ hB.lt)⟩
          case measure => simp [intOf]; omega
      · obtain rfl : k = pack.length := by omega
        have hall : (pack.all fun b => inR b 0 (h.bs.length - 1)) = true := by
          rw [List.all_eq_true]
          intro x hx
          obtain ⟨j, hj⟩ := List.getElem?_of_mem hx
          exact hok.out j x (List.getElem?_eq_some_iff.1 hj).1 hj
        have HG := Lib.hid (goodB_eq HV.out HLEN.out hall)
        clear hall hok
        go_wp2_with (go_at_call 91; refine (rfits_any L h HV.out pack (Nat.le_of_eq HLEN.out) A c _ (HH.out.below hb) (ints_later HI.out hb)).mono ?_; rintro e w3 ⟨rfl, hb3⟩)
        go_ret
        exact ⟨by rw [HG.out]; rfl, hb0to hb hb3⟩
  · have hd : ((pack.length : Int) != (h.ps.length : Int)) = true := by simp; omega
    have HLEN := Lib.hid hlen
    clear hlen
    go_enter Try.func52, Try.ntmps52
    go_wp2
    go_ret
    exact ⟨by rw [goodB, decide_eq_false HLEN.out]; rfl, (Below.refl _ _).alloc (Nat.le_refl _) _⟩
set_option maxRecDepth 100000 in
set_option maxHeartbeats 4000000 in
theorem rGood_any (L : HL) (h : House) (hn : h.ks.length ≤ 1000 ∧ h.ps.length ≤ 1000 ∧ h.bs.length ≤ 1000) (pack : List Int) (hl : pack.length ≤ 1000) (A : Option Addr) (c : Nat) (w : World) (hH : HouseAt w w.heap.size L h) (hI : IntsAt w w.heap.size A pack) :
    Calls Try.prog 32 #[L.enc h, .slice A pack.length c] w fun e w' => e = .returned (.tuple #[.bool (goodRet h pack).1, .int .i64 (goodRet h pack).2]) ∧ Below w.heap.size w w' := by
  have hbw := (Below.refl _ _).alloc (Nat.le_refl w.heap.size) (.cells #[.slice L.Ak h.ks.length L.ck, .int .i64 h.fl, .slice L.Ap h.ps.length L.cp, .slice L.Ab h.bs.length L.cb] 26)
  have HC := Lib.hid (rcheck_any L h hn _ (hH.below hbw))
  have HB := Lib.hid (HBox.new w L h)
  have HBW := Lib.hid hbw
  have HH := Lib.hid hH
  have HI := Lib.hid hI
  clear hbw hH hI
  cases hv : validH h
  · have hk : ckH h = 80 := ckH_no hv
    have HV := Lib.hid hv
    clear hv
    go_enter Try.func32, Try.ntmps32
    go_wp2_with (go_at_call 29; refine HC.out.mono ?_; rintro e w1 ⟨rfl, hb1⟩)
    go_ret2
    exact ⟨by rw [goodRet, if_pos HV.out]; rfl, hb0to HBW.out hb1⟩
  · have hk : ckH h = 0 := ckH_yes hv
    have HV := Lib.hid (HOK.ofValid hv)
    have HV' := Lib.hid hv
    clear hv
    go_enter Try.func32, Try.ntmps32
    go_wp2_with (first
      | (go_at_call 29; refine HC.out.mono ?_; rintro e w1 ⟨rfl, hb1⟩; obtain ⟨g0, g1, g2, g3⟩ := (HB.out.of (hb1.block _ HB.out.lt)).cells)
      | (go_at_call 52; refine (isPacking_any L h HV.out pack hl A c _ (HH.out.below (hb0to HBW.out hb1)) (ints_later HI.out (hb0to HBW.out hb1))).mono ?_; rintro e w2 ⟨rfl, hb2⟩))
    go_ret2
    exact ⟨by rw [goodRet, if_neg (by rw [HV'.out]; decide)]; rfl, hb0to HBW.out (hb0to hb1 hb2)⟩
set_option maxRecDepth 100000 in
set_option maxHeartbeats 4000000 in
theorem rBarrel_any (L : HL) (h : House) (hn : h.ks.length ≤ 1000 ∧ h.ps.length ≤ 1000 ∧ h.bs.length ≤ 1000) (pack : List Int) (hl : pack.length ≤ 1000) (b : Int) (A : Option Addr) (c : Nat) (w : World) (hH : HouseAt w w.heap.size L h) (hI : IntsAt w w.heap.size A pack) :
    Calls Try.prog 34 #[L.enc h, .slice A pack.length c, .int .i64 b] w fun e w' => e = .returned (.tuple #[.int .i64 (barrelRet h pack b).1, .int .i64 (barrelRet h pack b).2.1, .int .i64 (barrelRet h pack b).2.2.1, .int .i64 (barrelRet h pack b).2.2.2]) ∧ Below w.heap.size w w' := by
  have hbw := (Below.refl _ _).alloc (Nat.le_refl w.heap.size) (.cells #[.slice L.Ak h.ks.length L.ck, .int .i64 h.fl, .slice L.Ap h.ps.length L.cp, .slice L.Ab h.bs.length L.cb] 26)
  have HC := Lib.hid (rcheck_any L h hn _ (hH.below hbw))
  have HB := Lib.hid (HBox.new w L h)
  have HBW := Lib.hid hbw
  have HH := Lib.hid hH
  have HI := Lib.hid hI
  clear hbw hH hI
  cases hv : validH h
  · have hk : ckH h = 80 := ckH_no hv
    have HV := Lib.hid hv
    clear hv
    go_enter Try.func34, Try.ntmps34
    go_wp2_with (go_at_call 29; refine HC.out.mono ?_; rintro e w1 ⟨rfl, hb1⟩)
    refine bodyPost_ret (v := .tuple #[.int .i64 0, .int .i64 0, .int .i64 0, .int .i64 80]) (by simp [results, Try.results34, go_sem]) rfl ⟨by rw [barrelRet, if_pos HV.out], hb0to HBW.out hb1⟩
  · have hk : ckH h = 0 := ckH_yes hv
    have HV := Lib.hid (HOK.ofValid hv)
    have HV' := Lib.hid hv
    clear hv
    cases hg : goodB h pack
    · have HG := Lib.hid hg
      go_enter Try.func34, Try.ntmps34
      go_wp2_with (first
        | (go_at_call 29; refine HC.out.mono ?_; rintro e w1 ⟨rfl, hb1⟩; obtain ⟨g0, g1, g2, g3⟩ := (HB.out.of (hb1.block _ HB.out.lt)).cells)
        | (go_at_call 52; refine (isPacking_any L h HV.out pack hl A c _ (HH.out.below (hb0to HBW.out hb1)) (ints_later HI.out (hb0to HBW.out hb1))).mono ?_; rintro e w2 ⟨rfl, hb2⟩))
      refine bodyPost_ret (v := .tuple #[.int .i64 0, .int .i64 0, .int .i64 0, .int .i64 1]) (by simp [results, Try.results34, go_sem]) rfl ⟨by rw [barrelRet, if_neg (by rw [HV'.out]; decide), HG.out]; rfl, hb0to HBW.out (hb0to hb1 hb2)⟩
    · have HG := Lib.hid hg
      have hb1000 := hn.2.2
      cases hr : inR b 0 (h.bs.length - 1)
      · have HR := Lib.hid hr
        go_enter Try.func34, Try.ntmps34
        go_wp2_with (first
          | (go_at_call 29; refine HC.out.mono ?_; rintro e w1 ⟨rfl, hb1⟩; obtain ⟨g0, g1, g2, g3⟩ := (HB.out.of (hb1.block _ HB.out.lt)).cells)
          | (go_at_call 52; refine (isPacking_any L h HV.out pack hl A c _ (HH.out.below (hb0to HBW.out hb1)) (ints_later HI.out (hb0to HBW.out hb1))).mono ?_; rintro e w2 ⟨rfl, hb2⟩; have x0 := below_cell hb2 g0; have x1 := below_cell hb2 g1; have x2 := below_cell hb2 g2; have x3 := below_cell hb2 g3)
          | (go_at_call 51; refine (rIsBarrel_any L h _ _ hb1000).mono ?_; rintro e w3 ⟨rfl, hb3⟩))
        refine bodyPost_ret (v := .tuple #[.int .i64 0, .int .i64 0, .int .i64 0, .int .i64 1]) (by simp [results, Try.results34, go_sem]) rfl ⟨by rw [barrelRet, if_neg (by rw [HV'.out]; decide), HG.out, HR.out]; rfl, hb0to HBW.out (hb0to hb1 (hb0to hb2 hb3))⟩
      · obtain ⟨hb0, hbl⟩ := inR_true.1 hr
        obtain ⟨bn, rfl⟩ : ∃ bn : Nat, b = (bn : Int) := ⟨b.toNat, by omega⟩
        have hb5 : bn < 5 := by have := HV.out.bl; omega
        have HR := Lib.hid hr
        obtain ⟨hgl, hgr, hgf⟩ := goodB_parts hg
        have hpo : PartsOK h (inOf pack bn) := inTo_parts (Nat.le_of_eq hgl)
        have hil : (inOf pack bn).length ≤ pack.length := inTo_len _ _ _
        have hpl := HV.out.pl
        have hck := caskOf_packed hgl (hgr.low (by omega)) (by have := HV.out.bl; omega) hb5
        have hbr : barrelRet h pack bn = ((caskIn h (inOf pack bn)).p, saltC h.fl (caskIn h (inOf pack bn)), (caskIn h (inOf pack bn)).d, 0) := by
          rw [barrelRet, if_neg (by rw [HV'.out]; decide), HG.out, HR.out, if_neg (by decide), Int.toNat_natCast, hck]
        have HBR := Lib.hid hbr
        have H71 := Lib.hid (fun A' c' W (hW : Below w.heap.size w W) (hI' : IntsAt W W.heap.size A' (inOf pack bn)) => pounds_any L h HV.out (inOf pack bn) (by omega) hpo A' c' W (HH.out.below hW) hI')
        have H80 := Lib.hid (fun A' c' W (hW : Below w.heap.size w W) (hI' : IntsAt W W.heap.size A' (inOf pack bn)) => saltOf_any L h HV.out (inOf pack bn) (by omega) hpo A' c' W (HH.out.below hW) hI')
        have H84 := Lib.hid (fun A' c' W (hW : Below w.heap.size w W) (hI' : IntsAt W W.heap.size A' (inOf pack bn)) => daysOf_any L h HV.out (inOf pack bn) (by omega) hpo A' c' W (HH.out.below hW) hI')
        clear hgl hgr hgf hpo hil hck hbr hb0 hbl
        go_enter Try.func34, Try.ntmps34
        go_wp2_with (first
          | (go_at_call 29; refine HC.out.mono ?_; rintro e w1 ⟨rfl, hb1⟩; obtain ⟨g0, g1, g2, g3⟩ := (HB.out.of (hb1.block _ HB.out.lt)).cells)
          | (go_at_call 52; refine (isPacking_any L h HV.out pack hl A c _ (HH.out.below (hb0to HBW.out hb1)) (ints_later HI.out (hb0to HBW.out hb1))).mono ?_; rintro e w2 ⟨rfl, hb2⟩; have x0 := below_cell hb2 g0; have x1 := below_cell hb2 g1; have x2 := below_cell hb2 g2; have x3 := below_cell hb2 g3)
          | (go_at_call 51; refine (rIsBarrel_any L h _ _ hb1000).mono ?_; rintro e w3 ⟨rfl, hb3⟩; have y0 := below_cell hb3 x0; have y1 := below_cell hb3 x1; have y2 := below_cell hb3 x2; have y3 := below_cell hb3 x3)
          | (go_at_call 63; refine (in_any pack hl bn A c _ (ints_later HI.out (hb0to HBW.out (hb0to hb1 (hb0to hb2 hb3))))).mono ?_; rintro e w4 ⟨⟨v, rfl, hown⟩, hb4⟩; obtain ⟨A2, c2, rfl, -, -, hI2⟩ := hown.lay; have z0 := extB_cell (below_cell hb4 y0); have z1 := extB_cell (below_cell hb4 y1); have z2 := extB_cell (below_cell hb4 y2); have z3 := extB_cell (below_cell hb4 y3)))
        have hb5' := hb0to HBW.out (hb0to hb1 (hb0to hb2 (hb0to hb3 hb4)))
        have hI3 := Lib.hid (fun x => (ints_later hI2.at_ (extB_below w4 x) : IntsAt (extB w4 x) (extB w4 x).heap.size A2 (inOf pack bn)))
        have hbe := Lib.hid (fun x => (hb0to hb5' (extB_below w4 x) : Below w.heap.size w (extB w4 x)))
        clear hown hI2 g0 g1 g2 g3 x0 x1 x2 x3 y0 y1 y2 y3
        refine wp_region_extW (by kernel_rfl) (by kernel_rfl) ?_
        repeat (go_big_quiet_step (first
          | (go_at_call 71; exact ext_call (H71.out A2 c2 _ (hbe.out _) (hI3.out _)))
          | (go_at_call 80; exact ext_call (H80.out A2 c2 _ (hbe.out _) (hI3.out _)))
          | (go_at_call 84; exact ext_call (H84.out A2 c2 _ (hbe.out _) (hI3.out _)))))
        refine wpQuiet_nil ?_
        rintro _ ⟨q, rfl⟩
        have hb8 := hbe.out q
        clear z0 z1 z2 z3
        go_wp2
        refine bodyPost_ret (v := .tuple #[.int .i64 (caskIn h (inOf pack bn)).p, .int .i64 (saltC h.fl (caskIn h (inOf pack bn))), .int .i64 (caskIn h (inOf pack bn)).d, .int .i64 0]) (by simp [results, Try.results34, go_sem]) rfl ⟨by rw [HBR.out], hb8⟩
end Go.Proofs.Ytgemmmdcpbajoaa
