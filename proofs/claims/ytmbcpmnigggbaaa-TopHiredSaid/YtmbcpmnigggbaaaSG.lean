import Derived.Test.YtmbcpmnigggbaaaL3
import Derived.Deep.RegionHeld3
import Derived.Deep.QuietTactic
import Derived.ArgAppend
namespace Go.Proofs.Ytmbcpmnigggbaaa
open Go.RowKit
attribute [local go_sem] Oper.semAt_some
theorem KpB.belowOf {S : Nat → Prop} {n B : Nat} {W W' : World} (h : KpB S n W W') (hB : B ≤ n) (hS : ∀ k, S k → B ≤ k) : Below B W W' := ⟨h.os, h.tape, h.output, h.size, fun k hk => h.block k (by omega) (fun hs => by have := hS k hs; omega)⟩
theorem packedC_ok {h : House} (hv : HOK h) (p : List Int) : ∀ (j : Nat) (c : Cask), (packedC h p)[j]? = some c → c.ok := fun j c hc => (casksTo_upto hv p _ (Nat.le_refl _) j c hc).ok (by have := hv.pl; omega)
theorem packedC_len (h : House) (p : List Int) : (packedC h p).length = 5 := casksTo_len _ _ _
theorem drew_below (w : World) : Below w.heap.size w w.drew := (Below.refl _ _).drew
theorem hb0to {w w1 w2 : World} (h : Below w.heap.size w w1) (k : Below w1.heap.size w1 w2) : Below w.heap.size w w2 := h.trans (k.mono h.size)
theorem extB_house {w x : World} {B : Nat} {L : HL} {h : House} (hh : HouseAt w B L h) (hB : B ≤ w.heap.size) : HouseAt (extB w x) (extB w x).heap.size L h :=
  hh.keep (Nat.le_trans hB (extB_below w x).size) fun b o hb => (extB_below w x).cell (p := ⟨b, o, none⟩) (by show b < w.heap.size; omega)
theorem heap_lt {W : World} {k : Nat} {o : Obj} (h : W.heap[k]? = some o) : k < W.heap.size := (Array.getElem?_eq_some_iff.1 h).1
/-! Salt, Good, Barrel. -/
theorem wp_region_extW {P : Program} {id : Nat} {Q : Exit → Act → World → Prop} {a : Act} {w : World} {L : List Oper} (hm : P.follows .mixedOrders = true) (hB : Region.lexB .any L.toArray = true)
    (h : wpQuiet P L.toArray (fun w' => ∃ x, w' = extB w x) (fun a' => ∀ w', (∃ x, w' = extB w x) → Q .normal a' w') L a) : (Code.region id L.toArray true).wp P Q a w := wp_region_ext hm hB h
/-- The cask in the block cb, of its own. -/
def CaskBox (W : World) (cb : Nat) (c : Cask) : Prop := W.heap[cb]? = some (.cells #[.int .i64 c.n, .int .i64 c.p, .int .i64 c.s, .int .i64 c.d] 167 (0, 0))
theorem CaskBox.at_ {W : World} {cb : Nat} {c : Cask} (h : CaskBox W cb c) : CaskAt W cb 0 c := by
  have h : W.heap[cb]? = some (.cells #[.int .i64 c.n, .int .i64 c.p, .int .i64 c.s, .int .i64 c.d] 167 (0, 0)) := h
  exact ⟨by simp [World.cell?, h], by simp [World.cell?, h], by simp [World.cell?, h], by simp [World.cell?, h]⟩
theorem CaskBox.lt {W : World} {cb : Nat} {c : Cask} (h : CaskBox W cb c) : cb < W.heap.size := heap_lt h
theorem CaskBox.frozen {W : World} {cb : Nat} {c : Cask} (h : CaskBox W cb c) (o : Nat) : W.frozen? ⟨cb, o, none⟩ = false := by simp [World.frozen?, show W.heap[cb]? = _ from h]
/-- Numbers from 0 to n - 1, strictly ascending. -/
def riseOK (l : List Int) (n : Int) (k : Nat) : Bool := inR (l.getD k 0) 0 (n - 1) && (k == 0 || decide (l.getD (k - 1) 0 < l.getD k 0))
def riseB (l : List Int) (n : Int) : Bool := (List.range l.length).all (riseOK l n)
theorem riseB_no {l : List Int} {n : Int} {k : Nat} (hk : k < l.length) (h : riseOK l n k = false) : riseB l n = false := by
  rw [riseB, List.all_eq_false]; exact ⟨k, List.mem_range.2 hk, by simp [h]⟩
theorem riseB_yes {l : List Int} {n : Int} (h : ∀ k, k < l.length → riseOK l n k = true) : riseB l n = true := by
  rw [riseB, List.all_eq_true]; exact fun k hk => h k (List.mem_range.1 hk)
theorem riseB_at {l : List Int} {n : Int} (h : riseB l n = true) {k : Nat} (hk : k < l.length) : riseOK l n k = true := List.all_eq_true.1 h k (List.mem_range.2 hk)
theorem riseB_in {l : List Int} {n : Int} (h : riseB l n = true) : ∀ i ∈ l, 0 ≤ i ∧ i < n := fun i hi => by
  obtain ⟨k, hk⟩ := List.getElem?_of_mem hi
  have h1 := riseB_at h (List.getElem?_eq_some_iff.1 hk).1
  simp only [riseOK, Bool.and_eq_true, inR_true, List.getD, hk, Option.getD_some] at h1
  omega
/-- A list is a packing. -/
def goodB (h : House) (pack : List Int) : Bool := decide (pack.length = h.ps.length) && (pack.all (fun b => inR b 0 (h.bs.length - 1)) && fitsC h (packedC h pack))
theorem any_not_all2 (l : List Int) (p : Int → Bool) : l.any (fun x => !p x) = !l.all p := by rw [Bool.eq_iff_iff]; simp
theorem packed_of_good (L : HL) (h : House) (hv : HOK h) (pack : List Int) (hl : pack.length = h.ps.length) (hr : pack.all (fun b => inR b 0 (h.bs.length - 1)) = true) (A : Option Addr) (c : Nat) (w : World)
    (hH : HouseAt w w.heap.size L h) (hP : IntsAt w w.heap.size A pack) :
    Calls Try.prog 175 #[L.enc h, .slice A pack.length c] w fun e w' => e = .returned (encCs (packedC h pack)) ∧ Below w.heap.size w w' :=
  packed_any L h hv pack hl (fun k b hb => by
    have := inR_true.1 (List.all_eq_true.1 hr b (List.mem_of_getElem? hb))
    have := hv.bl
    omega) A c w hH hP
set_option maxRecDepth 100000 in
set_option maxHeartbeats 4000000 in
theorem good_any (L : HL) (h : House) (hv : HOK h) (pack : List Int) (hl : pack.length ≤ 1000) (A : Option Addr) (c : Nat) (w : World) (hH : HouseAt w w.heap.size L h) (hI : IntsAt w w.heap.size A pack) :
    Calls Try.prog 201 #[L.enc h, .slice A pack.length c] w fun e w' => e = .returned (.bool (goodB h pack)) ∧ Below w.heap.size w w' := by
  have hb0 := (Below.refl _ _).alloc (Nat.le_refl w.heap.size) (.cells #[.slice L.Ak h.ks.length L.ck, .int .i64 h.fl, .slice L.Ap h.ps.length L.cp, .slice L.Ab h.bs.length L.cb] 27)
  have hX := HBox.new w L h
  have hbl := hv.bl
  have HX := Lib.hid hX
  have HB0 := Lib.hid hb0
  obtain ⟨g0, g1, g2, g3⟩ := hX.cells
  have e0 := extB_cell g0
  have e1 := extB_cell g1
  have e2 := extB_cell g2
  have e3 := extB_cell g3
  have HV := Lib.hid hv
  have hH1 := hH.below hb0
  have hI1 : IntsAt (w.alloc (.cells #[.slice L.Ak h.ks.length L.ck, .int .i64 h.fl, .slice L.Ap h.ps.length L.cp, .slice L.Ab h.bs.length L.cb] 27)) (w.alloc (.cells #[.slice L.Ak h.ks.length L.ck, .int .i64 h.fl, .slice L.Ap h.ps.length L.cp, .slice L.Ab h.bs.length L.cb] 27)).heap.size A pack := hI.keep hb0.size fun b o hlt => hb0.cell (p := ⟨b, o, none⟩) hlt
  have HH := Lib.hid hH1
  have HI := Lib.hid hI1
  obtain ⟨W1, hW1⟩ : ∃ W1, W1 = w.alloc (.cells #[.slice L.Ak h.ks.length L.ck, .int .i64 h.fl, .slice L.Ap h.ps.length L.cp, .slice L.Ab h.bs.length L.cb] 27) := ⟨_, rfl⟩
  rw [← hW1] at HX HB0 HH HI e0 e1 e2 e3
  have hIe : ∀ x, IntsAt (extB W1 x) (extB W1 x).heap.size A pack := fun x => HI.out.keep (extB_below W1 x).size fun b o hlt => (extB_below W1 x).cell (p := ⟨b, o, none⟩) hlt
  have HIE := Lib.hid hIe
  have HW := Lib.hid hW1
  clear hX hb0 g0 g1 g2 g3 hv hH hI hH1 hI1 hIe hW1
  by_cases hlen : pack.length = h.ps.length
  · have hd1 : ((pack.length : Int) == (h.ps.length : Int)) = true := by simp; omega
    have HLEN := Lib.hid hlen
    cases hall : pack.all (fun b => inR b 0 (h.bs.length - 1))
    · have hany : (pack.any fun x => !inR x 0 (h.bs.length - 1)) = true := by rw [any_not_all2, hall]; rfl
      have HANY := Lib.hid hany
      have HALL := Lib.hid hall
      clear hall hlen
      go_enter Try.func201, Try.ntmps201
      go_wp2
      rw [← HW.out]
      refine wp_region_extW (by kernel_rfl) (by kernel_rfl) ?_
      repeat (go_big_quiet_step (first
        | (go_at_call 160; exact ext_call (contains99_any L h (by omega) w.heap.size A c pack hl _ (HIE.out _) (HX.out.of ((extB_below W1 _).block _ HX.out.lt))))
        ))
      refine wpQuiet_nil ?_
      rintro _ ⟨x1, rfl⟩
      have hb8 := hb0to HB0.out (extB_below W1 x1)
      clear e0 e1 e2 e3
      go_wp2
      go_ret
      exact ⟨by rw [goodB, HALL.out]; simp, hb8⟩
    · have hany : (pack.any fun x => !inR x 0 (h.bs.length - 1)) = false := by rw [any_not_all2, hall]; rfl
      have HANY := Lib.hid hany
      have HALL := Lib.hid hall
      clear hall hlen
      have hg : goodB h pack = fitsC h (packedC h pack) := by rw [goodB, HALL.out, HLEN.out]; simp
      have HG := Lib.hid hg
      clear hg
      go_enter Try.func201, Try.ntmps201
      go_wp2
      rw [← HW.out]
      refine wp_region_extW (by kernel_rfl) (by kernel_rfl) ?_
      repeat (go_big_quiet_step (first
        | (go_at_call 160; exact ext_call (contains99_any L h (by omega) w.heap.size A c pack hl _ (HIE.out _) (HX.out.of ((extB_below W1 _).block _ HX.out.lt))))
        | (go_at_call 175; exact ext_call (packed_of_good L h HV.out pack HLEN.out HALL.out A c _ (extB_house HH.out (Nat.le_refl _)) (HIE.out _)))
        | (go_at_call 128; exact ext_call (fits_any L h HV.out _ (packedC_len h pack) (packedC_ok HV.out pack) _ (extB_house HH.out (Nat.le_refl _))))))
      refine wpQuiet_nil ?_
      rintro _ ⟨x1, rfl⟩
      have hb8 := hb0to HB0.out (extB_below W1 x1)
      clear e0 e1 e2 e3
      go_wp2
      go_ret
      exact ⟨by rw [HG.out]; rfl, hb8⟩
  · have hd1 : ((pack.length : Int) == (h.ps.length : Int)) = false := by simp; omega
    have HLEN := Lib.hid hlen
    clear hlen
    go_enter Try.func201, Try.ntmps201
    go_wp2
    rw [← HW.out]
    refine wp_region_extW (by kernel_rfl) (by kernel_rfl) ?_
    repeat (go_big_quiet_step (fail))
    refine wpQuiet_nil ?_
    rintro _ ⟨x1, rfl⟩
    have hb8 := hb0to HB0.out (extB_below W1 x1)
    clear e0 e1 e2 e3
    go_wp2
    go_ret
    exact ⟨by rw [goodB, decide_eq_false HLEN.out]; rfl, hb8⟩
def goodRet (h : House) (pack : List Int) : Bool × Int := if validH h = false then (false, 80) else (goodB h pack, 0)
set_option maxRecDepth 100000 in
set_option maxHeartbeats 4000000 in
theorem Good_any (L : HL) (h : House) (hn : h.ks.length ≤ 1000 ∧ h.ps.length ≤ 1000 ∧ h.bs.length ≤ 1000) (pack : List Int) (hl : pack.length ≤ 1000) (A : Option Addr) (c : Nat) (w : World) (hH : HouseAt w w.heap.size L h) (hI : IntsAt w w.heap.size A pack) :
    Calls Try.prog 181 #[L.enc h, .slice A pack.length c] w fun e w' => e = .returned (.tuple #[.bool (goodRet h pack).1, .int .i64 (goodRet h pack).2]) ∧ Below w.heap.size w w' := by
  have hbw := (Below.refl _ _).alloc (Nat.le_refl w.heap.size) (.cells #[.slice L.Ak h.ks.length L.ck, .int .i64 h.fl, .slice L.Ap h.ps.length L.cp, .slice L.Ab h.bs.length L.cb] 27)
  have HC := Lib.hid (check_any L h hn _ (hH.below hbw))
  have HB := Lib.hid (HBox.new w L h)
  have HBW := Lib.hid hbw
  have HH := Lib.hid hH
  have HI := Lib.hid hI
  clear hbw hH hI
  cases hv : validH h
  · have hk : ckH h = 80 := ckH_no hv
    have HV := Lib.hid hv
    clear hv
    go_enter Try.func181, Try.ntmps181
    go_wp2_with (go_at_call 125; refine HC.out.mono ?_; rintro e w1 ⟨rfl, hb1⟩)
    go_ret2
    exact ⟨by rw [goodRet, if_pos HV.out]; rfl, hb0to HBW.out hb1⟩
  · have hk : ckH h = 0 := ckH_yes hv
    have HV := Lib.hid (HOK.ofValid hv)
    have HV' := Lib.hid hv
    clear hv
    go_enter Try.func181, Try.ntmps181
    go_wp2_with (first
      | (go_at_call 125; refine HC.out.mono ?_; rintro e w1 ⟨rfl, hb1⟩; obtain ⟨g0, g1, g2, g3⟩ := (HB.out.of (hb1.block _ HB.out.lt)).cells)
      | (go_at_call 201; refine (good_any L h HV.out pack hl A c _ (HH.out.below (hb0to HBW.out hb1)) (HI.out.keep (hb0to HBW.out hb1).size fun b o hlt => (hb0to HBW.out hb1).cell (p := ⟨b, o, none⟩) hlt)).mono ?_; rintro e w2 ⟨rfl, hb2⟩))
    go_ret2
    exact ⟨by rw [goodRet, if_neg (by rw [HV'.out]; decide)]; rfl, hb0to HBW.out (hb0to hb1 hb2)⟩
/-- What Barrel returns: pounds, salt, days, the error. -/
def barrelRet (h : House) (pack : List Int) (b : Int) : Int × Int × Int × Int :=
  if validH h = false then (0, 0, 0, 80) else if (goodB h pack && inR b 0 (h.bs.length - 1)) = false then (0, 0, 0, 1) else
    ((caskOf (packedC h pack) b.toNat).p, saltC h.fl (caskOf (packedC h pack) b.toNat), (caskOf (packedC h pack) b.toNat).d, 0)
set_option maxRecDepth 100000 in
set_option maxHeartbeats 4000000 in
theorem barrel_any (L : HL) (h : House) (hn : h.ks.length ≤ 1000 ∧ h.ps.length ≤ 1000 ∧ h.bs.length ≤ 1000) (pack : List Int) (hl : pack.length ≤ 1000) (b : Int) (A : Option Addr) (c : Nat) (w : World) (hH : HouseAt w w.heap.size L h) (hI : IntsAt w w.heap.size A pack) :
    Calls Try.prog 182 #[L.enc h, .slice A pack.length c, .int .i64 b] w fun e w' => e = .returned (.tuple #[.int .i64 (barrelRet h pack b).1, .int .i64 (barrelRet h pack b).2.1, .int .i64 (barrelRet h pack b).2.2.1, .int .i64 (barrelRet h pack b).2.2.2]) ∧ Below w.heap.size w w' := by
  have hbw := (Below.refl _ _).alloc (Nat.le_refl w.heap.size) (.cells #[.slice L.Ak h.ks.length L.ck, .int .i64 h.fl, .slice L.Ap h.ps.length L.cp, .slice L.Ab h.bs.length L.cb] 27)
  have HC := Lib.hid (check_any L h hn _ (hH.below hbw))
  have HB := Lib.hid (HBox.new w L h)
  have HBW := Lib.hid hbw
  have HH := Lib.hid hH
  have HI := Lib.hid hI
  have hIk : ∀ W, Below w.heap.size w W → IntsAt W W.heap.size A pack := fun W hW => HI.out.keep hW.size fun b o hlt => hW.cell (p := ⟨b, o, none⟩) hlt
  have HIK := Lib.hid hIk
  clear hbw hH hI hIk
  cases hv : validH h
  · have hk : ckH h = 80 := ckH_no hv
    have HV := Lib.hid hv
    clear hv
    go_enter Try.func182, Try.ntmps182
    go_wp2_with (go_at_call 125; refine HC.out.mono ?_; rintro e w1 ⟨rfl, hb1⟩)
    refine bodyPost_ret (v := .tuple #[.int .i64 0, .int .i64 0, .int .i64 0, .int .i64 80]) (by simp [results, Try.results182, go_sem]) rfl ⟨by rw [barrelRet, if_pos HV.out], hb0to HBW.out hb1⟩
  · have hk : ckH h = 0 := ckH_yes hv
    have HV := Lib.hid (HOK.ofValid hv)
    have HV' := Lib.hid hv
    clear hv
    cases hg : goodB h pack
    · have HG := Lib.hid hg
      go_enter Try.func182, Try.ntmps182
      go_wp2_with (first
        | (go_at_call 125; refine HC.out.mono ?_; rintro e w1 ⟨rfl, hb1⟩; obtain ⟨g0, g1, g2, g3⟩ := (HB.out.of (hb1.block _ HB.out.lt)).cells)
        | (go_at_call 201; refine (good_any L h HV.out pack hl A c _ (HH.out.below (hb0to HBW.out hb1)) (HIK.out _ (hb0to HBW.out hb1))).mono ?_; rintro e w2 ⟨rfl, hb2⟩))
      refine bodyPost_ret (v := .tuple #[.int .i64 0, .int .i64 0, .int .i64 0, .int .i64 1]) (by simp [results, Try.results182, go_sem]) rfl ⟨by rw [barrelRet, if_neg (by rw [HV'.out]; decide), HG.out]; rfl, hb0to HBW.out (hb0to hb1 hb2)⟩
    · have HG := Lib.hid hg
      have hb1000 := hn.2.2
      cases hr : inR b 0 (h.bs.length - 1)
      · have HR := Lib.hid hr
        go_enter Try.func182, Try.ntmps182
        go_wp2_with (first
          | (go_at_call 125; refine HC.out.mono ?_; rintro e w1 ⟨rfl, hb1⟩; obtain ⟨g0, g1, g2, g3⟩ := (HB.out.of (hb1.block _ HB.out.lt)).cells)
          | (go_at_call 201; refine (good_any L h HV.out pack hl A c _ (HH.out.below (hb0to HBW.out hb1)) (HIK.out _ (hb0to HBW.out hb1))).mono ?_; rintro e w2 ⟨rfl, hb2⟩; have x0 := below_cell hb2 g0; have x1 := below_cell hb2 g1; have x2 := below_cell hb2 g2; have x3 := below_cell hb2 g3)
          | (go_at_call 202; refine (isBarrel_any L h _ _ hb1000).mono ?_; rintro e w3 ⟨rfl, hb3⟩))
        refine bodyPost_ret (v := .tuple #[.int .i64 0, .int .i64 0, .int .i64 0, .int .i64 1]) (by simp [results, Try.results182, go_sem]) rfl ⟨by rw [barrelRet, if_neg (by rw [HV'.out]; decide), HG.out, HR.out]; rfl, hb0to HBW.out (hb0to hb1 (hb0to hb2 hb3))⟩
      · obtain ⟨hb0, hbl⟩ := inR_true.1 hr
        obtain ⟨bn, rfl⟩ : ∃ bn : Nat, b = (bn : Int) := ⟨b.toNat, by omega⟩
        have hb5 : bn < 5 := by have := HV.out.bl; omega
        have HR := Lib.hid hr
        have hl5 := packedC_len h pack
        have hix := index81 hl5 hb5
        have hgl : pack.length = h.ps.length ∧ pack.all (fun b => inR b 0 (h.bs.length - 1)) = true := by
          simp only [goodB, Bool.and_eq_true, decide_eq_true_eq] at hg
          exact ⟨hg.1, hg.2.1⟩
        have HGL := Lib.hid hgl
        have hcok := packedC_ok HV.out pack bn _ (at_caskOf (by omega))
        have HCK := Lib.hid hcok
        have HF0 := Lib.hid (And.intro HV.out.f0 HV.out.f1)
        have hbr : barrelRet h pack bn = ((caskOf (packedC h pack) bn).p, saltC h.fl (caskOf (packedC h pack) bn), (caskOf (packedC h pack) bn).d, 0) := by
          rw [barrelRet, if_neg (by rw [HV'.out]; decide), HG.out, HR.out, if_neg (by decide), Int.toNat_natCast]
        have HBR := Lib.hid hbr
        clear hgl hl5 hcok hbr hb0 hbl
        go_enter Try.func182, Try.ntmps182
        go_wp2_with (first
          | (go_at_call 125; refine HC.out.mono ?_; rintro e w1 ⟨rfl, hb1⟩; obtain ⟨g0, g1, g2, g3⟩ := (HB.out.of (hb1.block _ HB.out.lt)).cells)
          | (go_at_call 201; refine (good_any L h HV.out pack hl A c _ (HH.out.below (hb0to HBW.out hb1)) (HIK.out _ (hb0to HBW.out hb1))).mono ?_; rintro e w2 ⟨rfl, hb2⟩; have x0 := below_cell hb2 g0; have x1 := below_cell hb2 g1; have x2 := below_cell hb2 g2; have x3 := below_cell hb2 g3)
          | (go_at_call 202; refine (isBarrel_any L h _ _ hb1000).mono ?_; rintro e w3 ⟨rfl, hb3⟩; have y0 := below_cell hb3 x0; have y1 := below_cell hb3 x1; have y2 := below_cell hb3 x2; have y3 := below_cell hb3 x3)
          | (go_at_call 175; refine (packed_of_good L h HV.out pack HGL.out.1 HGL.out.2 A c _ (HH.out.below (hb0to HBW.out (hb0to hb1 (hb0to hb2 hb3)))) (HIK.out _ (hb0to HBW.out (hb0to hb1 (hb0to hb2 hb3))))).mono ?_; rintro e w4 ⟨rfl, hb4⟩))
        have z1 := below_cell hb4 y1
        have hcb : CaskBox (w4.alloc (.cells #[.int .i64 (caskOf (packedC h pack) bn).n, .int .i64 (caskOf (packedC h pack) bn).p, .int .i64 (caskOf (packedC h pack) bn).s, .int .i64 (caskOf (packedC h pack) bn).d] 167)) w4.heap.size (caskOf (packedC h pack) bn) := World.alloc_heap_new w4 _
        obtain ⟨r0, r1, r2, r3⟩ := hcb.at_
        simp only [Nat.zero_add] at r1 r2 r3
        have z2 := below_cell ((Below.refl _ w4).alloc (Nat.le_refl _) (.cells #[.int .i64 (caskOf (packedC h pack) bn).n, .int .i64 (caskOf (packedC h pack) bn).p, .int .i64 (caskOf (packedC h pack) bn).s, .int .i64 (caskOf (packedC h pack) bn).d] 167)) z1
        have hbz := hb0to HBW.out (hb0to hb1 (hb0to hb2 (hb0to hb3 (hb0to hb4 ((Below.refl _ w4).alloc (Nat.le_refl _) (.cells #[.int .i64 (caskOf (packedC h pack) bn).n, .int .i64 (caskOf (packedC h pack) bn).p, .int .i64 (caskOf (packedC h pack) bn).s, .int .i64 (caskOf (packedC h pack) bn).d] 167))))))
        obtain ⟨W5, hW5⟩ : ∃ W5, w4.alloc (.cells #[.int .i64 (caskOf (packedC h pack) bn).n, .int .i64 (caskOf (packedC h pack) bn).p, .int .i64 (caskOf (packedC h pack) bn).s, .int .i64 (caskOf (packedC h pack) bn).d] 167) = W5 := ⟨_, rfl⟩
        rw [hW5] at r0 r1 r2 r3 z2 hbz ⊢
        have e0 := extB_cell r0
        have e1 := extB_cell r1
        have e2 := extB_cell r2
        have e3 := extB_cell r3
        have e4 := extB_cell z2
        clear hW5 hcb r0 r1 r2 r3 z1 z2 y0 y1 y2 y3 x0 x1 x2 x3 g0 g1 g2 g3
        refine wp_region_extW (by kernel_rfl) (by kernel_rfl) ?_
        repeat (go_big_quiet_step ((go_at_call 129; exact ext_call (saltC_any _ h.fl HCK.out HF0.out _))))
        refine wpQuiet_nil ?_
        rintro _ ⟨x1, rfl⟩
        have hb8 := extB_below W5 x1
        clear e0 e1 e2 e3 e4
        go_wp2
        refine bodyPost_ret (v := .tuple #[.int .i64 (caskOf (packedC h pack) bn).p, .int .i64 (saltC h.fl (caskOf (packedC h pack) bn)), .int .i64 (caskOf (packedC h pack) bn).d, .int .i64 0]) (by simp [results, Try.results182, go_sem]) rfl ⟨by rw [HBR.out], hb0to hbz hb8⟩
end Go.Proofs.Ytmbcpmnigggbaaa
