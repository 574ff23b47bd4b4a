import Derived.Test.YtgemmmdcpbajoaaWB
import Derived.Test.YtgemmmdcpbajoaaVP
namespace Go.Proofs.Ytgemmmdcpbajoaa
open Go.RowKit

/-! SaltEach. -/
structure EachM (w W0 W : World) (L : HL) (h : House) (A : Option Addr) (pack : List Int) : Prop where
  M : LawW W0 W w.heap.size L h
  p : IntsAt W W.heap.size A pack
theorem EachM.next {w W0 W W' : World} {L : HL} {h : House} {A : Option Addr} {pack : List Int} (H : EachM w W0 W L h A pack) (hb : Below W.heap.size W W') : EachM w W0 W' L h A pack := ⟨H.M.next hb, ints_later H.p hb⟩
set_option maxRecDepth 100000 in
set_option maxHeartbeats 4000000 in
theorem each_no (L : HL) (h : House) (A : Option Addr) (c : Nat) (pack : List Int) (day : Int) (hl0 : pack.length ≤ 9223372036854775807) (r g : Bool) (hc : r = false ∨ (r = true ∧ 40 < pack.length) ∨ (r = true ∧ pack.length ≤ 40 ∧ g = false) ∨ (r = true ∧ pack.length ≤ 40 ∧ g = true ∧ inR day 0 20 = false))
    (HR : Hid (∀ W, HouseAt W W.heap.size L h → Calls Try.prog 23 #[L.enc h] W fun e w' => e = .returned (.bool r) ∧ Below W.heap.size W w'))
    (HG : Hid (pack.length ≤ 40 → r = true → ∀ W, HouseAt W W.heap.size L h → IntsAt W W.heap.size A pack → Calls Try.prog 52 #[L.enc h, .slice A pack.length c] W fun e w' => e = .returned (.bool g) ∧ Below W.heap.size W w')) (w : World) (hH : HouseAt w w.heap.size L h) (hI : IntsAt w w.heap.size A pack) :
    Calls Try.prog 14 #[L.enc h, .slice A pack.length c, .int .i64 day] w fun e w' => e = .returned (.bool true) ∧ Below w.heap.size w w' := by
  obtain ⟨W0, hW0, hM, hbw⟩ := LawN.new hH
  have HBW := Lib.hid hbw
  have HW0 := Lib.hid hW0
  have M0 := Lib.hid (show EachM w W0 W0 L h A pack from ⟨LawW.new hM, ints_later hI hbw⟩)
  have hc0 := hM.c
  have HDAY := Lib.hid (fun W => rIsDay_any day W)
  clear hW0 hM hbw hH hI
  obtain ⟨Ak, ck, Ap, cp, Ab, cb⟩ := L
  rcases hc with rfl | ⟨rfl, hl⟩ | ⟨rfl, hl, rfl⟩ | ⟨rfl, hl, rfl, hd⟩
  · clear hl0
    go_enter Try.func14, Try.ntmps14
    go_upto_region 1 with (fail)
    have e := HW0.out
    rw [e]
    clear e
    go_wp2_with (first
      | (go_at_call 23; refine (HR.out W0 M0.out.M.M.H).mono ?_; rintro e w1 ⟨rfl, hb1⟩; have M1 := Lib.hid (M0.out.next hb1); clear hb1)
      | (go_at_call 16; refine (works_any w1).mono ?_; rintro e w2 ⟨rfl, hb2⟩; have M2 := Lib.hid (M1.out.next hb2); clear hb2))
    go_ret
    exact ⟨rfl, hb0to HBW.out M2.out.M.B⟩
  · have hd : decide ((40 : Int) < (pack.length : Int)) = true := decide_eq_true (by omega)
    go_enter Try.func14, Try.ntmps14
    go_upto_region 1 with (fail)
    have e := HW0.out
    rw [e]
    clear e
    go_wp2_with (first
      | (go_at_call 23; refine (HR.out W0 M0.out.M.M.H).mono ?_; rintro e w1 ⟨rfl, hb1⟩; have M1 := Lib.hid (M0.out.next hb1); clear hb1)
      | (go_at_call 16; refine (works_any w1).mono ?_; rintro e w2 ⟨rfl, hb2⟩; have M2 := Lib.hid (M1.out.next hb2); clear hb2))
    go_ret
    exact ⟨rfl, hb0to HBW.out M2.out.M.B⟩
  · have hd : decide ((40 : Int) < (pack.length : Int)) = false := decide_eq_false (by omega)
    have HL40 := Lib.hid hl
    go_enter Try.func14, Try.ntmps14
    go_upto_region 1 with (fail)
    have e := HW0.out
    rw [e]
    clear e
    go_wp2_with (first
      | (go_at_call 23; refine (HR.out W0 M0.out.M.M.H).mono ?_; rintro e w1 ⟨rfl, hb1⟩; have M1 := Lib.hid (M0.out.next hb1); have m1 := M1.out.M.M.c; clear hb1)
      | (go_at_call 52; refine (HG.out HL40.out (by trivial) w1 M1.out.M.M.H M1.out.p).mono ?_; rintro e w2 ⟨rfl, hb2⟩; have M2 := Lib.hid (M1.out.next hb2); clear hb2)
      | (go_at_call 16; refine (works_any w2).mono ?_; rintro e w3 ⟨rfl, hb3⟩; have M3 := Lib.hid (M2.out.next hb3); clear hb3))
    go_ret
    exact ⟨rfl, hb0to HBW.out M3.out.M.B⟩
  · have hd' : decide ((40 : Int) < (pack.length : Int)) = false := decide_eq_false (by omega)
    have HL40 := Lib.hid hl
    rw [hd] at HDAY
    clear hd
    go_enter Try.func14, Try.ntmps14
    go_upto_region 1 with (fail)
    have e := HW0.out
    rw [e]
    clear e
    go_wp2_with (first
      | (go_at_call 23; refine (HR.out W0 M0.out.M.M.H).mono ?_; rintro e w1 ⟨rfl, hb1⟩; have M1 := Lib.hid (M0.out.next hb1); have m1 := M1.out.M.M.c; clear hb1)
      | (go_at_call 52; refine (HG.out HL40.out (by trivial) w1 M1.out.M.M.H M1.out.p).mono ?_; rintro e w2 ⟨rfl, hb2⟩; have M2 := Lib.hid (M1.out.next hb2); clear hb2)
      | (go_at_call 50; refine (HDAY.out w2).mono ?_; rintro e w' ⟨rfl, rfl⟩)
      | (go_at_call 16; refine (works_any w2).mono ?_; rintro e w3 ⟨rfl, hb3⟩; have M3 := Lib.hid (M2.out.next hb3); clear hb3))
    go_ret
    exact ⟨rfl, hb0to HBW.out M3.out.M.B⟩
set_option maxRecDepth 100000 in
set_option maxHeartbeats 8000000 in
theorem each_yes (L : HL) (h : House) (hv : validH h = true) (A : Option Addr) (c : Nat) (pack : List Int) (hA : A = none → c = 0 ∧ pack = []) (hg : goodB h pack = true) (day : Int) (hd : inR day 0 20 = true) (m n ev : Int) (pl : List Int) (hE : EachP h pack day m n ev pl)
    (HR : Hid (∀ W, HouseAt W W.heap.size L h → Calls Try.prog 23 #[L.enc h] W fun e w' => e = .returned (.bool true) ∧ Below W.heap.size W w')) (w : World) (hH : HouseAt w w.heap.size L h) (hI : IntsAt w w.heap.size A pack) :
    Calls Try.prog 14 #[L.enc h, .slice A pack.length c, .int .i64 day] w fun e w' => e = .returned (.bool true) ∧ Below w.heap.size w w' := by
  have hV := HOK.ofValid hv
  have hbl := hV.bl
  have hpl6 := hV.pl
  have hp : pack ∈ packsL h := by rw [packs_eq hV]; exact (goodB_fit hV).1 hg
  have hne : packsL h ≠ [] := List.ne_nil_of_mem hp
  have hlen := (mem_packsL hp).1
  have hplen : pl.length = h.ps.length := (mem_packsL (by rw [packs_eq hV]; exact (goodB_fit hV).1 hE.good)).1
  have hn := valid_1000 hv
  have hib : isB h = true := isB_ne.2 hne
  obtain ⟨W0, hW0, hM, hbw⟩ := LawN.new hH
  have HBW := Lib.hid hbw
  have HW0 := Lib.hid hW0
  have M0 := Lib.hid (show EachM w W0 W0 L h A pack from ⟨LawW.new hM, ints_later hI hbw⟩)
  have hc0 := hM.c
  obtain ⟨F, hF⟩ : ∃ x, x = packF h pack := ⟨_, rfl⟩
  obtain ⟨U, hU⟩ : ∃ x, x = usedF h pack := ⟨_, rfl⟩
  obtain ⟨E, hEE⟩ : ∃ x, x = earlyF day h pack := ⟨_, rfl⟩
  obtain ⟨P, hP⟩ : ∃ x, x = allP h h.ps.length := ⟨_, rfl⟩
  have HDAY := Lib.hid (fun W => rIsDay_any day W)
  rw [hd] at HDAY
  have H52 := Lib.hid (fun (l : List Int) (hl : goodB h l = true ∧ l.length ≤ 1000) A c W (hW : HouseAt W W.heap.size L h) (hI : IntsAt W W.heap.size A l) => by have := isPacking_any L h hV l hl.2 A c W hW hI; rwa [hl.1] at this)
  have H44 := Lib.hid (both_any L h hv)
  rw [hE.least, hE.few, hib] at H44
  have H38 := Lib.hid (pack_any2 L h hn)
  rw [hE.pk] at H38
  have H56 := Lib.hid (spare_any2 L h hn)
  rw [spare_yes hv hne] at H56
  have H45 := Lib.hid (early_any2 day L h hn)
  rw [hE.early] at H45
  have H58 := Lib.hid (fun A c W hW hI => allSalt_any L h hV pack (by omega) A c W hW hI)
  rw [show sumB (saltC h.fl) h pack h.bs.length = F from hF.symm] at H58
  have H58b := Lib.hid (fun A c W hW hI => allSalt_any L h hV pl (by omega) A c W hW hI)
  rw [show sumB (saltC h.fl) h pl h.bs.length = m from hE.m0] at H58b
  have H59 := Lib.hid (fun A c W hI => rUsed_any L h hV pack (by omega) A c W hI)
  rw [show sumB usedC h pack h.bs.length = U from hU.symm] at H59
  have H60 := Lib.hid (fun A c W hW hI => earlyOf_any L h hV pack (by omega) day A c W hW hI)
  rw [show sumB (earlyC day) h pack h.bs.length = E from hEE.symm] at H60
  have H47 := Lib.hid (all_any47 L h hV)
  rw [← hP] at H47
  obtain ⟨spl, hspl⟩ : ∃ x, x = someTo spareP (packsL h) h.bs.length := ⟨_, rfl⟩
  have hspr : riseB spl h.bs.length = true := by rw [hspl]; exact someTo_rise _ _ _
  rw [← hspl] at H56
  have H61 := Lib.hid (fun (l : List Int) (hl : riseB l h.bs.length = true) A c W (hI : IntsAt W W.heap.size A l) => by have := rising_any l (by have := riseB_len hl; omega) (h.bs.length : Int) A c W hI; rwa [hl] at this)
  have H53 := Lib.hid (fun (i : Nat) (hi : i < h.ps.length) W (hW : HouseAt W W.heap.size L h) => by have := where_any2 L h hn (i : Int) W hW; rwa [where_yes hv hne hi] at this)
  have HWR := Lib.hid (fun (i : Nat) => someTo_rise (whereP i) (packsL h) h.bs.length)
  have HWM := Lib.hid (fun (i : Nat) (x : Int) (hx : pack[i]? = some x) => where_mem hp hx)
  have H33 := Lib.hid (fun (b : Nat) (hb : b < h.bs.length) A c W (hW : HouseAt W W.heap.size L h) (hI : IntsAt W W.heap.size A pack) => by have := barrel_any L h hn pack (by omega) (b : Int) A c W hW hI; rwa [(each_barrel hv hg hb).1] at this)
  have HEB := Lib.hid (fun (b : Nat) (hb : b < h.bs.length) => (each_barrel hv hg hb).2)
  rw [← hspl] at HEB
  have hgm := hE.good
  have hm1 := hE.m1
  have hn1 := hE.n1
  have he1 := hE.e1
  have he2 := hE.e2
  rw [← hF] at hm1
  rw [← hU] at hn1
  rw [← hEE] at he1
  rw [← hP] at he2
  have HSF := Lib.hid (hF.trans (sumB_sumN (saltC h.fl) h pack h.bs.length))
  have HSP := Lib.hid (hP.trans ((pounds_all hp).symm.trans (sumB_sumN (·.p) h pack h.bs.length)))
  have HGM := Lib.hid (show goodB h pl = true ∧ pl.length ≤ 1000 from ⟨hgm, by omega⟩)
  have HGP := Lib.hid (show goodB h pack = true ∧ pack.length ≤ 1000 from ⟨hg, by omega⟩)
  have HSPR := Lib.hid hspr
  have HAA := Lib.hid hA
  have HLEN := Lib.hid hlen
  have hd40 : decide ((40 : Int) < (pack.length : Int)) = false := decide_eq_false (by omega)
  have hd1 : decide (F < m) = false := decide_eq_false (by omega)
  have hd2 : decide (U < n) = false := decide_eq_false (by omega)
  have hd3 : decide (ev < E) = false := decide_eq_false (by omega)
  have hd4 : decide (P < ev) = false := decide_eq_false (by omega)
  have hwr : IntKind.i64.wrap ((h.bs.length : Int) - 1) = (h.bs.length : Int) - 1 := IntWalk.i64_in _ (by omega)
  have hpk40 : pack.length ≤ 40 := by omega
  clear hW0 hM hbw hH hI hv hg hd hE hV hp hne hn hib hF hU hEE hP hspl hspr hgm hm1 hn1 he1 he2 hA hlen hplen
  obtain ⟨Ak, ck, Ap, cp, Ab, cb⟩ := L
  go_enter Try.func14, Try.ntmps14
  go_upto_region 1 with (fail)
  have e := HW0.out
  rw [e]
  clear e
  go_wp2_with (first
    | (go_at_call 23; refine (HR.out W0 M0.out.M.M.H).mono ?_; rintro e w1 ⟨rfl, hb1⟩; have M1 := Lib.hid (M0.out.next hb1); have m1 := M1.out.M.M.c; clear hb1)
    | (go_at_call 52; (with_reducible refine (H52.out pl HGM.out A5 c5 w6 M6.out.M.M.H L6.out).mono ?_); rintro e w7 ⟨rfl, hb⟩; have M7 := Lib.hid (M6.out.next hb); have L7 := Lib.hid (ints_later L6.out hb); have S7 := Lib.hid (ints_later S6.out hb); have m7 := M7.out.M.M.c; clear hb)
    | (go_at_call 52; (with_reducible refine (H52.out pack HGP.out A c w1 M1.out.M.M.H M1.out.p).mono ?_); rintro e w2 ⟨rfl, hb2⟩; have M2 := Lib.hid (M1.out.next hb2); have m2 := M2.out.M.M.c; clear hb2)
    | (go_at_call 50; refine (HDAY.out w2).mono ?_; rintro e w' ⟨rfl, rfl⟩)
    | (go_at_call 44; refine (H44.out w2 M2.out.M.M.H).mono ?_; rintro e w3 ⟨rfl, hb⟩; have M3 := Lib.hid (M2.out.next hb); have m3 := M3.out.M.M.c; clear hb)
    | (go_at_call 38; refine (H38.out w3 M3.out.M.M.H).mono ?_; rintro e w4 ⟨⟨A5, c5, rfl, -, hI⟩, hb⟩; have M4 := Lib.hid (M3.out.next hb); have L4 := Lib.hid hI.at_; have m4 := M4.out.M.M.c; clear hb hI)
    | (go_at_call 56; refine (H56.out w4 M4.out.M.M.H).mono ?_; rintro e w5 ⟨⟨v5, rfl, hI⟩, hb⟩; obtain ⟨A6, c6, rfl, -, -, hI6⟩ := hI.lay; have M5 := Lib.hid (M4.out.next hb); have L5 := Lib.hid (ints_later L4.out hb); have S5 := Lib.hid hI6.at_; have m5 := M5.out.M.M.c; clear hb hI hI6)
    | (go_at_call 45; refine (H45.out w5 M5.out.M.M.H).mono ?_; rintro e w6 ⟨rfl, hb⟩; have M6 := Lib.hid (M5.out.next hb); have L6 := Lib.hid (ints_later L5.out hb); have S6 := Lib.hid (ints_later S5.out hb); have m6 := M6.out.M.M.c; clear hb)
    | (go_at_call 58; (with_reducible refine (H58.out A c w8 M8.out.M.M.H M8.out.p).mono ?_); rintro e w9 ⟨rfl, hb⟩; have M9 := Lib.hid (M8.out.next hb); have S9 := Lib.hid (ints_later S8.out hb); have m9 := M9.out.M.M.c; clear hb)
    | (go_at_call 58; (with_reducible refine (H58b.out A5 c5 w7 M7.out.M.M.H L7.out).mono ?_); rintro e w8 ⟨rfl, hb⟩; have M8 := Lib.hid (M7.out.next hb); have S8 := Lib.hid (ints_later S7.out hb); have m8 := M8.out.M.M.c; clear hb)
    | (go_at_call 59; refine (H59.out A c w9 M9.out.p).mono ?_; rintro e w10 ⟨rfl, hb⟩; have M10 := Lib.hid (M9.out.next hb); have S10 := Lib.hid (ints_later S9.out hb); have m10 := M10.out.M.M.c; clear hb)
    | (go_at_call 60; refine (H60.out A c w10 M10.out.M.M.H M10.out.p).mono ?_; rintro e w11 ⟨rfl, hb⟩; have M11 := Lib.hid (M10.out.next hb); have S11 := Lib.hid (ints_later S10.out hb); have m11 := M11.out.M.M.c; clear hb)
    | (go_at_call 47; refine (H47.out w11 M11.out.M.M.H).mono ?_; rintro e w12 ⟨rfl, hb⟩; have M12 := Lib.hid (M11.out.next hb); have S12 := Lib.hid (ints_later S11.out hb); have m12 := M12.out.M.M.c; clear hb)
    | (go_at_call 61; refine (H61.out spl HSPR.out A6 c6 w12 S12.out).mono ?_; rintro e w13 ⟨rfl, hb⟩; have M13 := Lib.hid (M12.out.next hb); have S13 := Lib.hid (ints_later S12.out hb); clear hb))
  clear hc0 m1 m2 m3 m4 m5 m6 m7 m8 m9 m10 m11 m12
  go_loopw [17] (fun i wr => ∃ k : Nat, k ≤ pack.length ∧ i = .int .i64 k ∧ Hid (Below w13.heap.size w13 wr)) (fun i _ => pack.length - (intOf i).toNat)
  case atStart => exact ⟨0, Nat.zero_le _, rfl, Lib.hid (Below.refl _ _)⟩
  case round =>
    obtain ⟨k, hk, rfl, hb⟩ := hrel
    have MR := Lib.hid (M13.out.next hb.out)
    have mr := MR.out.M.M.c
    by_cases hlt : k < pack.length
    · obtain ⟨x, hx⟩ : ∃ x, pack[k]? = some x := ⟨_, List.getElem?_eq_getElem hlt⟩
      obtain ⟨bi, oi, rfl, _, ci⟩ := MR.out.p.at_ hx
      have HXM := Lib.hid (decide_eq_true (HWM.out k x hx))
      have HK := Lib.hid (show k < h.ps.length by have := HLEN.out; omega)
      clear hx
      go_wp2_with (first
        | (go_at_call 53; refine (H53.out k HK.out wr MR.out.M.M.H).mono ?_; rintro e w14 ⟨⟨v14, rfl, hI⟩, hb'⟩; obtain ⟨A14, c14, rfl, -, -, hI6⟩ := hI.lay; have M14 := Lib.hid (MR.out.next hb'); have B14 := Lib.hid (hb0to hb.out hb'); have I14 := Lib.hid hI6.at_; obtain ⟨r0, r1, r2, r3⟩ := M14.out.M.M.c; obtain ci14 := below_cell hb' ci; clear hb' hI hI6)
        | (go_at_call 61; refine (H61.out _ (HWR.out k) A14 c14 w14 I14.out).mono ?_; rintro e w15 ⟨rfl, hb'⟩; have B15 := Lib.hid (hb0to B14.out hb'); have I15 := Lib.hid (ints_later I14.out hb'); have ci15 := below_cell hb' ci14; clear hb')
        | (go_at_call 62; refine (rIn_any _ (by have := riseB_len (HWR.out k); omega) x A14 c14 w15 I15.out).mono ?_; rintro e w16 ⟨rfl, hb'⟩; rw [HXM.out]; have B16 := Lib.hid (hb0to B15.out hb'); clear hb'))
      go_roundw
      case rel => exact ⟨k + 1, by omega, by go_num, B16⟩
      case measure => simp [intOf]; omega
    · obtain rfl : k = pack.length := by omega
      have SR := Lib.hid (ints_later S13.out hb.out)
      go_wp2_with (fail)
      go_loopw [20, 21, 22] (fun s t i wx => ∃ (k : Nat) (x y : Int), k ≤ h.bs.length ∧ i = .int .i64 k ∧ s = .int .i64 x ∧ t = .int .i64 y ∧ Hid (x = sumN (fun b => saltC h.fl (caskIn h (inOf pack (b : Int)))) k) ∧ Hid (y = sumN (fun b => (caskIn h (inOf pack (b : Int))).p) k) ∧ (0 ≤ x ∧ x ≤ 10000 * k ∧ 0 ≤ y ∧ y ≤ 10000 * k) ∧ Hid (Below wr.heap.size wr wx)) (fun _ _ i _ => h.bs.length - (intOf i).toNat)
      case atStart => exact ⟨0, 0, 0, Nat.zero_le _, rfl, rfl, rfl, Lib.hid rfl, Lib.hid rfl, by simp, Lib.hid (Below.refl _ _)⟩
      case round =>
        obtain ⟨k, x, y, hk, rfl, rfl, rfl, hX, hY, ⟨x0, x1, y0, y1⟩, hb2⟩ := hrel
        have MX := Lib.hid (MR.out.next hb2.out)
        have SX := Lib.hid (ints_later SR.out hb2.out)
        obtain ⟨g0, g1, g2, g3⟩ := MX.out.M.M.c
        by_cases hlt : k < h.bs.length
        · obtain ⟨p0, p1, s0, s1, hroom, hemp, d0, d1⟩ := HEB.out k hlt
          have H33k := H33.out k hlt
          obtain ⟨xb, hxb⟩ : ∃ x, h.bs[k]? = some x := ⟨_, List.getElem?_eq_getElem hlt⟩
          obtain ⟨bB, oB, eB, _, cB⟩ := MX.out.M.M.H.b.at_ hxb
          simp only at eB
          rw [List.getD_eq_getElem?_getD, hxb] at hroom
          simp only [Option.getD_some] at hroom
          obtain ⟨pv, hpv⟩ : ∃ v, v = (caskIn h (inOf pack (k : Int))).p := ⟨_, rfl⟩
          obtain ⟨sv, hsv⟩ : ∃ v, v = saltC h.fl (caskIn h (inOf pack (k : Int))) := ⟨_, rfl⟩
          obtain ⟨dv, hdv⟩ : ∃ v, v = (caskIn h (inOf pack (k : Int))).d := ⟨_, rfl⟩
          rw [← hpv, ← hsv] at hroom
          rw [← hpv, ← hsv, ← hdv] at H33k hemp
          rw [← hpv] at p0 p1
          rw [← hsv] at s0 s1
          rw [← hdv] at d0 d1
          have HX1 := Lib.hid (show x + sv = sumN (fun b => saltC h.fl (caskIn h (inOf pack (b : Int)))) (k + 1) by rw [sumN, ← hX.out, hsv])
          have HY1 := Lib.hid (show y + pv = sumN (fun b => (caskIn h (inOf pack (b : Int))).p) (k + 1) by rw [sumN, ← hY.out, hpv])
          have H33K := Lib.hid H33k
          have hd5 : decide (xb < pv + sv) = false := decide_eq_false (by omega)
          have hd6 : decide (xb < 0) = false := decide_eq_false (by omega)
          subst eB
          have HL1000 := Lib.hid (show pack.length ≤ 1000 by omega)
          obtain ⟨rw', hrw⟩ : ∃ l, l = inOf pack (k : Int) := ⟨_, rfl⟩
          have HIN := Lib.hid (fun W hI => in_any pack HL1000.out (k : Int) A c W hI)
          rw [← hrw] at hemp HIN
          clear H33k hxb hpv hsv hdv hrw hroom hX hY
          by_cases he : rw' = []
          · obtain ⟨rfl, rfl, rfl, hmem⟩ := hemp he
            subst he
            have HMEM := Lib.hid (decide_eq_true hmem)
            clear hmem hemp
            as_aux_lemma =>
            go_upto_region 19 with (fail)
            go_region_held3 (fun w' => w'.cell? ⟨w.heap.size, 0, none⟩ = some (.slice Ak h.ks.length ck) ∧ w'.cell? ⟨w.heap.size, 1, none⟩ = some (.int .i64 h.fl) ∧ w'.cell? ⟨w.heap.size, 2, none⟩ = some (.slice Ap h.ps.length cp) ∧ w'.cell? ⟨w.heap.size, 3, none⟩ = some (.slice (some ⟨bB, oB, none⟩) h.bs.length cb)) (first | go_keep)
              (first
                | (go_at_call 26; refine (copied_any pack HL1000.out A c HAA.out _ (by first | exact MX.out.p | exact ints_later MX.out.p (drew_below _))).mono ?_; rintro e w15 ⟨⟨v15, rfl, hI5⟩, hb5⟩; obtain ⟨A15, c15, rfl, -, -, hI5'⟩ := hI5.lay; have hk5 : Below wr.heap.size wr w15 := (by first | exact hb5 | exact hb0to (drew_below wr) hb5); have M15 := Lib.hid (MX.out.next hk5); have B15 := Lib.hid hk5; have I15 := Lib.hid hI5'.at_; obtain ⟨r0, r1, r2, r3⟩ := M15.out.M.M.c; clear hb5 hI5 hI5' hk5)
                | (go_at_call 33; refine (H33K.out A15 c15 w15 M15.out.M.M.H I15.out).mono ?_; rintro e w16 ⟨rfl, hb6⟩; have M16 := Lib.hid (M15.out.next hb6); have B16 := Lib.hid (hb0to B15.out hb6); obtain ⟨r0, r1, r2, r3⟩ := M16.out.M.M.c; have cB16 := below_cell B16.out cB; clear hb6))
            go_wp2_with (first
              | (go_at_call 63; refine (HIN.out w16 M16.out.p).mono ?_; rintro e w17 ⟨⟨v17, rfl, hI17⟩, hb7⟩; obtain ⟨A17, c17, rfl, -, -, -⟩ := hI17.lay; clear hI17; have M17 := Lib.hid (M16.out.next hb7); have B17 := Lib.hid (hb0to B16.out hb7); obtain ⟨q0, q1, q2, q3⟩ := M17.out.M.M.c; have cB17 := below_cell B17.out cB; clear hb7)
              | (go_at_call 62; refine (rIn_any spl (by have := riseB_len HSPR.out; omega) (k : Int) A6 c6 w17 (ints_later SX.out B17.out)).mono ?_; rintro e w18 ⟨rfl, hb8⟩; rw [HMEM.out]; have B18 := Lib.hid (hb0to B17.out hb8); clear hb8))
            go_roundw
            case rel => exact ⟨k + 1, _, _, by omega, by go_num, rfl, rfl, Lib.hid (by have := HX1.out; rwa [Int.add_zero] at this), Lib.hid (by have := HY1.out; rwa [Int.add_zero] at this), by omega, Lib.hid (hb0to hb2.out B18.out)⟩
            case measure => simp [intOf]; omega
          · have hle : (((rw'.length : Nat) : Int) == 0) = false := beq_eq_false_iff_ne.2 (by have := List.length_pos_iff.2 he; omega)
            have hle2 : ¬ rw' = [] := he
            clear hemp he
            as_aux_lemma =>
            go_upto_region 19 with (fail)
            go_region_held3 (fun w' => w'.cell? ⟨w.heap.size, 0, none⟩ = some (.slice Ak h.ks.length ck) ∧ w'.cell? ⟨w.heap.size, 1, none⟩ = some (.int .i64 h.fl) ∧ w'.cell? ⟨w.heap.size, 2, none⟩ = some (.slice Ap h.ps.length cp) ∧ w'.cell? ⟨w.heap.size, 3, none⟩ = some (.slice (some ⟨bB, oB, none⟩) h.bs.length cb)) (first | go_keep)
              (first
                | (go_at_call 26; refine (copied_any pack HL1000.out A c HAA.out _ (by first | exact MX.out.p | exact ints_later MX.out.p (drew_below _))).mono ?_; rintro e w15 ⟨⟨v15, rfl, hI5⟩, hb5⟩; obtain ⟨A15, c15, rfl, -, -, hI5'⟩ := hI5.lay; have hk5 : Below wr.heap.size wr w15 := (by first | exact hb5 | exact hb0to (drew_below wr) hb5); have M15 := Lib.hid (MX.out.next hk5); have B15 := Lib.hid hk5; have I15 := Lib.hid hI5'.at_; obtain ⟨r0, r1, r2, r3⟩ := M15.out.M.M.c; clear hb5 hI5 hI5' hk5)
                | (go_at_call 33; refine (H33K.out A15 c15 w15 M15.out.M.M.H I15.out).mono ?_; rintro e w16 ⟨rfl, hb6⟩; have M16 := Lib.hid (M15.out.next hb6); have B16 := Lib.hid (hb0to B15.out hb6); obtain ⟨r0, r1, r2, r3⟩ := M16.out.M.M.c; have cB16 := below_cell B16.out cB; clear hb6))
            go_wp2_with (go_at_call 63; refine (HIN.out w16 M16.out.p).mono ?_; rintro e w17 ⟨⟨v17, rfl, hI17⟩, hb7⟩; obtain ⟨A17, c17, rfl, -, -, -⟩ := hI17.lay; clear hI17; have M17 := Lib.hid (M16.out.next hb7); have B17 := Lib.hid (hb0to B16.out hb7); obtain ⟨q0, q1, q2, q3⟩ := M17.out.M.M.c; have cB17 := below_cell B17.out cB; clear hb7)
            go_roundw
            case rel => exact ⟨k + 1, _, _, by omega, by go_num, rfl, rfl, HX1, HY1, by omega, Lib.hid (hb0to hb2.out B17.out)⟩
            case measure => simp [intOf]; omega
        · obtain rfl : k = h.bs.length := by omega
          obtain rfl : x = F := hX.out.trans HSF.out.symm
          obtain rfl : y = P := hY.out.trans HSP.out.symm
          clear hX hY
          go_wp2_with (first
            | (go_at_call 58; refine (H58.out A c wr MX.out.M.M.H MX.out.p).mono ?_; rintro e w20 ⟨rfl, hb'⟩; have M20 := Lib.hid (MX.out.next hb'); have m20 := M20.out.M.M.c; clear hb')
            | (go_at_call 47; refine (H47.out w20 M20.out.M.M.H).mono ?_; rintro e w21 ⟨rfl, hb'⟩; have M21 := Lib.hid (M20.out.next hb'); clear hb')
            | (go_at_call 16; refine (works_any w21).mono ?_; rintro e w22 ⟨rfl, hb'⟩; have M22 := Lib.hid (M21.out.next hb'); clear hb'))
          go_ret
          exact ⟨rfl, hb0to HBW.out M22.out.M.B⟩
theorem each_law (L : HL) (h : House) (A : Option Addr) (c : Nat) (pack : List Int) (hA : A = none → c = 0 ∧ pack = []) (hl : pack.length ≤ 9223372036854775807) (day : Int) (w : World) (hH : HouseAt w w.heap.size L h) (hI : IntsAt w w.heap.size A pack) :
    Calls Try.prog 14 #[L.enc h, .slice A pack.length c, .int .i64 day] w fun e w' => e = .returned (.bool true) ∧ Below w.heap.size w w' := by
  by_cases hr : readyB h = true
  · have hv := (ready_far hr).2
    have hV := HOK.ofValid hv
    have HR := Lib.hid (fun W (hW : HouseAt W W.heap.size L h) => by have := ready_any L h W hW; rwa [hr] at this)
    by_cases hl40 : pack.length ≤ 40
    · have HG : ∀ W, HouseAt W W.heap.size L h → IntsAt W W.heap.size A pack → Calls Try.prog 52 #[L.enc h, .slice A pack.length c] W fun e w' => e = .returned (.bool (goodB h pack)) ∧ Below W.heap.size W w' := fun W hW hI => isPacking_any L h hV pack (by omega) A c W hW hI
      by_cases hg : goodB h pack = true
      · by_cases hd : inR day 0 20 = true
        · obtain ⟨m, n, ev, pl, hE⟩ := each_plain hv hg hd
          exact each_yes L h hv A c pack hA hg day hd m n ev pl hE HR w hH hI
        · rw [hg] at HG
          exact each_no L h A c pack day hl true true (.inr (.inr (.inr ⟨rfl, hl40, rfl, by simpa using hd⟩))) HR (Lib.hid fun _ _ => HG) w hH hI
      · rw [show goodB h pack = false by simpa using hg] at HG
        exact each_no L h A c pack day hl true false (.inr (.inr (.inl ⟨rfl, hl40, rfl⟩))) HR (Lib.hid fun _ _ => HG) w hH hI
    · exact each_no L h A c pack day hl true true (.inr (.inl ⟨rfl, by omega⟩)) HR (Lib.hid fun h _ => absurd h hl40) w hH hI
  · exact each_no L h A c pack day hl false true (.inl rfl) (Lib.hid (fun W hW => by have := ready_any L h W hW; rwa [show readyB h = false by simpa using hr] at this)) (Lib.hid fun _ h => by cases h) w hH hI
end Go.Proofs.Ytgemmmdcpbajoaa
