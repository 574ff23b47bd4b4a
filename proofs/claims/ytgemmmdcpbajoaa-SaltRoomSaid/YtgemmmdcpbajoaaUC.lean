import Derived.Test.YtgemmmdcpbajoaaUA
namespace Go.Proofs.Ytgemmmdcpbajoaa
open Go.RowKit

theorem any_take {f : List Int → Bool} {l : List (List Int)} {k : Nat} {q : List Int} (h : l[k]? = some q) : (l.take (k + 1)).any f = ((l.take k).any f || f q) := by
  rw [← take_snoc_next h, List.any_append]; simp
def whereP (part : Nat) (b : Nat) (x : List Int) : Bool := decide (x.getD part (-1) = (b : Int))
def rWhereS (h : House) (part : Int) : List Int × Int := if (pksS h (inR part 0 (h.ps.length - 1))).2 ≠ 0 then ([], (pksS h (inR part 0 (h.ps.length - 1))).2) else (someTo (whereP part.toNat) (packsL h) h.bs.length, 0)
def rSpareS (h : House) : List Int × Int := if (pksS h true).2 ≠ 0 then ([], (pksS h true).2) else (someTo (fun b x => decide ((inOf x b).length = 0)) (packsL h) h.bs.length, 0)
set_option maxRecDepth 100000 in
set_option maxHeartbeats 4000000 in
theorem rWhere_any (L : HL) (h : House) (hn : h.ks.length ≤ 1000 ∧ h.ps.length ≤ 1000 ∧ h.bs.length ≤ 1000) (part : Int) (w : World) (hH : HouseAt w w.heap.size L h) :
    Calls Try.prog 54 #[L.enc h, .int .i64 part] w fun e w' => ListRet (rWhereS h part) w.heap.size w' e ∧ Below w.heap.size w w' := by
  have hbw := (Below.refl _ _).alloc (Nat.le_refl w.heap.size) (.cells #[.slice L.Ak h.ks.length L.ck, .int .i64 h.fl, .slice L.Ap h.ps.length L.cp, .slice L.Ab h.bs.length L.cb] 26)
  have HB := HBox.new w L h
  obtain ⟨g0, g1, g2, g3⟩ := HB.cells
  have HBW := Lib.hid hbw
  have HB' := Lib.hid HB
  have HHB := Lib.hid (hH.below hbw)
  obtain ⟨W1, hW1⟩ : ∃ W1, W1 = w.alloc (.cells #[.slice L.Ak h.ks.length L.ck, .int .i64 h.fl, .slice L.Ap h.ps.length L.cp, .slice L.Ab h.bs.length L.cb] 26) := ⟨_, rfl⟩
  rw [← hW1] at g0 g1 g2 g3 HBW HB' HHB
  have HW := Lib.hid hW1
  have HC := Lib.hid (fun W (hW : Below W1.heap.size W1 W) => rpackings_any L h hn (inR part 0 (h.ps.length - 1)) W (HHB.out.below hW))
  have hp1000 := hn.2.1
  clear hbw hH HB hW1
  rcases pksS_cases (h := h) (inR part 0 (h.ps.length - 1)) with ⟨h0, h1, _⟩ | ⟨ha, hne, hp⟩
  · obtain ⟨e0, he⟩ : ∃ e0, e0 = (pksS h (inR part 0 (h.ps.length - 1))).2 := ⟨_, rfl⟩
    have H1 : Hid (pksS h (inR part 0 (h.ps.length - 1)) = ([], e0)) := Lib.hid (by rw [← h1, he])
    rw [← he] at h0
    have HP : Hid (rWhereS h part = ([], e0)) := Lib.hid (by rw [rWhereS, ← he, if_pos h0])
    have hd : (e0 != 0) = true := by simp [h0]
    clear h0 h1 he
    go_enter Try.func54, Try.ntmps54
    go_wp2
    rw [← HW.out]
    go_region_held3 (fun w' => w'.cell? ⟨w.heap.size, 0, none⟩ = some (.slice L.Ak h.ks.length L.ck) ∧ w'.cell? ⟨w.heap.size, 1, none⟩ = some (.int .i64 h.fl) ∧ w'.cell? ⟨w.heap.size, 2, none⟩ = some (.slice L.Ap h.ps.length L.cp) ∧ w'.cell? ⟨w.heap.size, 3, none⟩ = some (.slice L.Ab h.bs.length L.cb)) (first | go_keep)
      (first
        | (go_at_call 42; refine (rIsPart_any L h _ _ hp1000).mono ?_; rintro e w2 ⟨rfl, hb2⟩; have hb2' := hb0to (drew_below W1) hb2; have x0 := below_cell hb2' g0; have x1 := below_cell hb2' g1; have x2 := below_cell hb2' g2; have x3 := below_cell hb2' g3)
        | (go_at_call 88; refine (HC.out _ hb2').mono ?_; rintro e w3 ⟨hq, hb3⟩; obtain ⟨A1, c1, rfl, hA1, hR1⟩ := hq.to H1.out; have hb4 := hb0to hb2' hb3; have y0 := below_cell hb4 g0; have y1 := below_cell hb4 g1; have y2 := below_cell hb4 g2; have y3 := below_cell hb4 g3))
    all_goals
      go_wp2
      go_ret2
      exact ⟨⟨_, by rw [HP.out]; rfl, by rw [HP.out]; exact ints_nil _ _⟩, hb0to HBW.out hb4⟩
  · have HA := Lib.hid ha
    have HP := Lib.hid hp
    obtain ⟨hva, hpa⟩ := askH_ok ha
    have hv := HOK.ofValid hva
    obtain ⟨hp0, hp1⟩ := inR_true.1 hpa
    obtain ⟨pn, rfl⟩ : ∃ pn : Nat, part = (pn : Int) := ⟨part.toNat, by omega⟩
    have hpos : 0 < (packsL h).length := List.length_pos_iff.2 hne
    have hbound : (packsL h).length ≤ 15625 := by have := pksS_len (h := h) (inR (pn : Int) 0 (h.ps.length - 1)); rwa [hp] at this
    have HV := Lib.hid hv
    have hbl4 := hv.bl
    have HF : Hid (rWhereS h pn = (someTo (whereP pn) (packsL h) h.bs.length, 0)) := Lib.hid (by rw [rWhereS, hp]; rfl)
    clear ha hp hv hne hva hpa
    go_enter Try.func54, Try.ntmps54
    go_wp2
    rw [← HW.out]
    go_region_held3 (fun w' => w'.cell? ⟨w.heap.size, 0, none⟩ = some (.slice L.Ak h.ks.length L.ck) ∧ w'.cell? ⟨w.heap.size, 1, none⟩ = some (.int .i64 h.fl) ∧ w'.cell? ⟨w.heap.size, 2, none⟩ = some (.slice L.Ap h.ps.length L.cp) ∧ w'.cell? ⟨w.heap.size, 3, none⟩ = some (.slice L.Ab h.bs.length L.cb)) (first | go_keep)
      (first
        | (go_at_call 42; refine (rIsPart_any L h _ _ hp1000).mono ?_; rintro e w2 ⟨rfl, hb2⟩; have hb2' := hb0to (drew_below W1) hb2; have x0 := below_cell hb2' g0; have x1 := below_cell hb2' g1; have x2 := below_cell hb2' g2; have x3 := below_cell hb2' g3)
        | (go_at_call 88; refine (HC.out _ hb2').mono ?_; rintro e w3 ⟨hq, hb3⟩; obtain ⟨A1, c1, rfl, hA1, hR1⟩ := hq.to HP.out; have hb4 := hb0to hb2' hb3; have y0 := below_cell hb4 g0; have y1 := below_cell hb4 g1; have y2 := below_cell hb4 g2; have y3 := below_cell hb4 g3; have HR1 := Lib.hid hR1; clear hR1 hq))
    all_goals
      have hbq := hb0to HBW.out hb4
      have hB1 := HB'.out.of (hb4.block _ HB'.out.lt)
      have hbqs := hbq.size
      clear x0 x1 x2 x3 g0 g1 g2 g3 y0 y1 y2 y3
      go_wp2
      go_loopw [8, 9] (fun v i wr => ∃ k : Nat, k ≤ h.bs.length ∧ i = .int .i64 k ∧ Ints wr w3.heap.size v (someTo (whereP pn) (packsL h) k) ∧ Below w3.heap.size w3 wr) (fun _ i _ => h.bs.length - (intOf i).toNat)
      case atStart => exact ⟨0, Nat.zero_le _, rfl, ints_nil _ _, Below.refl _ _⟩
      case round =>
        obtain ⟨k, hk, rfl, hown, hb⟩ := hrel
        have hB2 := hB1.of (hb.block _ hB1.lt)
        obtain ⟨g0, g1, g2, g3⟩ := hB2.cells
        have hsz := hb.size
        have hsl := someTo_len (whereP pn) (packsL h) k
        by_cases hlt : k < h.bs.length
        · go_wp2
          obtain ⟨wo, rfl⟩ : ∃ wo : World, wo = wr := ⟨_, rfl⟩
          go_loopw [10, 11] (fun v i wr => ∃ j : Nat, j ≤ (packsL h).length ∧ i = .int .i64 j ∧ v = .bool (((packsL h).take j).any (whereP pn k)) ∧ wr = wo) (fun _ i _ => (packsL h).length - (intOf i).toNat)
          case atStart => exact ⟨0, Nat.zero_le _, rfl, rfl, rfl⟩
          case round =>
            obtain ⟨j, hj, rfl, rfl, rfl⟩ := hrel
            by_cases hltj : j < (packsL h).length
            · obtain ⟨q, hq⟩ : ∃ q, (packsL h)[j]? = some q := ⟨_, List.getElem?_eq_getElem hltj⟩
              obtain ⟨b1, o1, A3, c3, rfl, _, hc3, hA3, hI3⟩ := HR1.out.at_ hq
              have hql := (mem_packsL (List.mem_of_getElem? hq)).1
              have hpq : pn < q.length := by omega
              obtain ⟨y, hy⟩ : ∃ y, q[pn]? = some y := ⟨_, List.getElem?_eq_getElem hpq⟩
              obtain ⟨b2, o2, rfl, _, hc4⟩ := IntsAt.at_ (hI3.below hb (Nat.le_refl _)).at_ hy
              have HAT := Lib.hid (any_take (f := whereP pn k) hq)
              have hc3' := below_cell hb hc3
              have hwp : whereP pn k q = decide (y = (k : Int)) := by simp [whereP, List.getD, hy]
              have HWP := Lib.hid hwp
              clear hq hql hy hwp hc3
              cases hany : ((packsL h).take j).any (whereP pn k)
              · by_cases hyk : y = (k : Int)
                · have hd1 : (y == (k : Int)) = true := by simpa using hyk
                  have hs : Hid (((packsL h).take (j + 1)).any (whereP pn k) = true) := Lib.hid (by rw [HAT.out, HWP.out, decide_eq_true hyk]; simp)
                  clear hyk hany
                  go_wp2
                  go_roundw
                  case rel => exact ⟨j + 1, by omega, by go_num, by rw [hs.out], trivial⟩
                  case measure => simp [intOf]; omega
                · have hd1 : (y == (k : Int)) = false := by simpa using hyk
                  have hs : Hid (((packsL h).take (j + 1)).any (whereP pn k) = false) := Lib.hid (by rw [HAT.out, HWP.out, decide_eq_false hyk, hany]; rfl)
                  clear hyk hany
                  go_wp2
                  go_roundw
                  case rel => exact ⟨j + 1, by omega, by go_num, by rw [hs.out], trivial⟩
                  case measure => simp [intOf]; omega
              · have hs : Hid (((packsL h).take (j + 1)).any (whereP pn k) = true) := Lib.hid (by rw [HAT.out, hany]; rfl)
                clear hany
                go_wp2
                go_roundw
                case rel => exact ⟨j + 1, by omega, by go_num, by rw [hs.out], trivial⟩
                case measure => simp [intOf]; omega
            · obtain rfl : j = (packsL h).length := by omega
              rw [List.take_length]
              cases ha : (packsL h).any (whereP pn k)
              · have HA2 := Lib.hid ha
                clear ha
                go_wp2
                go_roundw
                case rel => exact ⟨k + 1, by omega, by go_num, by rw [someTo_no HA2.out]; exact hown, hb⟩
                case measure => simp [intOf]; omega
              · have HA2 := Lib.hid ha
                clear ha
                go_wp2_with (refine wpl_app rfl (.tmp 49) (.tmp 51) rfl w3.heap.size w3.heap.size _ (someTo (whereP pn) (packsL h) k) k rfl (hown.alloc _) ⟨wr.heap.size, 0, none⟩ 1 rfl (by simp [go_sem]) (by omega) (by simp; omega) (Nat.le_refl _) ?_; intro v' w' hown' hb')
                go_roundw
                case rel => exact ⟨k + 1, by omega, by go_num, by rw [someTo_yes HA2.out]; exact hown', hb.trans (((Below.refl _ _).alloc hsz _).trans hb')⟩
                case measure => simp [intOf]; omega
        · obtain rfl : k = h.bs.length := by omega
          go_wp2
          go_ret2
          exact ⟨⟨_, by rw [HF.out]; rfl, by rw [HF.out]; exact hown.mono hbqs⟩, hb0to hbq hb⟩
def spareP (b : Nat) (x : List Int) : Bool := decide ((inOf x b).length = 0)
theorem rSpareS_no {h : House} {e0 : Int} (he : e0 = (pksS h true).2) (h0 : e0 ≠ 0) : rSpareS h = ([], e0) := by rw [rSpareS, ← he, if_pos h0]
theorem rSpareS_yes {h : House} (hp : pksS h true = (packsL h, 0)) : rSpareS h = (someTo spareP (packsL h) h.bs.length, 0) := by rw [rSpareS, hp]; rfl
set_option maxRecDepth 100000 in
set_option maxHeartbeats 4000000 in
theorem rSpare_any (L : HL) (h : House) (hn : h.ks.length ≤ 1000 ∧ h.ps.length ≤ 1000 ∧ h.bs.length ≤ 1000) (w : World) (hH : HouseAt w w.heap.size L h) :
    Calls Try.prog 57 #[L.enc h] w fun e w' => ListRet (rSpareS h) w.heap.size w' e ∧ Below w.heap.size w w' := by
  have hbw := (Below.refl _ _).alloc (Nat.le_refl w.heap.size) (.cells #[.slice L.Ak h.ks.length L.ck, .int .i64 h.fl, .slice L.Ap h.ps.length L.cp, .slice L.Ab h.bs.length L.cb] 26)
  have HB := Lib.hid (HBox.new w L h)
  have HBW := Lib.hid hbw
  have HH := Lib.hid hH
  have HC := Lib.hid (rpackings_any L h hn true _ (hH.below hbw))
  clear hbw hH
  rcases pksS_cases (h := h) true with ⟨h0, h1, _⟩ | ⟨ha, hne, hp⟩
  · obtain ⟨e0, he⟩ : ∃ e0, e0 = (pksS h true).2 := ⟨_, rfl⟩
    have H1 : Hid (pksS h true = ([], e0)) := Lib.hid (by rw [← h1, he])
    rw [← he] at h0
    have HP := Lib.hid (rSpareS_no he h0)
    have hd : (e0 != 0) = true := by simp [h0]
    clear h0 h1 he
    go_enter Try.func57, Try.ntmps57
    go_wp2_with (go_at_call 88; refine HC.out.mono ?_; rintro e w1 ⟨hq, hb1⟩; obtain ⟨A1, c1, rfl, hA1, hR1⟩ := hq.to H1.out)
    go_ret2
    exact ⟨⟨_, by rw [HP.out]; rfl, by rw [HP.out]; exact ints_nil _ _⟩, hb0to HBW.out hb1⟩
  · have HA := Lib.hid ha
    have HP := Lib.hid hp
    have hv := HOK.ofValid (askH_ok ha).1
    have hpos : 0 < (packsL h).length := List.length_pos_iff.2 hne
    have hbound : (packsL h).length ≤ 15625 := by have := pksS_len (h := h) true; rwa [hp] at this
    have HV := Lib.hid hv
    have hbl4 := hv.bl
    have hpl6 := hv.pl
    have HF := Lib.hid (rSpareS_yes hp)
    clear ha hp hv hne
    go_enter Try.func57, Try.ntmps57
    go_wp2_with (go_at_call 88; refine HC.out.mono ?_; rintro e w1 ⟨hq, hb1⟩; obtain ⟨A1, c1, rfl, hA1, hR1⟩ := hq.to HP.out; have HR1 := Lib.hid hR1; clear hR1 hq)
    have hbq := hb0to HBW.out hb1
    have hB1 := HB.out.of (hb1.block _ HB.out.lt)
    have hbqs := hbq.size
    go_loopw [6, 7] (fun v i wr => ∃ k : Nat, k ≤ h.bs.length ∧ i = .int .i64 k ∧ Ints wr w1.heap.size v (someTo spareP (packsL h) k) ∧ Below w1.heap.size w1 wr) (fun _ i _ => h.bs.length - (intOf i).toNat)
    case atStart => exact ⟨0, Nat.zero_le _, rfl, ints_nil _ _, Below.refl _ _⟩
    case round =>
      obtain ⟨k, hk, rfl, hown, hb⟩ := hrel
      have hB2 := hB1.of (hb.block _ hB1.lt)
      obtain ⟨g0, g1, g2, g3⟩ := hB2.cells
      have hsz := hb.size
      have hsl := someTo_len spareP (packsL h) k
      by_cases hlt : k < h.bs.length
      · go_wp2
        clear g0 g1 g2 g3
        obtain ⟨wo, rfl⟩ : ∃ wo : World, wo = wr := ⟨_, rfl⟩
        go_loopw [8, 9] (fun v i wr => ∃ j : Nat, j ≤ (packsL h).length ∧ i = .int .i64 j ∧ v = .bool (((packsL h).take j).any (spareP k)) ∧ Below wo.heap.size wo wr) (fun _ i _ => (packsL h).length - (intOf i).toNat)
        case atStart => exact ⟨0, Nat.zero_le _, rfl, rfl, Below.refl _ _⟩
        case round =>
          obtain ⟨j, hj, rfl, rfl, hbo⟩ := hrel
          have hb5 := hb0to hb hbo
          by_cases hltj : j < (packsL h).length
          · obtain ⟨q, hq⟩ : ∃ q, (packsL h)[j]? = some q := ⟨_, List.getElem?_eq_getElem hltj⟩
            obtain ⟨b1, o1, A3, c3, rfl, _, hc3, hA3, hI3⟩ := HR1.out.at_ hq
            have hql := (mem_packsL (List.mem_of_getElem? hq)).1
            have hq6 : q.length ≤ 1000 := by omega
            have HAT := Lib.hid (any_take (f := spareP k) hq)
            have hc3' := below_cell hb5 hc3
            have hI3w := Lib.hid (ints_later (hI3.at_.keep (Nat.le_refl _) (fun _ _ _ => rfl)) hb5 : IntsAt wr wr.heap.size A3 q)
            have hwp : spareP k q = decide ((inOf q k).length = 0) := rfl
            have HWP := Lib.hid hwp
            clear hq hql hwp hc3 hI3
            cases hany : ((packsL h).take j).any (spareP k)
            · by_cases hyk : (inOf q k).length = 0
              · have hd1 : (((inOf q k).length : Int) == 0) = true := beq_iff_eq.2 (by omega)
                have hs : Hid (((packsL h).take (j + 1)).any (spareP k) = true) := Lib.hid (by rw [HAT.out, HWP.out, decide_eq_true hyk]; simp)
                clear hyk hany
                go_wp2_with (go_at_call 63; refine (in_any q hq6 k A3 c3 _ hI3w.out).mono ?_; rintro e w5 ⟨⟨v, rfl, hown5⟩, hb6⟩; obtain ⟨A5, c5, rfl, -, -, hI5⟩ := hown5.lay)
                go_roundw
                case rel => exact ⟨j + 1, by omega, by go_num, by rw [hs.out], hb0to hbo hb6⟩
                case measure => simp [intOf]; omega
              · have hd1 : (((inOf q k).length : Int) == 0) = false := beq_eq_false_iff_ne.2 (by omega)
                have hs : Hid (((packsL h).take (j + 1)).any (spareP k) = false) := Lib.hid (by rw [HAT.out, HWP.out, decide_eq_false hyk, hany]; rfl)
                clear hyk hany
                go_wp2_with (go_at_call 63; refine (in_any q hq6 k A3 c3 _ hI3w.out).mono ?_; rintro e w5 ⟨⟨v, rfl, hown5⟩, hb6⟩; obtain ⟨A5, c5, rfl, -, -, hI5⟩ := hown5.lay)
                go_roundw
                case rel => exact ⟨j + 1, by omega, by go_num, by rw [hs.out], hb0to hbo hb6⟩
                case measure => simp [intOf]; omega
            · have hs : Hid (((packsL h).take (j + 1)).any (spareP k) = true) := Lib.hid (by rw [HAT.out, hany]; rfl)
              clear hany
              go_wp2
              go_roundw
              case rel => exact ⟨j + 1, by omega, by go_num, by rw [hs.out], hbo⟩
              case measure => simp [intOf]; omega
          · obtain rfl : j = (packsL h).length := by omega
            have hown2 := hown.below_ hbo (Nat.le_refl _)
            have hsz5 := hb5.size
            rw [List.take_length]
            cases ha : (packsL h).any (spareP k)
            · have HA2 := Lib.hid ha
              clear ha
              go_wp2
              go_roundw
              case rel => exact ⟨k + 1, by omega, by go_num, by rw [someTo_no HA2.out]; exact hown2, hb5⟩
              case measure => simp [intOf]; omega
            · have HA2 := Lib.hid ha
              clear ha
              go_wp2_with (refine wpl_app rfl (.tmp 43) (.tmp 45) rfl w1.heap.size w1.heap.size _ (someTo spareP (packsL h) k) k rfl (hown2.alloc _) ⟨wr.heap.size, 0, none⟩ 1 rfl (by simp [go_sem]) (by omega) (by simp; omega) (Nat.le_refl _) ?_; intro v' w' hown' hb')
              go_roundw
              case rel => exact ⟨k + 1, by omega, by go_num, by rw [someTo_yes HA2.out]; exact hown', hb5.trans (((Below.refl _ _).alloc hsz5 _).trans hb')⟩
              case measure => simp [intOf]; omega
      · obtain rfl : k = h.bs.length := by omega
        go_wp2
        go_ret2
        exact ⟨⟨_, by rw [HF.out]; rfl, by rw [HF.out]; exact hown.mono hbqs⟩, hb0to hbq hb⟩
end Go.Proofs.Ytgemmmdcpbajoaa
namespace Go.Proofs.Ytgemmmdcpbajoaa
open Go.RowKit

/-- The parts among the first k that are not left out. -/
def laidTo (pack : List Int) : Nat → List Int
  | 0 => []
  | k + 1 => if barrelOf pack k ≠ -1 then laidTo pack k ++ [(k : Int)] else laidTo pack k
def laidOf (pack : List Int) : List Int := laidTo pack pack.length
theorem laidTo_len (pack : List Int) : ∀ k, (laidTo pack k).length ≤ k
  | 0 => Nat.le_refl _
  | k + 1 => by
    have := laidTo_len pack k
    unfold laidTo
    split
    · simp; omega
    · omega
theorem laidTo_parts {h : House} {pack : List Int} : ∀ {k : Nat}, k ≤ h.ps.length → PartsOK h (laidTo pack k)
  | 0, _ => fun i hi => by simp [laidTo] at hi
  | k + 1, hk => fun i hi => by
    unfold laidTo at hi
    split at hi
    · rcases List.mem_append.1 hi with hi | hi
      · exact laidTo_parts (by omega) i hi
      · have : i = (k : Int) := by simpa using hi
        omega
    · exact laidTo_parts (by omega) i hi
theorem laidTo_yes {pack : List Int} {k : Nat} (h : barrelOf pack k ≠ -1) : laidTo pack (k + 1) = laidTo pack k ++ [(k : Int)] := if_pos h
theorem laidTo_no {pack : List Int} {k : Nat} (h : ¬ barrelOf pack k ≠ -1) : laidTo pack (k + 1) = laidTo pack k := if_neg h
set_option maxRecDepth 100000 in
set_option maxHeartbeats 4000000 in
theorem laid_any (pack : List Int) (hl : pack.length ≤ 1000) (A : Option Addr) (c : Nat) (w : World) (hI : IntsAt w w.heap.size A pack) :
    Calls Try.prog 72 #[.slice A pack.length c] w fun e w' => RowRet (laidOf pack) w.heap.size w' e ∧ Below w.heap.size w w' := by
  have HI := Lib.hid hI
  clear hI
  go_enter Try.func72, Try.ntmps72
  go_wp2
  go_loopw [3, 4] (fun v i wr => ∃ k : Nat, k ≤ pack.length ∧ i = .int .i64 k ∧ Ints wr w.heap.size v (laidTo pack k) ∧ Below w.heap.size w wr) (fun _ i _ => pack.length - (intOf i).toNat)
  case atStart => exact ⟨0, Nat.zero_le _, rfl, ints_nil _ _, Below.refl _ _⟩
  case round =>
    obtain ⟨k, hk, rfl, hown, hb⟩ := hrel
    have hsz := hb.size
    by_cases hlt : k < pack.length
    · obtain ⟨x, hx⟩ : ∃ x, pack[k]? = some x := ⟨_, List.getElem?_eq_getElem hlt⟩
      obtain ⟨b1, o1, rfl, b1lt, d1⟩ := HI.out.at_ hx
      have e1 := below_cell hb d1
      have hbo : barrelOf pack k = x := by simp [barrelOf, List.getD, hx]
      have hil := laidTo_len pack k
      by_cases hxb : x = -1
      · have hd : (x != -1) = false := by simp [hxb]
        have HY := Lib.hid (laidTo_no (pack := pack) (k := k) (by rw [hbo]; simp [hxb]))
        clear hxb hbo hx d1
        go_wp2
        go_roundw
        case rel => exact ⟨k + 1, by omega, by go_num, by rw [HY.out]; exact hown, hb⟩
        case measure => simp [intOf]; omega
      · have hd : (x != -1) = true := by simp [hxb]
        have HY := Lib.hid (laidTo_yes (pack := pack) (k := k) (by rw [hbo]; exact hxb))
        clear hxb hbo hx d1
        go_wp2_with (refine wpl_app rfl (.tmp 16) (.tmp 18) rfl w.heap.size w.heap.size _ (laidTo pack k) k rfl (hown.alloc _) ⟨wr.heap.size, 0, none⟩ 1 rfl (by simp [go_sem]) (by omega) (by simp; omega) (Nat.le_refl _) ?_; intro v' w' hown' hb')
        go_roundw
        case rel => exact ⟨k + 1, by omega, by go_num, by rw [HY.out]; exact hown', hb.trans (((Below.refl _ _).alloc hsz _).trans hb')⟩
        case measure => simp [intOf]; omega
    · obtain rfl : k = pack.length := by omega
      go_wp2
      go_ret
      exact ⟨⟨_, rfl, hown⟩, hb⟩
def laidF (h : House) (p : List Int) : Int := (caskIn h (laidOf p)).p
def rStockF (h : House) (much : Int) (m : Int) (p : List Int) : Int := if packF h p ≤ much then (if m < laidF h p then laidF h p else m) else m
def rStockL (h : House) (much : Int) (l : List (List Int)) : Int := l.foldl (rStockF h much) 0
theorem rStockL_take {h : House} {much : Int} {l : List (List Int)} {k : Nat} {p : List Int} (hp : l[k]? = some p) : rStockL h much (l.take (k + 1)) = rStockF h much (rStockL h much (l.take k)) p := by
  rw [← take_snoc_next hp]; unfold rStockL; rw [List.foldl_append]; rfl
theorem laidF_bd {h : House} (hv : HOK h) {p : List Int} (hl : p.length ≤ h.ps.length) : 0 ≤ laidF h p ∧ laidF h p ≤ 10000 := by
  have hu := caskIn_upto hv (laidOf p) (laidTo_parts hl)
  have := laidTo_len p p.length
  have := hv.pl
  have h0 := hu.p0
  have h1 := hu.p1
  unfold laidF laidOf at *
  omega
theorem rStockL_bd {h : House} (hv : HOK h) (much : Int) : ∀ l : List (List Int), (∀ p ∈ l, p.length ≤ h.ps.length) → 0 ≤ rStockL h much l ∧ rStockL h much l ≤ 10000 := fun l => by
  refine snoc_ind (P := fun l => (∀ p ∈ l, p.length ≤ h.ps.length) → 0 ≤ rStockL h much l ∧ rStockL h much l ≤ 10000) (fun _ => by simp [rStockL]) (fun l x ih hh => ?_) l
  have h1 := ih fun p hp => hh p (by simp [hp])
  have h2 := laidF_bd hv (hh x (by simp))
  have : rStockL h much (l ++ [x]) = rStockF h much (rStockL h much l) x := by unfold rStockL; rw [List.foldl_append]; rfl
  rw [this]
  unfold rStockF
  split
  · split <;> omega
  · exact h1
def rStockS (h : House) (much : Int) : Int × Int := if askH h (inR much 0 999) ≠ 0 then (0, askH h (inR much 0 999)) else (rStockL h much (fitting h (-1)), 0)
theorem mem_fitting {h : House} {lo : Int} {p : List Int} (hp : p ∈ fitting h lo) : p.length = h.ps.length ∧ InRange lo h.bs.length p ∧ fitsR h p = true := by
  obtain ⟨h1, h2⟩ := List.mem_filter.1 hp
  exact ⟨(mem_allS.1 h1).1, (mem_allS.1 h1).2, h2⟩
theorem ask_stock {h : House} {is : Bool} {e : Int} (he : e = askH h is) (h0 : e = 0) : validH h = true ∧ is = true := askH_ok (by rw [← he]; exact h0)
set_option maxRecDepth 100000 in
set_option maxHeartbeats 4000000 in
theorem rStock_any (L : HL) (h : House) (hn : h.ks.length ≤ 1000 ∧ h.ps.length ≤ 1000 ∧ h.bs.length ≤ 1000) (much : Int) (w : World) (hH : HouseAt w w.heap.size L h) :
    Calls Try.prog 19 #[L.enc h, .int .i64 much] w fun e w' => e = .returned (.tuple #[.int .i64 (rStockS h much).1, .int .i64 (rStockS h much).2]) ∧ Below w.heap.size w w' := by
  have hbw := (Below.refl _ _).alloc (Nat.le_refl w.heap.size) (.cells #[.slice L.Ak h.ks.length L.ck, .int .i64 h.fl, .slice L.Ap h.ps.length L.cp, .slice L.Ab h.bs.length L.cb] 26)
  have HB := HBox.new w L h
  obtain ⟨g0, g1, g2, g3⟩ := HB.cells
  have HBW := Lib.hid hbw
  have HH := Lib.hid hH
  have HB' := Lib.hid HB
  have HHB := Lib.hid (hH.below hbw)
  obtain ⟨W1, hW1⟩ : ∃ W1, W1 = w.alloc (.cells #[.slice L.Ak h.ks.length L.ck, .int .i64 h.fl, .slice L.Ap h.ps.length L.cp, .slice L.Ab h.bs.length L.cb] 26) := ⟨_, rfl⟩
  rw [← hW1] at g0 g1 g2 g3 HBW HB' HHB
  have HW := Lib.hid hW1
  have e0 := extB_cell g0
  have e1 := extB_cell g1
  have e2 := extB_cell g2
  have e3 := extB_cell g3
  obtain ⟨ea, hea⟩ : ∃ ea, ea = askH h (inR much 0 999) := ⟨_, rfl⟩
  have HC := Lib.hid (fun x => by have := ask_any L h hn (inR much 0 999) (extB W1 x) (extB_house HHB.out (Nat.le_refl _)); rwa [← hea] at this)
  clear hbw hH HB hW1 g0 g1 g2 g3
  by_cases h0 : ea = 0
  · have hd : (ea != 0) = false := by simp [h0]
    have hva := ask_stock hea h0
    have hv := HOK.ofValid hva.1
    have HV := Lib.hid hv
    have hpl6 := hv.pl
    have hbl4 := hv.bl
    have HF : Hid (rStockS h much = (rStockL h much (fitting h (-1)), 0)) := Lib.hid (by rw [rStockS, ← hea, h0]; rfl)
    have hbound : (fitting h (-1)).length ≤ 15625 := by
      have := listsR_bound hv (lo := -1) (by omega) h.ps.length [] (by simp)
      rwa [listsR_nil hv] at this
    have HLN := Lib.hid (listsR_nil hv (-1))
    have HL := Lib.hid (fun W (hW : Below w.heap.size w W) => lists_any L h hv (-1) (by omega) h.ps.length [] 0 rfl (by omega) none 0 w.heap.size W (fun _ => ⟨rfl, rfl⟩) (HH.out.below hW) intsIn_nil hW.size)
    rw [HLN.out] at HL
    clear hea h0 hva hv
    go_enter Try.func19, Try.ntmps19
    go_wp2
    rw [← HW.out]
    refine wp_region_extW (by kernel_rfl) (by kernel_rfl) ?_
    repeat (go_big_quiet_step (first
      | (go_at_call 46; exact ext_same (rIsStock_any _ _))
      | (go_at_call 69; exact ext_call (HC.out _))))
    refine wpQuiet_nil ?_
    rintro _ ⟨x1, rfl⟩
    have hb1 := hb0to HBW.out (extB_below W1 x1)
    have hB1 := HB'.out.of ((extB_below W1 x1).block _ HB'.out.lt)
    obtain ⟨W2, hW2⟩ : ∃ W2, extB W1 x1 = W2 := ⟨_, rfl⟩
    rw [hW2] at hb1 hB1 ⊢
    clear e0 e1 e2 e3 hW2
    obtain ⟨g0, g1, g2, g3⟩ := hB1.cells
    go_wp2_with (go_at_call 70; refine (HL.out _ hb1).mono ?_; rintro e w3 ⟨⟨A1, c1, rfl, hA1, hR1⟩, hb3⟩; have HR1 := Lib.hid hR1; clear hR1)
    have hbq := hb0to hb1 hb3
    have hB3 := hB1.of (hb3.block _ hB1.lt)
    clear g0 g1 g2 g3
    go_loopw [8, 9] (fun v i wr => ∃ k : Nat, k ≤ (fitting h (-1)).length ∧ i = .int .i64 k ∧ v = .int .i64 (rStockL h much ((fitting h (-1)).take k)) ∧ Below w3.heap.size w3 wr) (fun _ i _ => (fitting h (-1)).length - (intOf i).toNat)
    case atStart => exact ⟨0, Nat.zero_le _, rfl, rfl, Below.refl _ _⟩
    case round =>
      obtain ⟨k, hk, rfl, rfl, hb⟩ := hrel
      have hB2 := hB3.of (hb.block _ hB3.lt)
      have HB2 := Lib.hid hB2
      obtain ⟨g0, g1, g2, g3⟩ := hB2.cells
      have hb4 := hb0to hbq hb
      obtain ⟨f0, f1⟩ := rStockL_bd HV.out much ((fitting h (-1)).take k) (fun p hp => Nat.le_of_eq (mem_fitting (mem_take hp)).1)
      by_cases hlt : k < (fitting h (-1)).length
      · obtain ⟨q, hq⟩ : ∃ q, (fitting h (-1))[k]? = some q := ⟨_, List.getElem?_eq_getElem hlt⟩
        obtain ⟨b1, o1, A3, c3, rfl, _, hc3, hA3, hI3⟩ := HR1.out.at_ hq
        have hql := (mem_fitting (List.mem_of_getElem? hq)).1
        have HQL := Lib.hid (Nat.le_of_eq hql)
        have hq6 : q.length ≤ 6 := by omega
        have HST := Lib.hid (rStockL_take (h := h) (much := much) hq)
        have hI3w : IntsAt wr wr.heap.size A3 q := (hI3.below hb (Nat.le_refl _)).at_.keep hb.size (fun _ _ _ => rfl)
        have HI3 := Lib.hid hI3w
        have e0 := extB_cell g0
        have e1 := extB_cell g1
        have e2 := extB_cell g2
        have e3 := extB_cell g3
        have hc3' := below_cell hb hc3
        have e5 := extB_cell hc3'
        have hki : (k : Int) < (fitting h (-1)).length := by omega
        have hk0 : (0 : Int) ≤ (k : Int) := by omega
        have HQ := Lib.hid (fun x => by have := allSalt_any L h HV.out q HQL.out A3 c3 (extB wr x) (extB_house (HH.out.below hb4) (Nat.le_refl _)) (ints_later hI3w (extB_below wr x)); exact (show Calls Try.prog 58 #[L.enc h, .slice A3 q.length c3] (extB wr x) fun e w' => e = .returned (.int .i64 (packF h q)) ∧ Below (extB wr x).heap.size (extB wr x) w' from this))
        have hlb := laidF_bd HV.out HQL.out
        clear hq hql hc3 hI3w hB2
        by_cases hm : packF h q ≤ much
        · have hdm : decide (packF h q ≤ much) = true := by simpa using hm
          have hs : Hid (rStockL h much ((fitting h (-1)).take (k + 1)) = if rStockL h much ((fitting h (-1)).take k) < laidF h q then laidF h q else rStockL h much ((fitting h (-1)).take k)) := Lib.hid (by rw [HST.out, rStockF, if_pos hm])
          clear hm
          go_wp2
          refine wp_region_extW (by kernel_rfl) (by kernel_rfl) ?_
          repeat (go_big_quiet_step ((go_at_call 58; exact ext_call (HQ.out _))))
          refine wpQuiet_nil ?_
          rintro _ ⟨x1, rfl⟩
          have hb5 := extB_below wr x1
          have g0' := e0 x1
          have g1' := e1 x1
          have g2' := e2 x1
          have g3' := e3 x1
          have g5' := e5 x1
          have HI5 := Lib.hid (ints_later HI3.out hb5)
          obtain ⟨W5, hW5⟩ : ∃ W5, extB wr x1 = W5 := ⟨_, rfl⟩
          rw [hW5] at hb5 g0' g1' g2' g3' g5' HI5 ⊢
          have HB5 := Lib.hid hb5
          clear e0 e1 e2 e3 e5 g0 g1 g2 g3 hc3' hW5
          go_wp2
          go_region_held3 (fun w' => w'.cell? ⟨w.heap.size, 0, none⟩ = some (.slice L.Ak h.ks.length L.ck) ∧ w'.cell? ⟨w.heap.size, 1, none⟩ = some (.int .i64 h.fl) ∧ w'.cell? ⟨w.heap.size, 2, none⟩ = some (.slice L.Ap h.ps.length L.cp) ∧ w'.cell? ⟨w.heap.size, 3, none⟩ = some (.slice L.Ab h.bs.length L.cb) ∧ w'.cell? ⟨b1, o1 + k, none⟩ = some (.slice A3 q.length c3)) (first | go_keep)
            (first
              | (go_at_call 72; refine (laid_any q (by omega) A3 c3 _ (ints_later HI5.out (drew_below _))).mono ?_; rintro e w6 ⟨⟨v, rfl, hown⟩, hb6⟩; obtain ⟨A6, c6, rfl, -, -, hI6⟩ := hown.lay; have HI6 := Lib.hid hI6.at_; clear hown hI6; have hb7 := hb0to (drew_below W5) hb6; have x0 := below_cell hb7 g0'; have x1 := below_cell hb7 g1'; have x2 := below_cell hb7 g2'; have x3 := below_cell hb7 g3'; have x5 := below_cell hb7 g5')
              | (go_at_call 71; refine (pounds_any L h HV.out (laidOf q) (by have := laidTo_len q q.length; unfold laidOf; omega) (laidTo_parts HQL.out) A6 c6 _ (HH.out.below (hb0to hb4 (hb0to HB5.out hb7))) HI6.out).mono ?_; rintro e w8 ⟨rfl, hb8⟩; have y0 := below_cell hb8 x0; have y1 := below_cell hb8 x1; have y2 := below_cell hb8 x2; have y3 := below_cell hb8 x3; have y5 := below_cell hb8 x5))
          all_goals
            go_wp2
            go_roundw
            case rel => exact ⟨k + 1, by omega, by go_num, by rw [hs.out]; rfl, hb0to hb (hb0to HB5.out (hb0to hb7 hb8))⟩
            case measure => simp [intOf]; omega
        · have hdm : decide (packF h q ≤ much) = false := by simpa using hm
          have hs : Hid (rStockL h much ((fitting h (-1)).take (k + 1)) = rStockL h much ((fitting h (-1)).take k)) := Lib.hid (by rw [HST.out, rStockF, if_neg hm])
          clear hm
          go_wp2
          refine wp_region_extW (by kernel_rfl) (by kernel_rfl) ?_
          repeat (go_big_quiet_step ((go_at_call 58; exact ext_call (HQ.out _))))
          refine wpQuiet_nil ?_
          rintro _ ⟨x1, rfl⟩
          have hb5 := extB_below wr x1
          clear e0 e1 e2 e3 e5
          go_wp2
          go_roundw
          case rel => exact ⟨k + 1, by omega, by go_num, by rw [hs.out], hb0to hb hb5⟩
          case measure => simp [intOf]; omega
      · obtain rfl : k = (fitting h (-1)).length := by omega
        rw [List.take_length]
        go_wp2
        go_ret2
        exact ⟨by rw [HF.out]; rfl, hb4⟩
  · have hd : (ea != 0) = true := by simp [h0]
    have HF : Hid (rStockS h much = (0, ea)) := Lib.hid (by rw [rStockS, ← hea, if_pos h0])
    clear hea h0
    go_enter Try.func19, Try.ntmps19
    go_wp2
    rw [← HW.out]
    refine wp_region_extW (by kernel_rfl) (by kernel_rfl) ?_
    repeat (go_big_quiet_step (first
      | (go_at_call 46; exact ext_same (rIsStock_any _ _))
      | (go_at_call 69; exact ext_call (HC.out _))))
    refine wpQuiet_nil ?_
    rintro _ ⟨x1, rfl⟩
    have hb1 := hb0to HBW.out (extB_below W1 x1)
    clear e0 e1 e2 e3
    go_wp2
    go_ret2
    exact ⟨by rw [HF.out]; rfl, hb1⟩
end Go.Proofs.Ytgemmmdcpbajoaa
