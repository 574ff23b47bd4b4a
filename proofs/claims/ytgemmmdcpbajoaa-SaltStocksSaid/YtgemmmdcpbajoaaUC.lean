import Derived.Test.YtgemmmdcpbajoaaUB
namespace Go.Proofs.Ytgemmmdcpbajoaa
open Go.RowKit

/-- The parts among the first k that are not left out. -/
def laidTo (pack : List Int) : Nat → List Int
  | 0 => []
  | k + 1 => if barrelOf pack k ≠ -1 then laidTo pack k ++ [(k : Int)] else laidTo pack k
def laidOf (pack : List Int) : List Int := laidTo pack pack.length
theorem laidTo_len (pack : List Int) : ∀ k, (laidTo pack k).length ≤ k
  | 0 => Nat.le_refl _
  | k + 1 => by
    have := laidTo_len pack k
    unfold laidTo
    split
    · simp; omega
    · omega
theorem laidTo_parts {h : House} {pack : List Int} : ∀ {k : Nat}, k ≤ h.ps.length → PartsOK h (laidTo pack k)
  | 0, _ => fun i hi => by simp [laidTo] at hi
  | k + 1, hk => fun i hi => by
    unfold laidTo at hi
    split at hi
    · rcases List.mem_append.1 hi with hi | hi
      · exact laidTo_parts (by omega) i hi
      · have : i = (k : Int) := by simpa using hi
        omega
    · exact laidTo_parts (by omega) i hi
theorem laidTo_yes {pack : List Int} {k : Nat} (h : barrelOf pack k ≠ -1) : laidTo pack (k + 1) = laidTo pack k ++ [(k : Int)] := if_pos h
theorem laidTo_no {pack : List Int} {k : Nat} (h : ¬ barrelOf pack k ≠ -1) : laidTo pack (k + 1) = laidTo pack k := if_neg h
set_option maxRecDepth 100000 in
set_option maxHeartbeats 4000000 in
theorem laid_any (pack : List Int) (hl : pack.length ≤ 1000) (A : Option Addr) (c : Nat) (w : World) (hI : IntsAt w w.heap.size A pack) :
    Calls Try.prog 72 #[.slice A pack.length c] w fun e w' => RowRet (laidOf pack) w.heap.size w' e ∧ Below w.heap.size w w' := by
  have HI := Lib.hid hI
  clear hI
  go_enter Try.func72, Try.ntmps72
  go_wp2
  go_loopw [3, 4] (fun v i wr => ∃ k : Nat, k ≤ pack.length ∧ i = .int .i64 k ∧ Ints wr w.heap.size v (laidTo pack k) ∧ Below w.heap.size w wr) (fun _ i _ => pack.length - (intOf i).toNat)
  case atStart => exact ⟨0, Nat.zero_le _, rfl, ints_nil _ _, Below.refl _ _⟩
  case round =>
    obtain ⟨k, hk, rfl, hown, hb⟩ := hrel
    have hsz := hb.size
    by_cases hlt : k < pack.length
    · obtain ⟨x, hx⟩ : ∃ x, pack[k]? = some x := ⟨_, List.getElem?_eq_getElem hlt⟩
      obtain ⟨b1, o1, rfl, b1lt, d1⟩ := HI.out.at_ hx
      have e1 := below_cell hb d1
      have hbo : barrelOf pack k = x := by simp [barrelOf, List.getD, hx]
      have hil := laidTo_len pack k
      by_cases hxb : x = -1
      · have hd : (x != -1) = false := by simp [hxb]
        have HY := Lib.hid (laidTo_no (pack := pack) (k := k) (by rw [hbo]; simp [hxb]))
        clear hxb hbo hx d1
        go_wp2
        go_roundw
        case rel => exact ⟨k + 1, by omega, by go_num, by rw [HY.out]; exact hown, hb⟩
        case measure => simp [intOf]; omega
      · have hd : (x != -1) = true := by simp [hxb]
        have HY := Lib.hid (laidTo_yes (pack := pack) (k := k) (by rw [hbo]; exact hxb))
        clear hxb hbo hx d1
        go_wp2_with (refine wpl_app rfl (.tmp 16) (.tmp 18) rfl w.heap.size w.heap.size _ (laidTo pack k) k rfl (hown.alloc _) ⟨wr.heap.size, 0, none⟩ 1 rfl (by simp [go_sem]) (by omega) (by simp; omega) (Nat.le_refl _) ?_; intro v' w' hown' hb')
        go_roundw
        case rel => exact ⟨k + 1, by omega, by go_num, by rw [HY.out]; exact hown', hb.trans (((Below.refl _ _).alloc hsz _).trans hb')⟩
        case measure => simp [intOf]; omega
    · obtain rfl : k = pack.length := by omega
      go_wp2
      go_ret
      exact ⟨⟨_, rfl, hown⟩, hb⟩
def laidF (h : House) (p : List Int) : Int := (caskIn h (laidOf p)).p
def rStockF (h : House) (much : Int) (m : Int) (p : List Int) : Int := if packF h p ≤ much then (if m < laidF h p then laidF h p else m) else m
def rStockL (h : House) (much : Int) (l : List (List Int)) : Int := l.foldl (rStockF h much) 0
theorem rStockL_take {h : House} {much : Int} {l : List (List Int)} {k : Nat} {p : List Int} (hp : l[k]? = some p) : rStockL h much (l.take (k + 1)) = rStockF h much (rStockL h much (l.take k)) p := by
  rw [← take_snoc_next hp]; unfold rStockL; rw [List.foldl_append]; rfl
theorem laidF_bd {h : House} (hv : HOK h) {p : List Int} (hl : p.length ≤ h.ps.length) : 0 ≤ laidF h p ∧ laidF h p ≤ 10000 := by
  have hu := caskIn_upto hv (laidOf p) (laidTo_parts hl)
  have := laidTo_len p p.length
  have := hv.pl
  have h0 := hu.p0
  have h1 := hu.p1
  unfold laidF laidOf at *
  omega
theorem rStockL_bd {h : House} (hv : HOK h) (much : Int) : ∀ l : List (List Int), (∀ p ∈ l, p.length ≤ h.ps.length) → 0 ≤ rStockL h much l ∧ rStockL h much l ≤ 10000 := fun l => by
  refine snoc_ind (P := fun l => (∀ p ∈ l, p.length ≤ h.ps.length) → 0 ≤ rStockL h much l ∧ rStockL h much l ≤ 10000) (fun _ => by simp [rStockL]) (fun l x ih hh => ?_) l
  have h1 := ih fun p hp => hh p (by simp [hp])
  have h2 := laidF_bd hv (hh x (by simp))
  have : rStockL h much (l ++ [x]) = rStockF h much (rStockL h much l) x := by unfold rStockL; rw [List.foldl_append]; rfl
  rw [this]
  unfold rStockF
  split
  · split <;> omega
  · exact h1
def rStockS (h : House) (much : Int) : Int × Int := if askH h (inR much 0 999) ≠ 0 then (0, askH h (inR much 0 999)) else (rStockL h much (fitting h (-1)), 0)
theorem mem_fitting {h : House} {lo : Int} {p : List Int} (hp : p ∈ fitting h lo) : p.length = h.ps.length ∧ InRange lo h.bs.length p ∧ fitsR h p = true := by
  obtain ⟨h1, h2⟩ := List.mem_filter.1 hp
  exact ⟨(mem_allS.1 h1).1, (mem_allS.1 h1).2, h2⟩
theorem ask_stock {h : House} {is : Bool} {e : Int} (he : e = askH h is) (h0 : e = 0) : validH h = true ∧ is = true := askH_ok (by rw [← he]; exact h0)
set_option maxRecDepth 100000 in
set_option maxHeartbeats 4000000 in
theorem rStock_any (L : HL) (h : House) (hn : h.ks.length ≤ 1000 ∧ h.ps.length ≤ 1000 ∧ h.bs.length ≤ 1000) (much : Int) (w : World) (hH : HouseAt w w.heap.size L h) :
    Calls Try.prog 19 #[L.enc h, .int .i64 much] w fun e w' => e = .returned (.tuple #[.int .i64 (rStockS h much).1, .int .i64 (rStockS h much).2]) ∧ Below w.heap.size w w' := by
  have hbw := (Below.refl _ _).alloc (Nat.le_refl w.heap.size) (.cells #[.slice L.Ak h.ks.length L.ck, .int .i64 h.fl, .slice L.Ap h.ps.length L.cp, .slice L.Ab h.bs.length L.cb] 26)
  have HB := HBox.new w L h
  obtain ⟨g0, g1, g2, g3⟩ := HB.cells
  have HBW := Lib.hid hbw
  have HH := Lib.hid hH
  have HB' := Lib.hid HB
  have HHB := Lib.hid (hH.below hbw)
  obtain ⟨W1, hW1⟩ : ∃ W1, W1 = w.alloc (.cells #[.slice L.Ak h.ks.length L.ck, .int .i64 h.fl, .slice L.Ap h.ps.length L.cp, .slice L.Ab h.bs.length L.cb] 26) := ⟨_, rfl⟩
  rw [← hW1] at g0 g1 g2 g3 HBW HB' HHB
  have HW := Lib.hid hW1
  have e0 := extB_cell g0
  have e1 := extB_cell g1
  have e2 := extB_cell g2
  have e3 := extB_cell g3
  obtain ⟨ea, hea⟩ : ∃ ea, ea = askH h (inR much 0 999) := ⟨_, rfl⟩
  have HC := Lib.hid (fun x => by have := ask_any L h hn (inR much 0 999) (extB W1 x) (extB_house HHB.out (Nat.le_refl _)); rwa [← hea] at this)
  clear hbw hH HB hW1 g0 g1 g2 g3
  by_cases h0 : ea = 0
  · have hd : (ea != 0) = false := by simp [h0]
    have hva := ask_stock hea h0
    have hv := HOK.ofValid hva.1
    have HV := Lib.hid hv
    have hpl6 := hv.pl
    have hbl4 := hv.bl
    have HF : Hid (rStockS h much = (rStockL h much (fitting h (-1)), 0)) := Lib.hid (by rw [rStockS, ← hea, h0]; rfl)
    have hbound : (fitting h (-1)).length ≤ 15625 := by
      have := listsR_bound hv (lo := -1) (by omega) h.ps.length [] (by simp)
      rwa [listsR_nil hv] at this
    have HLN := Lib.hid (listsR_nil hv (-1))
    have HL := Lib.hid (fun W (hW : Below w.heap.size w W) => lists_any L h hv (-1) (by omega) h.ps.length [] 0 rfl (by omega) none 0 w.heap.size W (fun _ => ⟨rfl, rfl⟩) (HH.out.below hW) intsIn_nil hW.size)
    rw [HLN.out] at HL
    clear hea h0 hva hv
    go_enter Try.func19, Try.ntmps19
    go_wp2
    rw [← HW.out]
    refine wp_region_extW (by kernel_rfl) (by kernel_rfl) ?_
    repeat (go_big_quiet_step (first
      | (go_at_call 46; exact ext_same (rIsStock_any _ _))
      | (go_at_call 69; exact ext_call (HC.out _))))
    refine wpQuiet_nil ?_
    rintro _ ⟨x1, rfl⟩
    have hb1 := hb0to HBW.out (extB_below W1 x1)
    have hB1 := HB'.out.of ((extB_below W1 x1).block _ HB'.out.lt)
    obtain ⟨W2, hW2⟩ : ∃ W2, extB W1 x1 = W2 := ⟨_, rfl⟩
    rw [hW2] at hb1 hB1 ⊢
    clear e0 e1 e2 e3 hW2
    obtain ⟨g0, g1, g2, g3⟩ := hB1.cells
    go_wp2_with (go_at_call 70; refine (HL.out _ hb1).mono ?_; rintro e w3 ⟨⟨A1, c1, rfl, hA1, hR1⟩, hb3⟩; have HR1 := Lib.hid hR1; clear hR1)
    have hbq := hb0to hb1 hb3
    have hB3 := hB1.of (hb3.block _ hB1.lt)
    clear g0 g1 g2 g3
    go_loopw [8, 9] (fun v i wr => ∃ k : Nat, k ≤ (fitting h (-1)).length ∧ i = .int .i64 k ∧ v = .int .i64 (rStockL h much ((fitting h (-1)).take k)) ∧ Below w3.heap.size w3 wr) (fun _ i _ => (fitting h (-1)).length - (intOf i).toNat)
    case atStart => exact ⟨0, Nat.zero_le _, rfl, rfl, Below.refl _ _⟩
    case round =>
      obtain ⟨k, hk, rfl, rfl, hb⟩ := hrel
      have hB2 := hB3.of (hb.block _ hB3.lt)
      have HB2 := Lib.hid hB2
      obtain ⟨g0, g1, g2, g3⟩ := hB2.cells
      have hb4 := hb0to hbq hb
      obtain ⟨f0, f1⟩ := rStockL_bd HV.out much ((fitting h (-1)).take k) (fun p hp => Nat.le_of_eq (mem_fitting (mem_take hp)).1)
      by_cases hlt : k < (fitting h (-1)).length
      · obtain ⟨q, hq⟩ : ∃ q, (fitting h (-1))[k]? = some q := ⟨_, List.getElem?_eq_getElem hlt⟩
        obtain ⟨b1, o1, A3, c3, rfl, _, hc3, hA3, hI3⟩ := HR1.out.at_ hq
        have hql := (mem_fitting (List.mem_of_getElem? hq)).1
        have HQL := Lib.hid (Nat.le_of_eq hql)
        have hq6 : q.length ≤ 6 := by omega
        have HST := Lib.hid (rStockL_take (h := h) (much := much) hq)
        have hI3w : IntsAt wr wr.heap.size A3 q := (hI3.below hb (Nat.le_refl _)).at_.keep hb.size (fun _ _ _ => rfl)
        have HI3 := Lib.hid hI3w
        have e0 := extB_cell g0
        have e1 := extB_cell g1
        have e2 := extB_cell g2
        have e3 := extB_cell g3
        have hc3' := below_cell hb hc3
        have e5 := extB_cell hc3'
        have hki : (k : Int) < (fitting h (-1)).length := by omega
        have hk0 : (0 : Int) ≤ (k : Int) := by omega
        have HQ := Lib.hid (fun x => by have := allSalt_any L h HV.out q HQL.out A3 c3 (extB wr x) (extB_house (HH.out.below hb4) (Nat.le_refl _)) (ints_later hI3w (extB_below wr x)); exact (show Calls Try.prog 58 #[L.enc h, .slice A3 q.length c3] (extB wr x) fun e w' => e = .returned (.int .i64 (packF h q)) ∧ Below (extB wr x).heap.size (extB wr x) w' from this))
        have hlb := laidF_bd HV.out HQL.out
        clear hq hql hc3 hI3w hB2
        by_cases hm : packF h q ≤ much
        · have hdm : decide (packF h q ≤ much) = true := by simpa using hm
          have hs : Hid (rStockL h much ((fitting h (-1)).take (k + 1)) = if rStockL h much ((fitting h (-1)).take k) < laidF h q then laidF h q else rStockL h much ((fitting h (-1)).take k)) := Lib.hid (by rw [HST.out, rStockF, if_pos hm])
          clear hm
          go_wp2
          refine wp_region_extW (by kernel_rfl) (by kernel_rfl) ?_
          repeat (go_big_quiet_step ((go_at_call 58; exact ext_call (HQ.out _))))
          refine wpQuiet_nil ?_
          rintro _ ⟨x1, rfl⟩
          have hb5 := extB_below wr x1
          have g0' := e0 x1
          have g1' := e1 x1
          have g2' := e2 x1
          have g3' := e3 x1
          have g5' := e5 x1
          have HI5 := Lib.hid (ints_later HI3.out hb5)
          obtain ⟨W5, hW5⟩ : ∃ W5, extB wr x1 = W5 := ⟨_, rfl⟩
          rw [hW5] at hb5 g0' g1' g2' g3' g5' HI5 ⊢
          have HB5 := Lib.hid hb5
          clear e0 e1 e2 e3 e5 g0 g1 g2 g3 hc3' hW5
          go_wp2
          go_region_held3 (fun w' => w'.cell? ⟨w.heap.size, 0, none⟩ = some (.slice L.Ak h.ks.length L.ck) ∧ w'.cell? ⟨w.heap.size, 1, none⟩ = some (.int .i64 h.fl) ∧ w'.cell? ⟨w.heap.size, 2, none⟩ = some (.slice L.Ap h.ps.length L.cp) ∧ w'.cell? ⟨w.heap.size, 3, none⟩ = some (.slice L.Ab h.bs.length L.cb) ∧ w'.cell? ⟨b1, o1 + k, none⟩ = some (.slice A3 q.length c3)) (first | go_keep)
            (first
              | (go_at_call 72; refine (laid_any q (by omega) A3 c3 _ (ints_later HI5.out (drew_below _))).mono ?_; rintro e w6 ⟨⟨v, rfl, hown⟩, hb6⟩; obtain ⟨A6, c6, rfl, -, -, hI6⟩ := hown.lay; have HI6 := Lib.hid hI6.at_; clear hown hI6; have hb7 := hb0to (drew_below W5) hb6; have x0 := below_cell hb7 g0'; have x1 := below_cell hb7 g1'; have x2 := below_cell hb7 g2'; have x3 := below_cell hb7 g3'; have x5 := below_cell hb7 g5')
              | (go_at_call 71; refine (pounds_any L h HV.out (laidOf q) (by have := laidTo_len q q.length; unfold laidOf; omega) (laidTo_parts HQL.out) A6 c6 _ (HH.out.below (hb0to hb4 (hb0to HB5.out hb7))) HI6.out).mono ?_; rintro e w8 ⟨rfl, hb8⟩; have y0 := below_cell hb8 x0; have y1 := below_cell hb8 x1; have y2 := below_cell hb8 x2; have y3 := below_cell hb8 x3; have y5 := below_cell hb8 x5))
          all_goals
            go_wp2
            go_roundw
            case rel => exact ⟨k + 1, by omega, by go_num, by rw [hs.out]; rfl, hb0to hb (hb0to HB5.out (hb0to hb7 hb8))⟩
            case measure => simp [intOf]; omega
        · have hdm : decide (packF h q ≤ much) = false := by simpa using hm
          have hs : Hid (rStockL h much ((fitting h (-1)).take (k + 1)) = rStockL h much ((fitting h (-1)).take k)) := Lib.hid (by rw [HST.out, rStockF, if_neg hm])
          clear hm
          go_wp2
          refine wp_region_extW (by kernel_rfl) (by kernel_rfl) ?_
          repeat (go_big_quiet_step ((go_at_call 58; exact ext_call (HQ.out _))))
          refine wpQuiet_nil ?_
          rintro _ ⟨x1, rfl⟩
          have hb5 := extB_below wr x1
          clear e0 e1 e2 e3 e5
          go_wp2
          go_roundw
          case rel => exact ⟨k + 1, by omega, by go_num, by rw [hs.out], hb0to hb hb5⟩
          case measure => simp [intOf]; omega
      · obtain rfl : k = (fitting h (-1)).length := by omega
        rw [List.take_length]
        go_wp2
        go_ret2
        exact ⟨by rw [HF.out]; rfl, hb4⟩
  · have hd : (ea != 0) = true := by simp [h0]
    have HF : Hid (rStockS h much = (0, ea)) := Lib.hid (by rw [rStockS, ← hea, if_pos h0])
    clear hea h0
    go_enter Try.func19, Try.ntmps19
    go_wp2
    rw [← HW.out]
    refine wp_region_extW (by kernel_rfl) (by kernel_rfl) ?_
    repeat (go_big_quiet_step (first
      | (go_at_call 46; exact ext_same (rIsStock_any _ _))
      | (go_at_call 69; exact ext_call (HC.out _))))
    refine wpQuiet_nil ?_
    rintro _ ⟨x1, rfl⟩
    have hb1 := hb0to HBW.out (extB_below W1 x1)
    clear e0 e1 e2 e3
    go_wp2
    go_ret2
    exact ⟨by rw [HF.out]; rfl, hb1⟩
end Go.Proofs.Ytgemmmdcpbajoaa
