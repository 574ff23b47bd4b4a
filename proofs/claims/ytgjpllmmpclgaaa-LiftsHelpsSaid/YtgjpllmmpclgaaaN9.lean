import Derived.Test.YtgjpllmmpclgaaaN6
import Derived.Test.YtgjpllmmpclgaaaF4
namespace Go.Proofs.Ytgjpllmmpclgaaa
open Go.RowKit

/-! Helps: plain words, the specification's Helps 61, Clone. -/
theorem strong_ok {s : Sea} (hv : validS s = true) (i : Nat) : SOK (strongS s i) := by
  have hS := SOK.ofValid hv
  have hb : ∀ x ∈ s.bs, x.1 ≤ 999 := by
    unfold validS boatOK at hv
    simp only [Bool.and_eq_true, List.all_eq_true, inR_true] at hv
    intro x hx
    exact (hv.2.2.2 x hx).1.2
  refine ⟨hS.w0, hS.w1, hS.w2, hS.pl, by show (s.bs.set i _).length ≤ 6; rw [List.length_set]; exact hS.bl, hS.p, fun x hx => ?_, hS.lo, hS.hi⟩
  rcases List.mem_or_eq_of_mem_set hx with hx | rfl
  · exact hS.b x hx
  · by_cases hi : i < s.bs.length
    · have hm := List.getElem_mem hi
      have h1 := hS.b _ hm
      have h2 := hb _ hm
      rw [List.getD_eq_getElem?_getD, List.getElem?_eq_getElem hi]
      simp only [Option.getD_some]
      omega
    · rw [List.getD_eq_getElem?_getD, List.getElem?_eq_none (by omega)]
      simp
theorem strong_shares (s : Sea) (i : Nat) : shares (strongS s i) = shares s := rfl
theorem strong_len (s : Sea) (i : Nat) : (strongS s i).bs.length = s.bs.length := List.length_set ..
def helpsB (s : Sea) (i : Nat) : Bool := decide (mostS s < mostS (strongS s i))
def helpsTo (s : Sea) (k : Nat) : List Int := ((List.range k).filter (helpsB s)).map fun i : Nat => (i : Int)
theorem helpsTo_zero (s : Sea) : helpsTo s 0 = [] := rfl
theorem helpsTo_yes {s : Sea} {k : Nat} (h : mostS s < mostS (strongS s k)) : helpsTo s (k + 1) = helpsTo s k ++ [(k : Int)] := by
  unfold helpsTo; rw [List.range_succ, List.filter_append, List.map_append]; simp [helpsB, h]
theorem helpsTo_no {s : Sea} {k : Nat} (h : ¬ mostS s < mostS (strongS s k)) : helpsTo s (k + 1) = helpsTo s k := by
  unfold helpsTo; rw [List.range_succ, List.filter_append, List.map_append]; simp [helpsB, h]
theorem helpsTo_len (s : Sea) (k : Nat) : (helpsTo s k).length ≤ k := by
  unfold helpsTo
  rw [List.length_map]
  exact Nat.le_trans (List.length_filter_le _ _) (by simp)
def helpsRet (s : Sea) : List Int × Int := if (mostRet s).2 ≠ 0 then ([], (mostRet s).2) else (helpsTo s s.bs.length, 0)
theorem helps_cases (s : Sea) : (∃ er, (er != 0) = true ∧ enoughS s = er ∧ helpsRet s = ([], er)) ∨ (validS s = true ∧ s.ps.length ≤ s.bs.length ∧ enoughS s = 0 ∧ helpsRet s = (helpsTo s s.bs.length, 0)) := by
  rcases most_cases s with ⟨er, h1, h2, h3⟩ | ⟨hv, h1, h2, h3, _⟩
  · exact .inl ⟨er, h1, h2, by unfold helpsRet; rw [h3]; exact if_pos (bne_iff_ne.1 h1)⟩
  · exact .inr ⟨hv, h1, h2, by unfold helpsRet; rw [h3]; exact if_neg (by simp)⟩
theorem helps_two (s : Sea) : (∃ er, (er != 0) = true ∧ askS s true = er ∧ helpsRet s = ([], er)) ∨ (validS s = true ∧ askS s true = 0 ∧ mostS s < 0 ∧ helpsRet s = ([], 3)) ∨ (validS s = true ∧ askS s true = 0 ∧ 0 ≤ mostS s ∧ helpsRet s = (helpsTo s s.bs.length, 0)) := by
  by_cases h : askS s true = 0
  · have hv := (askS_ok h).1
    right
    by_cases h1 : mostS s < 0
    · have e : mostRet s = (0, 3) := by unfold mostRet; exact (if_neg (by simp [h])).trans (if_pos h1)
      exact .inl ⟨hv, h, h1, by unfold helpsRet; rw [e]; exact if_pos (by simp)⟩
    · have e : mostRet s = (mostS s, 0) := by unfold mostRet; exact (if_neg (by simp [h])).trans (if_neg h1)
      exact .inr ⟨hv, h, by omega, by unfold helpsRet; rw [e]; exact if_neg (by simp)⟩
  · have e : mostRet s = (0, askS s true) := by unfold mostRet; exact if_pos h
    exact .inl ⟨askS s true, by simp [h], rfl, by unfold helpsRet; rw [e]; exact if_pos h⟩
theorem ints_end {W : World} {B lo : Nat} {v : Value} {l : List Int} (h : Ints W lo v l) (hB : B ≤ lo) : ∃ A c, v = .slice A l.length c ∧ ((l ≠ [] ∧ IntsFrom W B A l) ∨ l = []) := by
  obtain ⟨A, c, e, _, _, h2⟩ := h.lay
  refine ⟨A, c, e, ?_⟩
  by_cases hl : l = []
  · exact .inr hl
  · exact .inl ⟨hl, ints_in_from h2 hl hB⟩
/-- A list, and an error: the slice may be empty and not nil. -/
def ListRetE (B : Nat) (w' : World) (e : Ending) (r : List Int × Int) : Prop := ∃ A cp, e = .returned (.tuple #[.slice A r.1.length cp, .int .i64 r.2]) ∧ IntsAt w' w'.heap.size A r.1
theorem listRetE_nil {B : Nat} {w' : World} {er : Int} : ListRetE B w' (.returned (.tuple #[.slice none 0 0, .int .i64 er])) ([], er) := ⟨none, 0, rfl, .inl rfl⟩
theorem WBox.all {W : World} {b : Nat} {L : SL} {s : Sea} {q : Nat → Int × Int} (h : WBox W b L s q) : W.cell? ⟨b, 4, none⟩ = some (.int .i64 (q 0).1) ∧ W.cell? ⟨b, 5, none⟩ = some (.int .i64 (q 0).2) ∧ W.cell? ⟨b, 6, none⟩ = some (.int .i64 (q 1).1) ∧ W.cell? ⟨b, 7, none⟩ = some (.int .i64 (q 1).2) ∧ W.cell? ⟨b, 8, none⟩ = some (.int .i64 (q 2).1) ∧ W.cell? ⟨b, 9, none⟩ = some (.int .i64 (q 2).2) ∧ W.cell? ⟨b, 10, none⟩ = some (.int .i64 (q 3).1) ∧ W.cell? ⟨b, 11, none⟩ = some (.int .i64 (q 3).2) := by
  simp [World.cell?, show W.heap[b]? = _ from h]
set_option maxRecDepth 100000 in
set_option maxHeartbeats 4000000 in
theorem cloneB_any (b off c : Nat) (ns : List (Int × Int)) (hl : ns.length ≤ 1000) (w : World) (hP : PairsAt w w.heap.size (some ⟨b, off, none⟩) ns) : Calls Try.prog 94 #[.slice (some ⟨b, off, none⟩) ns.length c] w fun e w' => (∃ A' c', e = .returned (.slice A' ns.length c') ∧ OwnsP w' 55 w.heap.size (.slice A' ns.length c') ns) ∧ Below w.heap.size w w' := by
  have hq := fun w : World => Lib.run_eql_slice_nil w 25 55 (some ⟨b, off, none⟩) ns.length c 0 0 Try.underlying25
  obtain ⟨i5, hi5, hz50, hz51, hz52⟩ := info_parts info55
  have hb1 := al_below w (.cells #[] 55)
  have HP := Lib.hid (hP.keep hb1.size fun b o hlt => hb1.cell (p := ⟨b, o, none⟩) hlt)
  have HL := Lib.hid hl
  clear hP hb1
  go_enter Try.func94, Try.ntmps94
  go_wp2_with (refine wpl_copyP2 (by rfl) _ _ 25 55 Try.underlying25 hi5 hz50 hz51 hz52 (by rfl) w.heap.size _ [] (by rfl) (ownsP_made w 55 w.heap.size (Nat.le_refl _)) (some ⟨b, off, none⟩) c ns (fun h => by cases h) (by rfl) HP.out (by simp) HL.out (by simp) ?_; intro v' w' h1 h2; have H1 := Lib.hid (show OwnsP w' 55 w.heap.size v' ns from h1); have B1 := Lib.hid ((al_below w (.cells #[] 55)).trans h2); clear h1 h2)
  obtain ⟨A', c', rfl, _, _⟩ := H1.out.lay
  go_ret
  exact ⟨⟨A', c', rfl, H1.out⟩, B1.out⟩
set_option maxRecDepth 100000 in
set_option maxHeartbeats 4000000 in
theorem cloneI_any (b off c : Nat) (l : List Int) (hl : l.length ≤ 1000) (w : World) (hI : IntsAt w w.heap.size (some ⟨b, off, none⟩) l) : Calls Try.prog 95 #[.slice (some ⟨b, off, none⟩) l.length c] w fun e w' => (∃ v, e = .returned v ∧ Ints w' w.heap.size v l) ∧ Below w.heap.size w w' := by
  have hq := fun w : World => Lib.run_eql_slice_nil w 28 3 (some ⟨b, off, none⟩) l.length c 0 0 Try.underlying28
  have HI := Lib.hid (ints_later hI (al_below w (.cells #[] 3)))
  have HL := Lib.hid hl
  clear hI
  go_enter Try.func95, Try.ntmps95
  go_wp2_with (refine wpl_copyI (by rfl) _ _ (by rfl) w.heap.size _ [] (by rfl) (ints_made w w.heap.size (Nat.le_refl _)) (some ⟨b, off, none⟩) c l (fun h => by cases h) (by rfl) HI.out (by simp) HL.out (by simp) ?_; intro v' w' h1 h2; have H1 := Lib.hid (show Ints w' w.heap.size v' l from h1); have B1 := Lib.hid ((al_below w (.cells #[] 3)).trans h2); clear h1 h2)
  go_ret
  exact ⟨⟨_, rfl, H1.out⟩, B1.out⟩
set_option maxRecDepth 100000 in
set_option maxHeartbeats 4000000 in
theorem rhelps_any (L : SL) (s : Sea) (hok : SLOK L s) (w : World) (hH : SeaAt w w.heap.size L s) : Calls Try.prog 61 #[L.enc s] w fun e w' => ListRetE w.heap.size w' e (helpsRet s) ∧ Below w.heap.size w w' := by
  have hbw := al_below w (.cells #[.int .i64 s.wl, .int .i64 s.wh, .slice L.Ap s.ps.length L.cp, .slice L.Ab s.bs.length L.cb] 27)
  have HB := Lib.hid (SBox.new w L s)
  obtain ⟨c0, c1, c2, c3⟩ := (SBox.new w L s).cells
  obtain ⟨W0, hW0⟩ : ∃ W0, w.alloc (.cells #[.int .i64 s.wl, .int .i64 s.wh, .slice L.Ap s.ps.length L.cp, .slice L.Ab s.bs.length L.cb] 27) = W0 := ⟨_, rfl⟩
  rw [hW0] at hbw HB c0 c1 c2 c3
  have HBW := Lib.hid hbw
  have HW0 := Lib.hid hW0
  have HH := Lib.hid (hH.below hbw)
  have HK := Lib.hid (renough_any L s W0 HH.out)
  rcases helps_cases s with ⟨er, h1, h2, h3⟩ | ⟨hv, h1, h2, h3⟩
  · rw [h2] at HK
    rw [h3]
    clear hbw hW0 hH h2 h3
    obtain ⟨Ap, cp, Ab, cb⟩ := L
    go_enter Try.func61, Try.ntmps61
    go_upto_region 1 with (fail)
    have e := HW0.out
    rw [e]
    clear e
    go_wp2_with (go_at_call 91; refine HK.out.mono ?_; rintro e w1 ⟨rfl, hb1⟩; have B1 := Lib.hid hb1; obtain ⟨r0, r1, r2, r3⟩ := (HB.out.of (hb1.block _ HB.out.lt)).cells; clear hb1)
    go_ret2
    exact ⟨listRetE_nil, hb0to HBW.out B1.out⟩
  · have hS := SOK.ofValid hv
    have hbl := hS.bl
    have H38 := Lib.hid (fun (i : Nat) (hi : i < s.bs.length) W hW => stronger_any L s hS hok i hi W hW)
    have H92s := Lib.hid (fun W hW => show Calls Try.prog 92 #[L.enc s] W fun e w' => e = .returned (.int .i64 (mostS s)) ∧ Below W.heap.size W w' by
      have := rmost_any L s hS W hW
      rwa [show max 0 (mostS s) = mostS s by have := most_some hS h1; omega] at this)
    have H92 := Lib.hid (fun (i : Nat) L' W hW => show Calls Try.prog 92 #[SL.enc L' (strongS s i)] W fun e w' => e = .returned (.int .i64 (mostS (strongS s i))) ∧ Below W.heap.size W w' by
      have := rmost_any L' (strongS s i) (strong_ok hv i) W hW
      rwa [show max 0 (mostS (strongS s i)) = mostS (strongS s i) by have := most_some (strong_ok hv i) (by rw [strong_len]; exact h1); omega] at this)
    rw [h2] at HK
    rw [h3]
    clear hbw hW0 hH h2 h3 hS hv h1 hok
    obtain ⟨Ap, cp, Ab, cb⟩ := L
    go_enter Try.func61, Try.ntmps61
    go_upto_region 1 with (fail)
    have e := HW0.out
    rw [e]
    clear e
    go_upto_region 5 with (go_at_call 91; refine HK.out.mono ?_; rintro e w1 ⟨rfl, hb1⟩; have B1 := Lib.hid hb1; obtain ⟨r0, r1, r2, r3⟩ := (HB.out.of (hb1.block _ HB.out.lt)).cells; clear hb1)
    clear c0 c1 c2 c3 r0 r1 r2 r3
    go_wp2_with (fail)
    go_loopw [5, 6] (fun v i wr => ∃ k : Nat, k ≤ s.bs.length ∧ i = .int .i64 k ∧ Hid (Ints wr w1.heap.size v (helpsTo s k)) ∧ Hid (Below w1.heap.size w1 wr)) (fun _ i _ => s.bs.length - (intOf i).toNat)
    case atStart => exact ⟨0, Nat.zero_le _, rfl, Lib.hid (by rw [helpsTo_zero]; exact ints_nil _ _), Lib.hid (Below.refl _ _)⟩
    case round =>
      obtain ⟨k, hk, rfl, hI, hb⟩ := hrel
      have HBr := Lib.hid (hb0to B1.out hb.out)
      obtain ⟨r0, r1, r2, r3⟩ := (HB.out.of (HBr.out.block _ HB.out.lt)).cells
      by_cases hlt : k < s.bs.length
      · have X38 := Lib.hid (H38.out k hlt)
        have X92 := Lib.hid (H92.out k)
        have HY := Lib.hid (fun h => helpsTo_yes (s := s) (k := k) h)
        have HN := Lib.hid (fun h => helpsTo_no (s := s) (k := k) h)
        have hl0 := helpsTo_len s k
        have hl1 : (helpsTo s k).length ≤ 1000 := by omega
        generalize mostS (strongS s k) = m2 at X92 HY HN
        by_cases hm : mostS s < m2
        · have HQ := Lib.hid (HY.out hm)
          have hdl : decide (mostS s < m2) = true := decide_eq_true hm
          generalize mostS s = m1 at H92s hdl
          clear hm HY HN hl0
          as_aux_lemma =>
          go_wp2_with (fail)
          go_region_held3 (fun w' => w'.cell? ⟨w.heap.size, 0, none⟩ = some (.int .i64 s.wl) ∧ w'.cell? ⟨w.heap.size, 1, none⟩ = some (.int .i64 s.wh) ∧ w'.cell? ⟨w.heap.size, 2, none⟩ = some (.slice Ap s.ps.length cp) ∧ w'.cell? ⟨w.heap.size, 3, none⟩ = some (.slice Ab s.bs.length cb)) (first | go_keep)
            (first
              | (go_at_call 38; refine (X38.out wr.drew (HH.out.below (hb0to HBr.out (drew_below _)))).mono ?_; rintro e w2 ⟨⟨⟨Bp, dp, Bb, db⟩, rfl, hC⟩, hb2⟩; have hk2 := hb0to (drew_below wr) hb2; have B2 := Lib.hid hk2; have C2 := Lib.hid hC; have s0 := below_cell hk2 r0; have s1 := below_cell hk2 r1; have s2 := below_cell hk2 r2; have s3 := below_cell hk2 r3; clear hb2 hk2 hC)
              | (go_at_call 92; refine (H92s.out w3 (HH.out.below (hb0to HBr.out B3.out))).mono ?_; rintro e w4 ⟨rfl, hb4⟩; have hk4 := hb0to B3.out hb4; have B4 := Lib.hid hk4; have u0 := below_cell hk4 r0; have u1 := below_cell hk4 r1; have u2 := below_cell hk4 r2; have u3 := below_cell hk4 r3; clear hb4 hk4)
              | (go_at_call 92; refine (X92.out ⟨Bp, dp, Bb, db⟩ w2 C2.out.sea).mono ?_; rintro e w3 ⟨rfl, hb3⟩; have hk3 := hb0to B2.out hb3; have B3 := Lib.hid hk3; have t0 := below_cell hk3 r0; have t1 := below_cell hk3 r1; have t2 := below_cell hk3 r2; have t3 := below_cell hk3 r3; clear hb3 hk3))
          all_goals
            have HI4 := Lib.hid ((hI.out.below_ B4.out (Nat.le_refl _)).alloc (.cells #[.int .i64 k] 3))
            have HC4 := Lib.hid (show (w4.alloc (.cells #[.int .i64 k] 3)).cell? ⟨w4.heap.size, 0, none⟩ = some (.int .i64 k) by simp [go_sem])
            have B5 := Lib.hid (hb0to hb.out (hb0to B4.out (al_below w4 (.cells #[.int .i64 k] 3))))
            clear r0 r1 r2 r3 s0 s1 s2 s3 t0 t1 t2 t3 u0 u1 u2 u3
            go_wp2_with (refine wpl_app (by rfl) _ _ (by rfl) w1.heap.size w1.heap.size _ (helpsTo s k) k (by rfl) HI4.out ⟨w4.heap.size, 0, none⟩ 1 (by rfl) HC4.out hl1 B5.out.size (Nat.le_refl _) ?_; intro v' w' h1 h2; have HV := Lib.hid h1; have HW := Lib.hid h2; clear h1 h2)
            go_roundw
            case rel => exact ⟨k + 1, by omega, by go_num, Lib.hid (by rw [HQ.out]; exact HV.out), Lib.hid (B5.out.trans HW.out)⟩
            case measure => simp [intOf]; omega
        · have HQ := Lib.hid (HN.out hm)
          have hdl : decide (mostS s < m2) = false := decide_eq_false hm
          generalize mostS s = m1 at H92s hdl
          clear hm HY HN hl0
          as_aux_lemma =>
          go_wp2_with (fail)
          go_region_held3 (fun w' => w'.cell? ⟨w.heap.size, 0, none⟩ = some (.int .i64 s.wl) ∧ w'.cell? ⟨w.heap.size, 1, none⟩ = some (.int .i64 s.wh) ∧ w'.cell? ⟨w.heap.size, 2, none⟩ = some (.slice Ap s.ps.length cp) ∧ w'.cell? ⟨w.heap.size, 3, none⟩ = some (.slice Ab s.bs.length cb)) (first | go_keep)
            (first
              | (go_at_call 38; refine (X38.out wr.drew (HH.out.below (hb0to HBr.out (drew_below _)))).mono ?_; rintro e w2 ⟨⟨⟨Bp, dp, Bb, db⟩, rfl, hC⟩, hb2⟩; have hk2 := hb0to (drew_below wr) hb2; have B2 := Lib.hid hk2; have C2 := Lib.hid hC; have s0 := below_cell hk2 r0; have s1 := below_cell hk2 r1; have s2 := below_cell hk2 r2; have s3 := below_cell hk2 r3; clear hb2 hk2 hC)
              | (go_at_call 92; refine (H92s.out w3 (HH.out.below (hb0to HBr.out B3.out))).mono ?_; rintro e w4 ⟨rfl, hb4⟩; have hk4 := hb0to B3.out hb4; have B4 := Lib.hid hk4; have u0 := below_cell hk4 r0; have u1 := below_cell hk4 r1; have u2 := below_cell hk4 r2; have u3 := below_cell hk4 r3; clear hb4 hk4)
              | (go_at_call 92; refine (X92.out ⟨Bp, dp, Bb, db⟩ w2 C2.out.sea).mono ?_; rintro e w3 ⟨rfl, hb3⟩; have hk3 := hb0to B2.out hb3; have B3 := Lib.hid hk3; have t0 := below_cell hk3 r0; have t1 := below_cell hk3 r1; have t2 := below_cell hk3 r2; have t3 := below_cell hk3 r3; clear hb3 hk3))
          all_goals
            clear r0 r1 r2 r3 s0 s1 s2 s3 t0 t1 t2 t3 u0 u1 u2 u3
            go_wp2_with (fail)
            go_roundw
            case rel => exact ⟨k + 1, by omega, by go_num, Lib.hid (by rw [HQ.out]; exact hI.out.below_ B4.out (Nat.le_refl _)), Lib.hid (hb0to hb.out B4.out)⟩
            case measure => simp [intOf]; omega
      · obtain rfl : k = s.bs.length := by omega
        obtain ⟨A, c, rfl, hA0, -, hIn⟩ := hI.out.lay
        have HIn := Lib.hid hIn.at_
        clear hA0 hIn
        go_wp2_with (fail)
        go_ret2
        exact ⟨⟨A, c, rfl, HIn.out⟩, hb0to HBW.out HBr.out⟩
end Go.Proofs.Ytgjpllmmpclgaaa
