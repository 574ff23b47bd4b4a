import Derived.Test.YtgjpllmmpclgaaaN5
namespace Go.Proofs.Ytgjpllmmpclgaaa
open Go.RowKit

/-! The specification's holds 101, LiftsOf 99, SharesOf 100, most 92, enough 91, Most 58. -/
def highTo (s : Sea) (k : Nat) : List Int := (List.range k).map fun i => (shares s i).2
def highL (s : Sea) : List Int := highTo s s.ps.length
theorem highTo_succ (s : Sea) (k : Nat) : highTo s (k + 1) = highTo s k ++ [(shares s k).2] := by unfold highTo; rw [List.range_succ, List.map_append]; rfl
theorem highTo_len (s : Sea) (k : Nat) : (highTo s k).length = k := by simp [highTo]
theorem highL_len (s : Sea) : (highL s).length = s.ps.length := highTo_len s _
theorem highL_at {s : Sea} {k : Nat} (h : k < s.ps.length) : (highL s)[k]? = some (shares s k).2 := by
  unfold highL highTo
  rw [List.getElem?_map, List.getElem?_range h]; rfl
theorem max_neg (f : List Int → Int) (l : List (List Int)) : ∀ x : List Int, max (max 0 (maxL f l)) (f x) = max 0 (maxL f (l ++ [x])) := fun x => by
  rw [maxL_snoc]; omega
theorem maxL_next {f : List Int → Int} {l : List (List Int)} {k : Nat} {c : List Int} (h : l[k]? = some c) : max 0 (maxL f (l.take (k + 1))) = if max 0 (maxL f (l.take k)) < f c then f c else max 0 (maxL f (l.take k)) := by
  rw [List.take_add_one, h]
  show max 0 (maxL f (l.take k ++ [c])) = _
  rw [maxL_snoc]
  split <;> omega
/-- The error of a sea that must have enough boats. -/
def enoughS (s : Sea) : Int := if askS s true ≠ 0 then askS s true else if s.bs.length < s.ps.length then 3 else 0
theorem most_cases (s : Sea) : (∃ er, (er != 0) = true ∧ enoughS s = er ∧ mostRet s = (0, er)) ∨ (validS s = true ∧ s.ps.length ≤ s.bs.length ∧ enoughS s = 0 ∧ mostRet s = (mostS s, 0) ∧ max 0 (mostS s) = mostS s) := by
  by_cases h : askS s true = 0
  · have e1 : enoughS s = if s.bs.length < s.ps.length then 3 else 0 := by unfold enoughS; exact if_neg (by simp [h])
    have e2 : mostRet s = if mostS s < 0 then (0, 3) else (mostS s, 0) := by unfold mostRet; exact if_neg (by simp [h])
    by_cases h1 : s.bs.length < s.ps.length
    · rw [if_pos h1] at e1
      rw [if_pos (by rw [most_none h1]; omega)] at e2
      exact .inl ⟨3, rfl, e1, e2⟩
    · have hv := (askS_ok h).1
      have := most_some (SOK.ofValid hv) (by omega)
      rw [if_neg h1] at e1
      rw [if_neg (by omega)] at e2
      exact .inr ⟨hv, by omega, e1, e2, by omega⟩
  · exact .inl ⟨askS s true, by simp [h], if_pos h, if_pos h⟩
set_option maxRecDepth 100000 in
set_option maxHeartbeats 4000000 in
theorem rholds_any (cy hi : Int) (hc : 0 ≤ cy ∧ cy ≤ 1000) (hh : 0 ≤ hi ∧ hi ≤ 12) (w : World) : Calls Try.prog 101 #[.int .i64 cy, .int .i64 hi] w fun e w' => e = .returned (.int .i64 (holdsN cy hi)) ∧ w = w' := by
  obtain ⟨x0, x1⟩ := hc
  obtain ⟨y0, y1⟩ := hh
  by_cases hz : hi = 0
  · subst hz
    go_enter Try.func101, Try.ntmps101
    go_wp2
    go_ret
    exact ⟨by unfold holdsN; rfl, rfl⟩
  · have hz' : (hi == 0) = false := beq_eq_false_iff_ne.2 hz
    have hp : 1 ≤ hi := by omega
    have hw : IntKind.i64.wrap (12 * cy) = 12 * cy := IntWalk.i64_in _ (by omega)
    have h12 : 0 ≤ 12 * cy := by omega
    go_enter Try.func101, Try.ntmps101
    go_wp2_with (fail)
    all_goals go_ret
    all_goals (refine ⟨?_, rfl⟩)
    all_goals (unfold holdsN; rw [if_neg hz])
    all_goals first | rw [Int.min_eq_left (by assumption)] | rw [Int.min_eq_right (Int.le_of_lt (by assumption))]
    all_goals first | rfl | kernel_rfl | simp [go_sem]
set_option maxRecDepth 100000 in
set_option maxHeartbeats 4000000 in
theorem rlifts_any (L : SL) (s : Sea) (hS : SOK s) (c : List Int) (hc : ∀ x ∈ c, 0 ≤ x ∧ x < s.bs.length) (hcl : c.length ≤ s.ps.length) (A B : Option Addr) (cv cw : Nat) (w : World) (hH : SeaAt w w.heap.size L s) (hI : IntsAt w w.heap.size A c) (hJ : IntsAt w w.heap.size B (highL s)) :
    Calls Try.prog 99 #[L.enc s, .slice A c.length cv, .slice B s.ps.length cw] w fun e w' => e = .returned (.int .i64 (liftS s c)) ∧ Below w.heap.size w w' := by
  have hbw := al_below w (.cells #[.int .i64 s.wl, .int .i64 s.wh, .slice L.Ap s.ps.length L.cp, .slice L.Ab s.bs.length L.cb] 27)
  have HB := Lib.hid (SBox.new w L s)
  obtain ⟨c0, c1, c2, c3⟩ := (SBox.new w L s).cells
  obtain ⟨W0, hW0⟩ : ∃ W0, w.alloc (.cells #[.int .i64 s.wl, .int .i64 s.wh, .slice L.Ap s.ps.length L.cp, .slice L.Ab s.bs.length L.cb] 27) = W0 := ⟨_, rfl⟩
  rw [hW0] at hbw HB c0 c1 c2 c3
  have HBW := Lib.hid hbw
  have HW0 := Lib.hid hW0
  have HH := Lib.hid (hH.below hbw)
  have HI := Lib.hid (ints_later hI hbw)
  have HJ := Lib.hid (ints_later hJ hbw)
  have hpl := hS.pl
  have HS := Lib.hid hS
  have HQ := Lib.hid (show liftS s c = minN ((heldL s c).take c.length) by unfold liftS; rw [List.take_of_length_le (by rw [heldL_length]; exact Nat.le_refl _)])
  clear hbw hW0 hH hI hJ hS
  obtain ⟨Ap, cp, Ab, cb⟩ := L
  go_enter Try.func99, Try.ntmps99
  go_upto_region 1 with (fail)
  have e := HW0.out
  rw [e]
  clear e
  go_wp2_with (fail)
  clear c0 c1 c2 c3
  go_loopw [7, 8] (fun v i wr => ∃ (k : Nat) (x : Int), k ≤ c.length ∧ i = .int .i64 k ∧ v = .int .i64 x ∧ Hid (x = minN ((heldL s c).take k)) ∧ Hid (Below W0.heap.size W0 wr)) (fun _ i _ => c.length - (intOf i).toNat)
  case atStart => exact ⟨0, 2000, Nat.zero_le _, rfl, rfl, Lib.hid rfl, Lib.hid (Below.refl _ _)⟩
  case round =>
    obtain ⟨k, x, hk, rfl, rfl, hX, hb⟩ := hrel
    by_cases hlt : k < c.length
    · obtain ⟨j, hj⟩ : ∃ j, c[k]? = some j := ⟨_, List.getElem?_eq_getElem hlt⟩
      obtain ⟨j0, j1⟩ := hc j (List.mem_of_getElem? hj)
      obtain ⟨jn, rfl⟩ : ∃ jn : Nat, j = jn := ⟨j.toNat, by omega⟩
      have hkp : k < s.ps.length := by omega
      have hjb : jn < s.bs.length := by omega
      obtain ⟨z, hz, z0, z1, _, _⟩ := boat_at HS.out hjb
      obtain ⟨bi, oi, eA, blt, d1⟩ := HI.out.at_ hj
      obtain ⟨bb, ob, eB, blt2, d2, _⟩ := HH.out.b.at_ hz
      obtain ⟨bh, oh, eC, blt3, d3⟩ := HJ.out.at_ (highL_at hkp)
      have g1 := below_cell hb.out d1
      have g2 := below_cell hb.out d2
      have g3 := below_cell hb.out d3
      obtain ⟨r0, r1, r2, r3⟩ := (HB.out.of (hb.out.block _ HB.out.lt)).cells
      simp only at eB
      rw [eB] at r3
      have hh := shares_bd HS.out hkp
      have HN := Lib.hid (minN_next (heldL_at (s := s) hj))
      rw [Int.toNat_natCast, (boat_eq hz).1] at HN
      generalize (shares s k).2 = hi at g3 hh HN
      obtain ⟨cy, pn⟩ := z
      simp only at z0 z1 HN g2
      have H101 := Lib.hid (fun W => rholds_any cy hi ⟨z0, z1⟩ ⟨hh.1, hh.2.1⟩ W)
      generalize holdsN cy hi = v at HN H101
      subst eA
      subst eC
      clear hz hj d1 d2 d3 eB hh
      by_cases hvx : v < x
      · have HN' := Lib.hid (show v = minN ((heldL s c).take (k + 1)) by rw [HN.out, ← hX.out, if_pos hvx])
        as_aux_lemma =>
        go_wp2_with (fail)
        go_region_held3 (fun w' => w'.cell? ⟨w.heap.size, 3, none⟩ = some (.slice (some ⟨bb, ob, none⟩) s.bs.length cb) ∧ w'.cell? ⟨bi, oi + k, none⟩ = some (.int .i64 jn) ∧ w'.cell? ⟨bb, ob + jn * 2, none⟩ = some (.int .i64 cy) ∧ w'.cell? ⟨bh, oh + k, none⟩ = some (.int .i64 hi)) (first | go_keep)
          (first | (go_at_call 101; refine (H101.out _).mono ?_; rintro e w' ⟨rfl, rfl⟩))
        all_goals
          go_wp2_with (fail)
          go_roundw
          case rel => exact ⟨k + 1, v, by omega, by go_num, rfl, HN', Lib.hid (hb0to hb.out (drew_below _))⟩
          case measure => simp [intOf]; omega
      · have HN' := Lib.hid (show x = minN ((heldL s c).take (k + 1)) by rw [HN.out, ← hX.out, if_neg hvx])
        as_aux_lemma =>
        go_wp2_with (fail)
        go_region_held3 (fun w' => w'.cell? ⟨w.heap.size, 3, none⟩ = some (.slice (some ⟨bb, ob, none⟩) s.bs.length cb) ∧ w'.cell? ⟨bi, oi + k, none⟩ = some (.int .i64 jn) ∧ w'.cell? ⟨bb, ob + jn * 2, none⟩ = some (.int .i64 cy) ∧ w'.cell? ⟨bh, oh + k, none⟩ = some (.int .i64 hi)) (first | go_keep)
          (first | (go_at_call 101; refine (H101.out _).mono ?_; rintro e w' ⟨rfl, rfl⟩))
        all_goals
          go_wp2_with (fail)
          go_roundw
          case rel => exact ⟨k + 1, x, by omega, by go_num, by rw [if_neg (Int.not_lt.2 hvx)], HN', Lib.hid (hb0to hb.out (drew_below _))⟩
          case measure => simp [intOf]; omega
    · obtain rfl : k = c.length := by omega
      go_wp2_with (fail)
      go_ret
      exact ⟨by rw [HQ.out, ← hX.out]; rfl, hb0to HBW.out hb.out⟩
/-- What SharesOf returns. -/
def HighRet (s : Sea) (B : Nat) (w' : World) (e : Ending) : Prop := ∃ A cp, e = .returned (.slice A s.ps.length cp) ∧ IntsFrom w' B A (highL s)
set_option maxRecDepth 100000 in
set_option maxHeartbeats 4000000 in
theorem rhighs_any (L : SL) (s : Sea) (hS : SOK s) (w : World) (hH : SeaAt w w.heap.size L s) : Calls Try.prog 100 #[L.enc s] w fun e w' => HighRet s w.heap.size w' e ∧ Below w.heap.size w w' := by
  have hbw := al_below w (.cells #[.int .i64 s.wl, .int .i64 s.wh, .slice L.Ap s.ps.length L.cp, .slice L.Ab s.bs.length L.cb] 27)
  have HB := Lib.hid (SBox.new w L s)
  obtain ⟨c0, c1, c2, c3⟩ := (SBox.new w L s).cells
  obtain ⟨W0, hW0⟩ : ∃ W0, w.alloc (.cells #[.int .i64 s.wl, .int .i64 s.wh, .slice L.Ap s.ps.length L.cp, .slice L.Ab s.bs.length L.cb] 27) = W0 := ⟨_, rfl⟩
  rw [hW0] at hbw HB c0 c1 c2 c3
  have HBW := Lib.hid hbw
  have HW0 := Lib.hid hW0
  have HH := Lib.hid (hH.below hbw)
  have hpl := hS.pl
  have H88 := Lib.hid (fun (k : Nat) (hk : k < s.ps.length) W hW => show Calls Try.prog 88 #[L.enc s, .int .i64 k] W fun e w' => e = .returned (.agg #[.int .i64 (shares s k).1, .int .i64 (shares s k).2]) ∧ Below W.heap.size W w' by
    rw [shares_at (List.getElem?_eq_getElem hk)]; exact rshare_any L s hS k _ (List.getElem?_eq_getElem hk) W hW)
  have HS := Lib.hid hS
  clear hbw hW0 hH hS
  obtain ⟨Ap, cp, Ab, cb⟩ := L
  go_enter Try.func100, Try.ntmps100
  go_upto_region 1 with (fail)
  have e := HW0.out
  rw [e]
  clear e
  go_wp2_with (fail)
  clear c0 c1 c2 c3
  go_loopw [3, 4] (fun v i wr => ∃ k : Nat, k ≤ s.ps.length ∧ i = .int .i64 k ∧ Hid (Ints wr W0.heap.size v (highTo s k)) ∧ Hid (Below W0.heap.size W0 wr)) (fun _ i _ => s.ps.length - (intOf i).toNat)
  case atStart => exact ⟨0, Nat.zero_le _, rfl, Lib.hid (ints_nil _ _), Lib.hid (Below.refl _ _)⟩
  case round =>
    obtain ⟨k, hk, rfl, hI, hb⟩ := hrel
    obtain ⟨r0, r1, r2, r3⟩ := (HB.out.of (hb.out.block _ HB.out.lt)).cells
    by_cases hlt : k < s.ps.length
    · have hnb := needN_bd HS.out hlt
      have HN := Lib.hid (highTo_succ s k)
      have hl0 : (highTo s k).length ≤ 1000 := by rw [highTo_len]; omega
      have H88k := Lib.hid (H88.out k hlt)
      generalize (shares s k).1 = lo at H88k
      generalize (shares s k).2 = n at HN H88k
      have hfd := fun W => field23 lo n W
      as_aux_lemma =>
      go_wp2_with (first
        | (go_at_call 88; refine (H88k.out wr (HH.out.below hb.out)).mono ?_; rintro e w1 ⟨rfl, hb1⟩; have B1 := Lib.hid hb1; have HI1 := Lib.hid ((hI.out.below_ hb1 (Nat.le_refl _)).alloc (.cells #[.int .i64 n] 3)); have HC1 := Lib.hid (show (w1.alloc (.cells #[.int .i64 n] 3)).cell? ⟨w1.heap.size, 0, none⟩ = some (.int .i64 n) by simp [go_sem]); have B2 := Lib.hid (hb0to hb.out (hb0to hb1 (al_below w1 (.cells #[.int .i64 n] 3)))); clear hb1)
        | (refine wpl_app (by rfl) _ _ (by rfl) W0.heap.size W0.heap.size _ (highTo s k) n (by rfl) HI1.out ⟨w1.heap.size, 0, none⟩ 1 (by rfl) HC1.out hl0 B2.out.size (Nat.le_refl _) ?_; intro v' w' h1 h2; have HV := Lib.hid h1; have HW := Lib.hid h2; clear h1 h2))
      go_roundw
      case rel => exact ⟨k + 1, by omega, by go_num, Lib.hid (by rw [HN.out]; exact HV.out), Lib.hid (B2.out.trans HW.out)⟩
      case measure => simp [intOf]; omega
    · obtain rfl : k = s.ps.length := by omega
      have hI2 := hI.out
      rw [show highTo s s.ps.length = highL s from rfl] at hI2
      obtain ⟨A, c, rfl, hA0, -, hIn⟩ := hI2.lay
      have hln := highL_len s
      rw [hln]
      have HIF := Lib.hid (show IntsFrom wr w.heap.size A (highL s) by
        rcases hIn with h | ⟨b5, o5, e5, h5, h6, h7⟩
        · have : s.ps = [] := by rw [h] at hln; exact List.length_eq_zero_iff.1 hln.symm
          have h12 := HS.out.hi
          rw [this] at h12
          simp [sumH] at h12
        · exact .inr ⟨b5, o5, e5, Nat.le_trans HBW.out.size h5, h6, h7⟩)
      clear hI2 hA0 hIn hln
      as_aux_lemma =>
      go_wp2_with (fail)
      go_ret
      exact ⟨⟨A, c, rfl, HIF.out⟩, hb0to HBW.out hb.out⟩
set_option maxRecDepth 100000 in
set_option maxHeartbeats 4000000 in
theorem rmost_any (L : SL) (s : Sea) (hS : SOK s) (w : World) (hH : SeaAt w w.heap.size L s) : Calls Try.prog 92 #[L.enc s] w fun e w' => e = .returned (.int .i64 (max 0 (mostS s))) ∧ Below w.heap.size w w' := by
  have hbw := al_below w (.cells #[.int .i64 s.wl, .int .i64 s.wh, .slice L.Ap s.ps.length L.cp, .slice L.Ab s.bs.length L.cb] 27)
  have HB := Lib.hid (SBox.new w L s)
  obtain ⟨c0, c1, c2, c3⟩ := (SBox.new w L s).cells
  obtain ⟨W0, hW0⟩ : ∃ W0, w.alloc (.cells #[.int .i64 s.wl, .int .i64 s.wh, .slice L.Ap s.ps.length L.cp, .slice L.Ab s.bs.length L.cb] 27) = W0 := ⟨_, rfl⟩
  rw [hW0] at hbw HB c0 c1 c2 c3
  have HBW := Lib.hid hbw
  have HW0 := Lib.hid hW0
  have HH := Lib.hid (hH.below hbw)
  have hpl := hS.pl
  have hbl := hS.bl
  have HC := Lib.hid (fun W hW => rcrews_any L s hS s.ps.length [] 0 rfl (by omega) none 0 W0.heap.size W (fun _ => ⟨rfl, rfl⟩) hW (.inl rfl))
  have HN := Lib.hid (fun W hW => rhighs_any L s hS W hW)
  have HL := Lib.hid (fun (c : List Int) (hc : c ∈ crewsR s.bs.length s.ps.length []) A cv cw W hW hI B hJ => show Calls Try.prog 99 #[L.enc s, .slice A c.length cv, .slice B s.ps.length cw] W fun e w' => e = .returned (.int .i64 (liftS s c)) ∧ Below W.heap.size W w' by
    have hm := mem_crews.1 hc
    exact rlifts_any L s hS c hm.2.1 (by have := hm.1; omega) A B cv cw W hW hI hJ)
  have HM := Lib.hid (show mostS s = maxL (liftS s) (crewsR s.bs.length s.ps.length []) from rfl)
  have hsm := crewsR_small (n := s.ps.length) hbl hpl []
  clear hbw hW0 hH hS
  generalize crewsR s.bs.length s.ps.length [] = rs at HC HL HM hsm
  obtain ⟨Ap, cp, Ab, cb⟩ := L
  go_enter Try.func92, Try.ntmps92
  go_upto_region 1 with (fail)
  have e := HW0.out
  rw [e]
  clear e
  go_upto_region 2 with (fail)
  go_region_held3 (fun w' => w'.cell? ⟨w.heap.size, 0, none⟩ = some (.int .i64 s.wl) ∧ w'.cell? ⟨w.heap.size, 1, none⟩ = some (.int .i64 s.wh) ∧ w'.cell? ⟨w.heap.size, 2, none⟩ = some (.slice Ap s.ps.length cp) ∧ w'.cell? ⟨w.heap.size, 3, none⟩ = some (.slice Ab s.bs.length cb)) (first | go_keep)
    (first
      | (go_at_call 80; refine (HC.out W0.drew (HH.out.below (drew_below _)) (drew_below W0).size).mono ?_; rintro e w2 ⟨⟨Ar, cr, rfl, hAr, hR⟩, hb2⟩; have B2 := Lib.hid (hb0to (drew_below W0) hb2); have HRr := Lib.hid hR; obtain ⟨t0, t1, t2, t3⟩ := (HB.out.of (B2.out.block _ HB.out.lt)).cells; clear hb2 hAr hR)
      | (go_at_call 100; refine (HN.out w2 (HH.out.below B2.out)).mono ?_; rintro e w3 ⟨⟨An, cn, rfl, hIn⟩, hb3⟩; have B3 := Lib.hid (hb0to B2.out hb3); have HR3 := Lib.hid (HRr.out.below hb3 (Nat.le_refl _)); have HI3 := Lib.hid hIn; have hsz3 := hb3.size; obtain ⟨u0, u1, u2, u3⟩ := (HB.out.of (B3.out.block _ HB.out.lt)).cells; clear hb3 hIn))
  all_goals
    go_upto_region 3 with (fail)
    clear t0 t1 t2 t3 c0 c1 c2 c3 u0 u1 u2 u3
    go_wp2_with (fail)
    go_loopw [3, 6] (fun v i wr => ∃ (k : Nat) (x : Int), k ≤ rs.length ∧ i = .int .i64 k ∧ v = .int .i64 x ∧ Hid (max 0 (maxL (liftS s) (rs.take k)) = x) ∧ Hid (Below w3.heap.size w3 wr)) (fun _ i _ => rs.length - (intOf i).toNat)
    case atStart => exact ⟨0, 0, Nat.zero_le _, rfl, rfl, Lib.hid rfl, Lib.hid (Below.refl _ _)⟩
    case round =>
      obtain ⟨k, x, hk, rfl, rfl, hx, hb⟩ := hrel
      have HBr := Lib.hid (hb0to B3.out hb.out)
      obtain ⟨r0, r1, r2, r3⟩ := (HB.out.of (HBr.out.block _ HB.out.lt)).cells
      by_cases hlt : k < rs.length
      · obtain ⟨c, hc⟩ : ∃ c, rs[k]? = some c := ⟨_, List.getElem?_eq_getElem hlt⟩
        have HCM := Lib.hid (List.mem_of_getElem? hc)
        have HNx := Lib.hid (maxL_next (f := liftS s) hc)
        rw [hx.out] at HNx
        obtain ⟨b, off, A', c', eA, hbl, k1, _, k2⟩ := (HR3.out.below hb.out hsz3).at_ hc
        have hszr := hb.out.size
        have K2 := Lib.hid (k2.keep (hi' := wr.heap.size) (Nat.le_refl _) (by omega) (fun _ _ _ _ => rfl))
        have HLc := Lib.hid (fun W (hW : Below wr.heap.size wr W) => HL.out c HCM.out A' c' cn W (HH.out.below (hb0to HBr.out hW)) (ints_later K2.out.at_ hW) An (ints_later (HI3.out.below hb.out).ints hW))
        generalize liftS s c = v at HNx HLc
        subst eA
        clear hc k2
        by_cases hvx : x < v
        · rw [if_pos hvx] at HNx
          as_aux_lemma =>
          go_wp2_with (fail)
          go_region_held3 (fun w' => w'.cell? ⟨w.heap.size, 0, none⟩ = some (.int .i64 s.wl) ∧ w'.cell? ⟨w.heap.size, 1, none⟩ = some (.int .i64 s.wh) ∧ w'.cell? ⟨w.heap.size, 2, none⟩ = some (.slice Ap s.ps.length cp) ∧ w'.cell? ⟨w.heap.size, 3, none⟩ = some (.slice Ab s.bs.length cb) ∧ w'.cell? ⟨b, off + k, none⟩ = some (.slice A' c.length c')) (first | go_keep)
            (first | (go_at_call 99; refine (HLc.out _ (by first | exact drew_below _ | exact Below.refl _ _)).mono ?_; rintro e w4 ⟨rfl, hb4⟩; have hk4 : Below wr.heap.size wr w4 := (by first | exact hb4 | exact hb0to (drew_below wr) hb4); have B4 := Lib.hid hk4; have q0 := below_cell hk4 r0; have q1 := below_cell hk4 r1; have q2 := below_cell hk4 r2; have q3 := below_cell hk4 r3; have q4 := below_cell hk4 k1; clear hb4 hk4))
          all_goals
            clear r0 r1 r2 r3 k1 q0 q1 q2 q3 q4
            go_wp2_with (fail)
            go_roundw
            case rel => exact ⟨k + 1, v, by omega, by go_num, rfl, HNx, Lib.hid (hb0to hb.out B4.out)⟩
            case measure => simp [intOf]; omega
        · rw [if_neg hvx] at HNx
          as_aux_lemma =>
          go_wp2_with (fail)
          go_region_held3 (fun w' => w'.cell? ⟨w.heap.size, 0, none⟩ = some (.int .i64 s.wl) ∧ w'.cell? ⟨w.heap.size, 1, none⟩ = some (.int .i64 s.wh) ∧ w'.cell? ⟨w.heap.size, 2, none⟩ = some (.slice Ap s.ps.length cp) ∧ w'.cell? ⟨w.heap.size, 3, none⟩ = some (.slice Ab s.bs.length cb) ∧ w'.cell? ⟨b, off + k, none⟩ = some (.slice A' c.length c')) (first | go_keep)
            (first | (go_at_call 99; refine (HLc.out _ (by first | exact drew_below _ | exact Below.refl _ _)).mono ?_; rintro e w4 ⟨rfl, hb4⟩; have hk4 : Below wr.heap.size wr w4 := (by first | exact hb4 | exact hb0to (drew_below wr) hb4); have B4 := Lib.hid hk4; have q0 := below_cell hk4 r0; have q1 := below_cell hk4 r1; have q2 := below_cell hk4 r2; have q3 := below_cell hk4 r3; have q4 := below_cell hk4 k1; clear hb4 hk4))
          all_goals
            clear r0 r1 r2 r3 k1 q0 q1 q2 q3 q4
            go_wp2_with (fail)
            go_roundw
            case rel => exact ⟨k + 1, x, by omega, by go_num, by rw [if_neg (Int.not_lt.2 hvx)], HNx, Lib.hid (hb0to hb.out B4.out)⟩
            case measure => simp [intOf]; omega
      · obtain rfl : k = rs.length := by omega
        have HX := Lib.hid (show max 0 (mostS s) = x by rw [HM.out, ← hx.out, List.take_length])
        go_wp2_with (fail)
        go_ret
        exact ⟨by rw [HX.out]; rfl, hb0to HBW.out HBr.out⟩
set_option maxRecDepth 100000 in
set_option maxHeartbeats 4000000 in
theorem renough_any (L : SL) (s : Sea) (w : World) (hH : SeaAt w w.heap.size L s) : Calls Try.prog 91 #[L.enc s] w fun e w' => e = .returned (.int .i64 (enoughS s)) ∧ Below w.heap.size w w' := by
  have hbw := al_below w (.cells #[.int .i64 s.wl, .int .i64 s.wh, .slice L.Ap s.ps.length L.cp, .slice L.Ab s.bs.length L.cb] 27)
  have HB := Lib.hid (SBox.new w L s)
  obtain ⟨c0, c1, c2, c3⟩ := (SBox.new w L s).cells
  obtain ⟨W0, hW0⟩ : ∃ W0, w.alloc (.cells #[.int .i64 s.wl, .int .i64 s.wh, .slice L.Ap s.ps.length L.cp, .slice L.Ab s.bs.length L.cb] 27) = W0 := ⟨_, rfl⟩
  rw [hW0] at hbw HB c0 c1 c2 c3
  have HBW := Lib.hid hbw
  have HW0 := Lib.hid hW0
  have HH := Lib.hid (hH.below hbw)
  have HK := Lib.hid (rcheck_any L s W0 HH.out)
  rw [ckS_ask] at HK
  by_cases h0 : askS s true = 0
  · rw [h0] at HK
    by_cases h1 : s.bs.length < s.ps.length
    · have HQ := Lib.hid (show enoughS s = 3 by unfold enoughS; rw [if_neg (by simp [h0]), if_pos h1])
      clear hbw hW0 hH h0
      obtain ⟨Ap, cp, Ab, cb⟩ := L
      go_enter Try.func91, Try.ntmps91
      go_upto_region 1 with (fail)
      have e := HW0.out
      rw [e]
      clear e
      go_wp2_with (go_at_call 52; refine HK.out.mono ?_; rintro e w1 ⟨rfl, hb1⟩; have B1 := Lib.hid hb1; obtain ⟨r0, r1, r2, r3⟩ := (HB.out.of (hb1.block _ HB.out.lt)).cells; clear hb1)
      go_ret
      exact ⟨by rw [HQ.out]; rfl, hb0to HBW.out B1.out⟩
    · have HQ := Lib.hid (show enoughS s = 0 by unfold enoughS; rw [if_neg (by simp [h0]), if_neg h1])
      clear hbw hW0 hH h0
      obtain ⟨Ap, cp, Ab, cb⟩ := L
      go_enter Try.func91, Try.ntmps91
      go_upto_region 1 with (fail)
      have e := HW0.out
      rw [e]
      clear e
      go_wp2_with (go_at_call 52; refine HK.out.mono ?_; rintro e w1 ⟨rfl, hb1⟩; have B1 := Lib.hid hb1; obtain ⟨r0, r1, r2, r3⟩ := (HB.out.of (hb1.block _ HB.out.lt)).cells; clear hb1)
      go_ret
      exact ⟨by rw [HQ.out]; rfl, hb0to HBW.out B1.out⟩
  · have HQ := Lib.hid (show enoughS s = askS s true by unfold enoughS; rw [if_pos h0])
    have hd : (askS s true != 0) = true := by simp [h0]
    generalize askS s true = er at HK hd HQ
    clear hbw hW0 hH h0
    obtain ⟨Ap, cp, Ab, cb⟩ := L
    go_enter Try.func91, Try.ntmps91
    go_upto_region 1 with (fail)
    have e := HW0.out
    rw [e]
    clear e
    go_wp2_with (go_at_call 52; refine HK.out.mono ?_; rintro e w1 ⟨rfl, hb1⟩; have B1 := Lib.hid hb1; obtain ⟨r0, r1, r2, r3⟩ := (HB.out.of (hb1.block _ HB.out.lt)).cells; clear hb1)
    go_ret
    exact ⟨by rw [HQ.out]; rfl, hb0to HBW.out B1.out⟩
set_option maxRecDepth 100000 in
set_option maxHeartbeats 4000000 in
theorem rMost_any (L : SL) (s : Sea) (w : World) (hH : SeaAt w w.heap.size L s) : Calls Try.prog 58 #[L.enc s] w fun e w' => e = .returned (.tuple #[.int .i64 (mostRet s).1, .int .i64 (mostRet s).2]) ∧ Below w.heap.size w w' := by
  have hbw := al_below w (.cells #[.int .i64 s.wl, .int .i64 s.wh, .slice L.Ap s.ps.length L.cp, .slice L.Ab s.bs.length L.cb] 27)
  have HB := Lib.hid (SBox.new w L s)
  obtain ⟨c0, c1, c2, c3⟩ := (SBox.new w L s).cells
  obtain ⟨W0, hW0⟩ : ∃ W0, w.alloc (.cells #[.int .i64 s.wl, .int .i64 s.wh, .slice L.Ap s.ps.length L.cp, .slice L.Ab s.bs.length L.cb] 27) = W0 := ⟨_, rfl⟩
  rw [hW0] at hbw HB c0 c1 c2 c3
  have HBW := Lib.hid hbw
  have HW0 := Lib.hid hW0
  have HH := Lib.hid (hH.below hbw)
  have HK := Lib.hid (renough_any L s W0 HH.out)
  rcases most_cases s with ⟨er, h1, h2, h3⟩ | ⟨hv, h1, h2, h3, h4⟩
  · rw [h2] at HK
    rw [h3]
    clear hbw hW0 hH h2 h3
    obtain ⟨Ap, cp, Ab, cb⟩ := L
    go_enter Try.func58, Try.ntmps58
    go_upto_region 1 with (fail)
    have e := HW0.out
    rw [e]
    clear e
    go_wp2_with (go_at_call 91; refine HK.out.mono ?_; rintro e w1 ⟨rfl, hb1⟩; have B1 := Lib.hid hb1; obtain ⟨r0, r1, r2, r3⟩ := (HB.out.of (hb1.block _ HB.out.lt)).cells; clear hb1)
    go_ret2
    exact ⟨rfl, hb0to HBW.out B1.out⟩
  · have H92 := Lib.hid (fun W hW => rmost_any L s (SOK.ofValid hv) W hW)
    rw [h2] at HK
    rw [h4] at H92
    rw [h3]
    generalize mostS s = m at H92 ⊢
    clear hbw hW0 hH h2 h3 h4 hv h1
    obtain ⟨Ap, cp, Ab, cb⟩ := L
    go_enter Try.func58, Try.ntmps58
    go_upto_region 1 with (fail)
    have e := HW0.out
    rw [e]
    clear e
    go_wp2_with (first
      | (go_at_call 91; refine HK.out.mono ?_; rintro e w1 ⟨rfl, hb1⟩; have B1 := Lib.hid hb1; obtain ⟨r0, r1, r2, r3⟩ := (HB.out.of (hb1.block _ HB.out.lt)).cells; clear hb1)
      | (go_at_call 92; refine (H92.out w1 (HH.out.below B1.out)).mono ?_; rintro e w2 ⟨rfl, hb2⟩; have B2 := Lib.hid (hb0to B1.out hb2); clear hb2))
    go_ret2
    exact ⟨rfl, hb0to HBW.out B2.out⟩
end Go.Proofs.Ytgjpllmmpclgaaa
