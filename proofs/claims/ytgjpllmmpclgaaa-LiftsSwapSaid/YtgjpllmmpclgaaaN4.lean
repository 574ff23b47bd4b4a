import Derived.Test.YtgjpllmmpclgaaaN3
namespace Go.Proofs.Ytgjpllmmpclgaaa
open Go.RowKit

/-! The specification's Crew 42, Cheap 41. -/
theorem ckS_ask (s : Sea) : ckS s = askS s true := by
  unfold ckS askS
  cases validS s <;> rfl
/-- The cheapest crew among the first k. -/
def bestO (s : Sea) (l : List (List Int)) (k : Nat) : Option (List Int × Int) := cheapL (safeC s) (costS s) (l.take k)
def bestL (s : Sea) (l : List (List Int)) (k : Nat) : List Int := match bestO s l k with | none => [] | some (q, _) => q
theorem bestO_next {s : Sea} {l : List (List Int)} {k : Nat} {c : List Int} (h : l[k]? = some c) : bestO s l (k + 1) = cheapStep (safeC s) (costS s) (bestO s l k) c := by
  unfold bestO; rw [List.take_add_one, h]; exact cheapL_snoc _ _ _ _
theorem bestO_in {s : Sea} {l : List (List Int)} {k : Nat} {q : List Int} {n : Int} (h : bestO s l k = some (q, n)) : q ∈ l ∧ n = costS s q := by
  obtain ⟨h1, _, h3, _⟩ := cheapL_some _ _ _ h
  exact ⟨List.mem_of_mem_take h1, h3⟩
theorem bestL_none {s : Sea} {l : List (List Int)} {k : Nat} (h : bestO s l k = none) : bestL s l k = [] := by unfold bestL; rw [h]
theorem bestL_some {s : Sea} {l : List (List Int)} {k : Nat} {q : List Int} {n : Int} (h : bestO s l k = some (q, n)) : bestL s l k = q := by unfold bestL; rw [h]
theorem bestL_cases {s : Sea} {l : List (List Int)} (hl : ∀ c ∈ l, c ≠ []) (k : Nat) : (bestO s l k = none ∧ bestL s l k = []) ∨ (bestL s l k ≠ [] ∧ bestL s l k ∈ l ∧ bestO s l k = some (bestL s l k, costS s (bestL s l k))) := by
  cases h : bestO s l k with
  | none => exact .inl ⟨rfl, bestL_none h⟩
  | some p =>
    obtain ⟨q, n⟩ := p
    obtain ⟨h1, h2⟩ := bestO_in h
    rw [bestL_some h]
    exact .inr ⟨hl q h1, h1, by rw [h2]⟩
theorem bestL_no {s : Sea} {l : List (List Int)} {k : Nat} {c : List Int} (h : l[k]? = some c) (hc : safeC s c = false) : bestL s l (k + 1) = bestL s l k := by
  unfold bestL; rw [bestO_next h]; unfold cheapStep; rw [if_neg (by simp [hc])]
theorem bestL_first {s : Sea} {l : List (List Int)} {k : Nat} {c : List Int} (h : l[k]? = some c) (hc : safeC s c = true) (hb : bestO s l k = none) : bestL s l (k + 1) = c := by
  unfold bestL; rw [bestO_next h]; unfold cheapStep; rw [if_pos hc, hb]
theorem bestL_yes {s : Sea} {l : List (List Int)} {k : Nat} {c q : List Int} (h : l[k]? = some c) (hc : safeC s c = true) (hb : bestO s l k = some (q, costS s q)) (hlt : costS s c < costS s q) : bestL s l (k + 1) = c := by
  unfold bestL; rw [bestO_next h]; unfold cheapStep; rw [if_pos hc, hb]; simp only; rw [if_pos hlt]
theorem bestL_keep {s : Sea} {l : List (List Int)} {k : Nat} {c q : List Int} (h : l[k]? = some c) (hc : safeC s c = true) (hb : bestO s l k = some (q, costS s q)) (hlt : ¬ costS s c < costS s q) : bestL s l (k + 1) = q := by
  unfold bestL; rw [bestO_next h]; unfold cheapStep; rw [if_pos hc, hb]; simp only; rw [if_neg hlt]
def crewEnd (q : List Int) : List Int × Int := if q = [] then ([], 3) else (q, 0)
theorem crewEnd_nil : crewEnd [] = ([], 3) := if_pos rfl
theorem crewEnd_some {q : List Int} (h : q ≠ []) : crewEnd q = (q, 0) := if_neg h
theorem crewRet_end {s : Sea} (h : askS s true = 0) (hl : ∀ c ∈ crewsR s.bs.length s.ps.length [], c ≠ []) : crewRet s = crewEnd (bestL s (crewsR s.bs.length s.ps.length []) (crewsR s.bs.length s.ps.length []).length) := by
  have e : bestO s (crewsR s.bs.length s.ps.length []) (crewsR s.bs.length s.ps.length []).length = cheapS s := by unfold bestO cheapS; rw [List.take_length]
  unfold crewRet
  rw [if_neg (by simp [h])]
  rcases bestL_cases hl (crewsR s.bs.length s.ps.length []).length with ⟨h1, h2⟩ | ⟨h1, h2, h3⟩
  · rw [h2, crewEnd_nil, ← e, h1]
  · rw [crewEnd_some h1, ← e, h3]
def SliceAt (W : World) (B : Nat) (v : Value) (q : List Int) : Prop := ∃ A c, v = .slice A q.length c ∧ IntsFrom W B A q
theorem IntsFrom.later {W W' : World} {B : Nat} {A : Option Addr} {l : List Int} (h : IntsFrom W B A l) (hb : Below W.heap.size W W') : IntsFrom W' B A l := h.below hb
theorem ints_in_from {W : World} {B lo : Nat} {A : Option Addr} {l : List Int} (h : IntsIn W lo W.heap.size A l) (hl : l ≠ []) (hB : B ≤ lo) : IntsFrom W B A l := by
  rcases h with h | ⟨b, off, e, h1, h2, h3⟩
  · exact absurd h hl
  · exact .inr ⟨b, off, e, by omega, h2, h3⟩
set_option maxRecDepth 100000 in
set_option maxHeartbeats 4000000 in
theorem rcrew_any (L : SL) (s : Sea) (w : World) (hH : SeaAt w w.heap.size L s) : Calls Try.prog 42 #[L.enc s] w fun e w' => ListRet w.heap.size w' e (crewRet s) ∧ Below w.heap.size w w' := by
  have hbw := al_below w (.cells #[.int .i64 s.wl, .int .i64 s.wh, .slice L.Ap s.ps.length L.cp, .slice L.Ab s.bs.length L.cb] 27)
  have HB := Lib.hid (SBox.new w L s)
  obtain ⟨c0, c1, c2, c3⟩ := (SBox.new w L s).cells
  obtain ⟨W0, hW0⟩ : ∃ W0, w.alloc (.cells #[.int .i64 s.wl, .int .i64 s.wh, .slice L.Ap s.ps.length L.cp, .slice L.Ab s.bs.length L.cb] 27) = W0 := ⟨_, rfl⟩
  rw [hW0] at hbw HB c0 c1 c2 c3
  have HBW := Lib.hid hbw
  have HW0 := Lib.hid hW0
  have HH := Lib.hid (hH.below hbw)
  have HK := Lib.hid (rcheck_any L s W0 HH.out)
  rw [ckS_ask] at HK
  by_cases h0 : askS s true = 0
  · rw [h0] at HK
    have hS := SOK.ofValid (askS_ok h0).1
    have hpl := hS.pl
    have hbl := hS.bl
    have hps : s.ps ≠ [] := fun h => by
      have h12 := hS.hi
      rw [h] at h12
      simp [sumH] at h12
    have hp0 : 0 < s.ps.length := List.length_pos_iff.2 hps
    have HC := Lib.hid (fun W hW => rcrews_any L s hS s.ps.length [] 0 rfl (by omega) none 0 W0.heap.size W (fun _ => ⟨rfl, rfl⟩) hW (.inl rfl))
    have HN := Lib.hid (fun W hW => rneeds_any L s hS W hW)
    have HNe := Lib.hid (fun (c : List Int) (hc : c ∈ crewsR s.bs.length s.ps.length []) => show c ≠ [] by
      intro h
      have h1 := (mem_crews.1 hc).1
      rw [h] at h1
      simp at h1
      omega)
    have HR := Lib.hid (crewRet_end h0 HNe.out)
    have HM := Lib.hid (fun (c : List Int) (hc : c ∈ crewsR s.bs.length s.ps.length []) => mem_crews.1 hc)
    have hsm := crewsR_small (n := s.ps.length) hbl hpl []
    have HF := Lib.hid (fun (c : List Int) (hc : c ∈ crewsR s.bs.length s.ps.length []) A cv cw W hW hI B hJ => show Calls Try.prog 29 #[L.enc s, .slice A c.length cv, .slice B s.ps.length cw] W fun e w' => e = .returned (.bool (safeC s c)) ∧ Below W.heap.size W w' by
      have hm := mem_crews.1 hc
      have := rFits_any L s hS c (needsL s) A B cv cw (by have := hm.1; omega) (by rw [needsL_len]; have := hm.1; omega) (by rw [needsL_len]; omega) hm.2.1 W hW hI hJ
      rwa [needsL_len, fits_safe hm.1] at this)
    have HCo := Lib.hid (fun (c : List Int) (hc : c ∈ crewsR s.bs.length s.ps.length []) A cv W hW hI => show Calls Try.prog 35 #[L.enc s, .slice A c.length cv] W fun e w' => e = .returned (.int .i64 (costS s c)) ∧ Below W.heap.size W w' by
      have hm := mem_crews.1 hc
      exact rCost_any L s hS c A cv (by have := hm.1; omega) hm.2.1 W hW hI)
    rw [HR.out]
    clear hbw hW0 hH hS hps h0
    generalize crewsR s.bs.length s.ps.length [] = rs at HC HNe HM hsm HF HCo HR
    obtain ⟨Ap, cp, Ab, cb⟩ := L
    go_enter Try.func42, Try.ntmps42
    go_upto_region 1 with (fail)
    have e := HW0.out
    rw [e]
    clear e
    go_upto_region 5 with (go_at_call 52; refine HK.out.mono ?_; rintro e w1 ⟨rfl, hb1⟩; have B1 := Lib.hid hb1; obtain ⟨r0, r1, r2, r3⟩ := (HB.out.of (hb1.block _ HB.out.lt)).cells; clear hb1)
    clear c0 c1 c2 c3
    go_region_held3 (fun w' => w'.cell? ⟨w.heap.size, 0, none⟩ = some (.int .i64 s.wl) ∧ w'.cell? ⟨w.heap.size, 1, none⟩ = some (.int .i64 s.wh) ∧ w'.cell? ⟨w.heap.size, 2, none⟩ = some (.slice Ap s.ps.length cp) ∧ w'.cell? ⟨w.heap.size, 3, none⟩ = some (.slice Ab s.bs.length cb)) (first | go_keep)
      (first
        | (go_at_call 80; refine (HC.out w1.drew (HH.out.below (hb0to B1.out (drew_below _))) (hb0to B1.out (drew_below _)).size).mono ?_; rintro e w2 ⟨⟨Ar, cr, rfl, hAr, hR⟩, hb2⟩; have B2 := Lib.hid (hb0to (hb0to B1.out (drew_below _)) hb2); have HRr := Lib.hid hR; obtain ⟨t0, t1, t2, t3⟩ := (HB.out.of (B2.out.block _ HB.out.lt)).cells; clear hb2 hAr hR)
        | (go_at_call 81; refine (HN.out w2 (HH.out.below B2.out)).mono ?_; rintro e w3 ⟨⟨An, cn, rfl, hIn⟩, hb3⟩; have B3 := Lib.hid (hb0to B2.out hb3); have HR3 := Lib.hid (HRr.out.below hb3 (Nat.le_refl _)); have HI3 := Lib.hid hIn; have hsz3 := hb3.size; obtain ⟨u0, u1, u2, u3⟩ := (HB.out.of (B3.out.block _ HB.out.lt)).cells; clear hb3 hIn))
    all_goals
      go_upto_region 6 with (fail)
      clear t0 t1 t2 t3 r0 r1 r2 r3 u0 u1 u2 u3
      go_wp2_with (fail)
      go_loopw [5, 8] (fun v i wr => ∃ k : Nat, k ≤ rs.length ∧ i = .int .i64 k ∧ Hid (SliceAt wr w.heap.size v (bestL s rs k)) ∧ Hid (Below w3.heap.size w3 wr)) (fun _ i _ => rs.length - (intOf i).toNat)
      case atStart => exact ⟨0, Nat.zero_le _, rfl, Lib.hid ⟨none, 0, rfl, .inl ⟨rfl, rfl⟩⟩, Lib.hid (Below.refl _ _)⟩
      case round =>
        obtain ⟨k, hk, rfl, hv, hb⟩ := hrel
        obtain ⟨Aq, cq, rfl, hq⟩ := hv.out
        have HBr := Lib.hid (hb0to B3.out hb.out)
        have HQ := Lib.hid hq
        clear hq
        obtain ⟨r0, r1, r2, r3⟩ := (HB.out.of (HBr.out.block _ HB.out.lt)).cells
        by_cases hlt : k < rs.length
        · obtain ⟨c, hc⟩ : ∃ c, rs[k]? = some c := ⟨_, List.getElem?_eq_getElem hlt⟩
          have HCM := Lib.hid (List.mem_of_getElem? hc)
          have HCK := Lib.hid hc
          obtain ⟨b, off, A', c', eA, hbl, k1, _, k2⟩ := (HR3.out.below hb.out hsz3).at_ hc
          have hszr := hb.out.size
          have K2 := Lib.hid (k2.keep (hi' := wr.heap.size) (Nat.le_refl _) (by omega) (fun _ _ _ _ => rfl))
          have hk0 : off + k = off + k := rfl
          subst eA
          clear hc k2 hk0
          have hcases := bestL_cases (s := s) HNe.out k
          have HNo := Lib.hid (bestL_no (s := s) HCK.out)
          have HFi := Lib.hid (bestL_first (s := s) HCK.out)
          have HYe := Lib.hid (fun q => bestL_yes (s := s) (q := q) HCK.out)
          have HKe := Lib.hid (fun q => bestL_keep (s := s) (q := q) HCK.out)
          have HF1 := Lib.hid (fun z => HF.out c HCM.out A' c' cn (extB wr z) (HH.out.below (hb0to HBr.out (extB_below wr z))) (ints_later K2.out.at_ (extB_below wr z)) An (ints_later (HI3.out.below hb.out).ints (extB_below wr z)))
          have e0 := extB_cell r0
          have e1 := extB_cell r1
          have e2 := extB_cell r2
          have e3 := extB_cell r3
          have f1 := extB_cell k1
          cases hsf : safeC s c
          · rw [hsf] at HF1
            have HNx := Lib.hid (HNo.out hsf)
            clear hsf hcases
            as_aux_lemma =>
            go_upto_region 9 with (fail)
            refine wp_region_extW (by kernel_rfl) (by kernel_rfl) ?_
            repeat (go_big_quiet_step ((go_at_call 29; exact ext_call (HF1.out _))))
            refine wpQuiet_nil ?_
            rintro _ ⟨y1, rfl⟩
            have hb3 := Lib.hid (hb0to hb.out (extB_below wr y1))
            have HQ3 := Lib.hid (HQ.out.below (extB_below wr y1))
            clear e0 e1 e2 e3 f1 r0 r1 r2 r3 k1
            go_wp2_with (fail)
            go_roundw
            case rel => exact ⟨k + 1, by omega, by go_num, Lib.hid (by rw [HNx.out]; exact ⟨Aq, cq, rfl, HQ3.out⟩), hb3⟩
            case measure => simp [intOf]; omega
          · rw [hsf] at HF1
            have HS1 := Lib.hid hsf
            clear hsf
            rcases hcases with ⟨hn, hq⟩ | ⟨hq, hqm, hbo⟩
            · have HNx := Lib.hid (HFi.out HS1.out hn)
              rw [hq] at HQ ⊢
              clear hn hq
              as_aux_lemma =>
              go_upto_region 9 with (fail)
              refine wp_region_extW (by kernel_rfl) (by kernel_rfl) ?_
              repeat (go_big_quiet_step ((go_at_call 29; exact ext_call (HF1.out _))))
              refine wpQuiet_nil ?_
              rintro _ ⟨y1, rfl⟩
              have hb3 := Lib.hid (hb0to hb.out (extB_below wr y1))
              have hk3 := f1 y1
              have HQ3 := Lib.hid (ints_in_from (K2.out.keep (hi' := (extB wr y1).heap.size) (Nat.le_refl _) (extB_below wr y1).size (fun b o _ hlt => (extB_below wr y1).cell (p := ⟨b, o, none⟩) hlt)) (HNe.out c HCM.out) HBW.out.size)
              clear e0 e1 e2 e3 f1 r0 r1 r2 r3 k1
              go_wp2_with (fail)
              go_roundw
              case rel => exact ⟨k + 1, by omega, by go_num, Lib.hid (by rw [HNx.out]; exact ⟨A', c', rfl, HQ3.out⟩), hb3⟩
              case measure => simp [intOf]; omega
            · generalize hqq : bestL s rs k = q at hq hqm hbo HQ ⊢
              have hqd : ((q.length : Int) == 0) = false := beq_eq_false_iff_ne.2 (by have := List.length_pos_iff.2 hq; omega)
              have G1 : Hid ((A' = A' ∧ c = c) ∧ (c ∈ rs ∧ IntsAt wr wr.heap.size A' c)) := Lib.hid ⟨⟨rfl, rfl⟩, HCM.out, K2.out.at_⟩
              have G2 : Hid ((Aq = Aq ∧ q = q) ∧ (q ∈ rs ∧ IntsAt wr wr.heap.size Aq q)) := Lib.hid ⟨⟨rfl, rfl⟩, hqm, HQ.out.ints⟩
              have HCC := Lib.hid (fun (A : Option Addr) (l : List Int) (h : (A = A ∧ l = l) ∧ (l ∈ rs ∧ IntsAt wr wr.heap.size A l)) cv z => HCo.out l h.2.1 A cv (extB wr z) (HH.out.below (hb0to HBr.out (extB_below wr z))) (ints_later h.2.2 (extB_below wr z)))
              have HNx := Lib.hid (HYe.out q HS1.out hbo)
              have HNk := Lib.hid (HKe.out q HS1.out hbo)
              clear hqm hbo hq hqq
              by_cases hcc : costS s c < costS s q
              · have hdl : decide (costS s c < costS s q) = true := decide_eq_true hcc
                have HNy := Lib.hid (HNx.out hcc)
                clear hcc
                as_aux_lemma =>
                go_upto_region 9 with (fail)
                refine wp_region_extW (by kernel_rfl) (by kernel_rfl) ?_
                repeat (go_big_quiet_step (first
                  | (go_at_call 29; exact ext_call (HF1.out _))
                  | (go_at_call 35; exact ext_call (HCC.out _ _ (by first | exact G1.out | exact G2.out) _ _))))
                refine wpQuiet_nil ?_
                rintro _ ⟨y1, rfl⟩
                have hb3 := Lib.hid (hb0to hb.out (extB_below wr y1))
                have hk3 := f1 y1
                have HQ3 := Lib.hid (ints_in_from (K2.out.keep (hi' := (extB wr y1).heap.size) (Nat.le_refl _) (extB_below wr y1).size (fun b o _ hlt => (extB_below wr y1).cell (p := ⟨b, o, none⟩) hlt)) (HNe.out c HCM.out) HBW.out.size)
                clear e0 e1 e2 e3 f1 r0 r1 r2 r3 k1
                go_wp2_with (fail)
                go_roundw
                case rel => exact ⟨k + 1, by omega, by go_num, Lib.hid (by rw [HNy.out]; exact ⟨A', c', rfl, HQ3.out⟩), hb3⟩
                case measure => simp [intOf]; omega
              · have hdl : decide (costS s c < costS s q) = false := decide_eq_false hcc
                have HNy := Lib.hid (HNk.out hcc)
                clear hcc
                as_aux_lemma =>
                go_upto_region 9 with (fail)
                refine wp_region_extW (by kernel_rfl) (by kernel_rfl) ?_
                repeat (go_big_quiet_step (first
                  | (go_at_call 29; exact ext_call (HF1.out _))
                  | (go_at_call 35; exact ext_call (HCC.out _ _ (by first | exact G1.out | exact G2.out) _ _))))
                refine wpQuiet_nil ?_
                rintro _ ⟨y1, rfl⟩
                have hb3 := Lib.hid (hb0to hb.out (extB_below wr y1))
                have HQ3 := Lib.hid (HQ.out.below (extB_below wr y1))
                clear e0 e1 e2 e3 f1 r0 r1 r2 r3 k1
                go_wp2_with (fail)
                go_roundw
                case rel => exact ⟨k + 1, by omega, by go_num, Lib.hid (by rw [HNy.out]; exact ⟨Aq, cq, rfl, HQ3.out⟩), hb3⟩
                case measure => simp [intOf]; omega
        · obtain rfl : k = rs.length := by omega
          have HBE := Lib.hid (hb0to HBW.out HBr.out)
          obtain ⟨q, hqe⟩ : ∃ q, q = bestL s rs rs.length := ⟨_, rfl⟩
          rw [← hqe] at HQ ⊢
          have HQE := Lib.hid hqe
          clear hv hqe
          by_cases hq : q = []
          · have HE := Lib.hid (show crewEnd (bestL s rs rs.length) = ([], 3) by rw [← HQE.out, hq]; exact crewEnd_nil)
            subst hq
            go_wp2_with (fail)
            go_ret2
            exact ⟨by rw [HE.out]; exact listRet_nil, HBE.out⟩
          · have hqd : ((q.length : Int) == 0) = false := beq_eq_false_iff_ne.2 (by have := List.length_pos_iff.2 hq; omega)
            have HE := Lib.hid (show crewEnd (bestL s rs rs.length) = (q, 0) by rw [← HQE.out]; exact crewEnd_some hq)
            clear hq
            go_wp2_with (fail)
            go_ret2
            exact ⟨by rw [HE.out]; exact ⟨Aq, cq, rfl, HQ.out⟩, HBE.out⟩
  · have HR := Lib.hid (show crewRet s = ([], askS s true) by unfold crewRet; rw [if_pos h0])
    have hd : (askS s true != 0) = true := by simp [h0]
    rw [HR.out]
    generalize askS s true = er at HK hd
    clear hbw hW0 hH h0
    obtain ⟨Ap, cp, Ab, cb⟩ := L
    go_enter Try.func42, Try.ntmps42
    go_upto_region 1 with (fail)
    have e := HW0.out
    rw [e]
    clear e
    go_wp2_with (go_at_call 52; refine HK.out.mono ?_; rintro e w1 ⟨rfl, hb1⟩; have B1 := Lib.hid hb1; clear hb1)
    go_ret2
    exact ⟨listRet_nil, hb0to HBW.out B1.out⟩
theorem crew_cheap (s : Sea) : (∃ er, (er != 0) = true ∧ crewRet s = ([], er) ∧ cheapRet s = (0, er)) ∨ (∃ c, askS s true = 0 ∧ CrewOf s.bs.length s.ps.length c ∧ crewRet s = (c, 0) ∧ cheapRet s = (costS s c, 0)) := by
  unfold crewRet cheapRet
  by_cases h : askS s true = 0
  · rw [if_neg (by simp [h]), if_neg (by simp [h])]
    cases hc : cheapS s with
    | none => exact .inl ⟨3, rfl, rfl, rfl⟩
    | some p =>
      obtain ⟨c, n⟩ := p
      obtain ⟨h1, _, h3, _⟩ := cheapL_some _ _ _ hc
      exact .inr ⟨c, h, mem_crews.1 h1, rfl, by rw [h3]⟩
  · rw [if_pos h, if_pos h]
    exact .inl ⟨_, by simp [h], rfl, rfl⟩
set_option maxRecDepth 100000 in
set_option maxHeartbeats 4000000 in
theorem rcheap_any (L : SL) (s : Sea) (w : World) (hH : SeaAt w w.heap.size L s) : Calls Try.prog 41 #[L.enc s] w fun e w' => e = .returned (.tuple #[.int .i64 (cheapRet s).1, .int .i64 (cheapRet s).2]) ∧ Below w.heap.size w w' := by
  have hbw := al_below w (.cells #[.int .i64 s.wl, .int .i64 s.wh, .slice L.Ap s.ps.length L.cp, .slice L.Ab s.bs.length L.cb] 27)
  have HB := Lib.hid (SBox.new w L s)
  obtain ⟨c0, c1, c2, c3⟩ := (SBox.new w L s).cells
  obtain ⟨W0, hW0⟩ : ∃ W0, w.alloc (.cells #[.int .i64 s.wl, .int .i64 s.wh, .slice L.Ap s.ps.length L.cp, .slice L.Ab s.bs.length L.cb] 27) = W0 := ⟨_, rfl⟩
  rw [hW0] at hbw HB c0 c1 c2 c3
  have HBW := Lib.hid hbw
  have HW0 := Lib.hid hW0
  have HH := Lib.hid (hH.below hbw)
  have HC := Lib.hid (rcrew_any L s W0 HH.out)
  rcases crew_cheap s with ⟨er, h1, h2, h3⟩ | ⟨c, h0, h1, h2, h3⟩
  · rw [h2] at HC
    rw [h3]
    clear hbw hW0 hH h2 h3
    obtain ⟨Ap, cp, Ab, cb⟩ := L
    go_enter Try.func41, Try.ntmps41
    go_upto_region 1 with (fail)
    have e := HW0.out
    rw [e]
    clear e
    go_wp2_with (go_at_call 42; refine HC.out.mono ?_; rintro e w1 ⟨⟨A, cv, rfl, hI⟩, hb1⟩; have B1 := Lib.hid hb1; clear hb1 hI)
    go_ret2
    exact ⟨rfl, hb0to HBW.out B1.out⟩
  · have hS := SOK.ofValid (askS_ok h0).1
    have hpl := hS.pl
    have H35 := Lib.hid (fun A cv W hW hI => rCost_any L s hS c A cv (by have := h1.1; omega) h1.2.1 W hW hI)
    rw [h2] at HC
    rw [h3]
    clear hbw hW0 hH h2 h3 hS h0 h1
    obtain ⟨Ap, cp, Ab, cb⟩ := L
    go_enter Try.func41, Try.ntmps41
    go_upto_region 1 with (fail)
    have e := HW0.out
    rw [e]
    clear e
    go_wp2_with (first
      | (go_at_call 42; refine HC.out.mono ?_; rintro e w1 ⟨⟨A, cv, rfl, hI⟩, hb1⟩; have B1 := Lib.hid hb1; have I1 := Lib.hid hI; obtain ⟨r0, r1, r2, r3⟩ := (HB.out.of (hb1.block _ HB.out.lt)).cells; clear hb1 hI)
      | (go_at_call 35; refine (H35.out A cv w1 (HH.out.below B1.out) I1.out.ints).mono ?_; rintro e w2 ⟨rfl, hb2⟩; have B2 := Lib.hid (hb0to B1.out hb2); clear hb2))
    go_ret2
    exact ⟨rfl, hb0to HBW.out B2.out⟩
end Go.Proofs.Ytgjpllmmpclgaaa
