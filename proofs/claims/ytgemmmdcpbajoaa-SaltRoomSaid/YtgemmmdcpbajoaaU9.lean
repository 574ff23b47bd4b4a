import Derived.Test.YtgemmmdcpbajoaaU7
namespace Go.Proofs.Ytgemmmdcpbajoaa
open Go.RowKit

/-! The specification's answers. -/
theorem packs_eq {h : House} (hv : HOK h) : packsL h = fitting h 0 := by
  unfold packsL fitting
  apply List.filter_congr
  intro p hp
  obtain ⟨h1, h2⟩ := mem_allS.1 hp
  exact fits_packed hv h1 (InRange.low (lo := 0) h2 (by omega)) (by have := hv.bl; omega)
def pksS (h : House) (is : Bool) : List (List Int) × Int := if askH h is ≠ 0 then ([], askH h is) else if packsL h = [] then ([], 3) else (packsL h, 0)
def PksRet (h : House) (is : Bool) (B : Nat) (w' : World) (e : Ending) : Prop :=
  ∃ A c, e = .returned (.tuple #[.slice A (pksS h is).1.length c, .int .i64 (pksS h is).2]) ∧ (A = none → c = 0 ∧ (pksS h is).1 = []) ∧ RowsIn w' B w'.heap.size A (pksS h is).1
theorem askH_ok {h : House} {is : Bool} (ha : askH h is = 0) : validH h = true ∧ is = true := by
  unfold askH at ha
  split at ha
  · cases ha
  · split at ha
    · cases ha
    · rename_i h1 h2; exact ⟨by simpa using h1, by simpa using h2⟩
theorem pksS_len {h : House} (is : Bool) : (pksS h is).1.length ≤ 15625 := by
  unfold pksS
  split
  · simp
  · rename_i h1
    split
    · simp
    · have hv := HOK.ofValid (askH_ok (by simpa using h1)).1
      simp only
      rw [packs_eq hv]
      have := listsR_bound hv (lo := 0) (by omega) h.ps.length [] (by simp)
      rwa [listsR_nil hv] at this
theorem intsIn_nil {W : World} {lo hi : Nat} {A : Option Addr} : IntsIn W lo hi A [] := .inl rfl
set_option maxRecDepth 100000 in
set_option maxHeartbeats 4000000 in
theorem rpackings_any (L : HL) (h : House) (hn : h.ks.length ≤ 1000 ∧ h.ps.length ≤ 1000 ∧ h.bs.length ≤ 1000) (is : Bool) (w : World) (hH : HouseAt w w.heap.size L h) :
    Calls Try.prog 88 #[L.enc h, .bool is] w fun e w' => PksRet h is w.heap.size w' e ∧ Below w.heap.size w w' := by
  have hbw := (Below.refl _ _).alloc (Nat.le_refl w.heap.size) (.cells #[.slice L.Ak h.ks.length L.ck, .int .i64 h.fl, .slice L.Ap h.ps.length L.cp, .slice L.Ab h.bs.length L.cb] 26)
  have HB := Lib.hid (HBox.new w L h)
  have HBW := Lib.hid hbw
  have HH := Lib.hid hH
  obtain ⟨e0, he⟩ : ∃ e0, e0 = askH h is := ⟨_, rfl⟩
  have HC := Lib.hid (by have := ask_any L h hn is _ (hH.below hbw); rwa [← he] at this)
  clear hbw hH
  by_cases h0 : e0 = 0
  · have hd : (e0 != 0) = false := by simp [h0]
    have hok := askH_ok (he.symm.trans h0)
    have HV := Lib.hid (HOK.ofValid hok.1)
    have ha0 : askH h is = 0 := he.symm.trans h0
    have HA0 := Lib.hid ha0
    have HL := Lib.hid (fun W (hW : Below w.heap.size w W) => lists_any L h HV.out 0 (by omega) h.ps.length [] 0 rfl (by omega) none 0 w.heap.size W (fun _ => ⟨rfl, rfl⟩) (HH.out.below hW) intsIn_nil hW.size)
    clear he h0 hok ha0
    by_cases hnil : packsL h = []
    · have hlen : Hid (listsR h 0 h.ps.length [] = []) := Lib.hid (by rw [listsR_nil HV.out, ← packs_eq HV.out]; exact hnil)
      have HN := Lib.hid hnil
      rw [hlen.out] at HL
      clear hnil
      go_enter Try.func88, Try.ntmps88
      go_wp2_with (first
        | (go_at_call 69; refine HC.out.mono ?_; rintro e w1 ⟨rfl, hb1⟩; obtain ⟨g0, g1, g2, g3⟩ := (HB.out.of (hb1.block _ HB.out.lt)).cells)
        | (go_at_call 70; refine (HL.out _ (hb0to HBW.out hb1)).mono ?_; rintro e w2 ⟨⟨A2, c2, rfl, hA2, hR2⟩, hb2⟩))
      go_ret2
      have hp : pksS h is = ([], 3) := by rw [pksS, if_neg (by rw [HA0.out]; decide), if_pos HN.out]
      exact ⟨⟨none, 0, by rw [hp]; rfl, fun _ => ⟨rfl, by rw [hp]⟩, by rw [hp]; exact .inl rfl⟩, hb0to HBW.out (hb0to hb1 hb2)⟩
    · have hlen : listsR h 0 h.ps.length [] = packsL h := by rw [listsR_nil HV.out, ← packs_eq HV.out]
      rw [hlen] at HL
      have hpos : 0 < (packsL h).length := List.length_pos_iff.2 hnil
      have hd2 : (((packsL h).length : Int) == 0) = false := beq_eq_false_iff_ne.2 (by omega)
      have HN := Lib.hid hnil
      clear hnil hlen
      go_enter Try.func88, Try.ntmps88
      go_wp2_with (first
        | (go_at_call 69; refine HC.out.mono ?_; rintro e w1 ⟨rfl, hb1⟩; obtain ⟨g0, g1, g2, g3⟩ := (HB.out.of (hb1.block _ HB.out.lt)).cells)
        | (go_at_call 70; refine (HL.out _ (hb0to HBW.out hb1)).mono ?_; rintro e w2 ⟨⟨A2, c2, rfl, hA2, hR2⟩, hb2⟩))
      go_ret2
      have hp : pksS h is = (packsL h, 0) := by rw [pksS, if_neg (by rw [HA0.out]; decide), if_neg HN.out]
      exact ⟨⟨A2, c2, by rw [hp]; rfl, fun e => by rw [hp]; exact hA2 e, by rw [hp]; exact hR2⟩, hb0to HBW.out (hb0to hb1 hb2)⟩
  · have hd : (e0 != 0) = true := by simp [h0]
    have hp : Hid (pksS h is = ([], e0)) := Lib.hid (by rw [pksS, ← he, if_pos h0])
    clear he h0
    go_enter Try.func88, Try.ntmps88
    go_wp2_with (go_at_call 69; refine HC.out.mono ?_; rintro e w1 ⟨rfl, hb1⟩)
    go_ret2
    exact ⟨⟨none, 0, by rw [hp.out]; rfl, fun _ => ⟨rfl, by rw [hp.out]⟩, by rw [hp.out]; exact .inl rfl⟩, hb0to HBW.out hb1⟩
end Go.Proofs.Ytgemmmdcpbajoaa
namespace Go.Proofs.Ytgemmmdcpbajoaa
open Go.RowKit

theorem bestOf_congr {f g : List Int → Int} {l : List (List Int)} (h : ∀ p ∈ l, f p = g p) : bestOf f l = bestOf g l := by
  revert h
  refine snoc_ind (P := fun l => (∀ p ∈ l, f p = g p) → bestOf f l = bestOf g l) (fun _ => rfl) (fun l x ih h => ?_) l
  rw [bestOf_snoc, bestOf_snoc, ih fun p hp => h p (by simp [hp])]
  have hx := h x (by simp)
  unfold stepB
  cases bestOf g l with
  | none => simp only [hx]
  | some bm => simp only [hx]
/-- The best of the first k (of the first one, at the start). -/
def bestTo (f : List Int → Int) (l : List (List Int)) (k : Nat) : Option (List Int × Int) := bestOf f (l.take (max 1 k))
theorem bestTo_zero {f : List Int → Int} {l : List (List Int)} {p : List Int} (h : l[0]? = some p) : bestTo f l 0 = some (p, f p) := by
  match l, h with
  | q :: l, h =>
    simp only [List.getElem?_cons_zero, Option.some.injEq] at h
    subst h
    simp [bestTo, bestOf, stepB]
theorem bestTo_step {f : List Int → Int} {l : List (List Int)} {k : Nat} {p q : List Int} (hq : l[k]? = some q) (h : bestTo f l k = some (p, f p)) : bestTo f l (k + 1) = if f q < f p then some (q, f q) else some (p, f p) := by
  rcases Nat.eq_zero_or_pos k with rfl | hk
  · have h2 := bestTo_zero (f := f) hq
    rw [h] at h2
    obtain ⟨rfl, -⟩ := Prod.mk.inj (Option.some.inj h2)
    rw [if_neg (by omega)]
    exact h
  · have h1 : bestOf f (l.take k) = some (p, f p) := by have := h; unfold bestTo at this; rwa [show max 1 k = k by omega] at this
    unfold bestTo
    rw [show max 1 (k + 1) = k + 1 by omega, ← take_snoc_next hq, bestOf_snoc, h1]
    rfl
theorem bestTo_all {f : List Int → Int} {l : List (List Int)} (hl : 0 < l.length) : bestTo f l l.length = bestOf f l := by
  unfold bestTo
  rw [show max 1 l.length = l.length by omega, List.take_length]
/-- What Pack returns. -/
def packF (h : House) : List Int → Int := fun p => sumB (saltC h.fl) h p h.bs.length
theorem packF_eq {h : House} (hv : HOK h) : ∀ p ∈ packsL h, sumC (saltC h.fl) (packedC h p) 5 = packF h p := fun p hp => by
  obtain ⟨h1, h2⟩ := mem_packsL hp
  exact sumC_packed (by simp [saltC, c0]) h1 (InRange.low (lo := 0) h2 (by omega)) (by have := hv.bl; omega)
def packS (h : House) : List Int × Int := if validH h = false then ([], 80) else match bestOf (packF h) (packsL h) with
  | none => ([], 3)
  | some (p, _) => (p, 0)
/-- A list and an error. -/
def LRet (r : List Int × Int) (B : Nat) (w' : World) (e : Ending) : Prop := ∃ A c, e = .returned (.tuple #[.slice A r.1.length c, .int .i64 r.2]) ∧ (A = none → c = 0 ∧ r.1 = []) ∧ IntsIn w' B w'.heap.size A r.1
theorem pksS_cases {h : House} (is : Bool) : ((pksS h is).2 ≠ 0 ∧ (pksS h is).1 = [] ∧ ((pksS h is).2 = askH h is ∨ (askH h is = 0 ∧ packsL h = [] ∧ (pksS h is).2 = 3))) ∨ (askH h is = 0 ∧ packsL h ≠ [] ∧ pksS h is = (packsL h, 0)) := by
  unfold pksS
  split
  · rename_i h1; exact .inl ⟨h1, rfl, .inl rfl⟩
  · rename_i h1
    have h1 : askH h is = 0 := by simpa using h1
    split
    · rename_i h2; exact .inl ⟨by decide, rfl, .inr ⟨h1, h2, rfl⟩⟩
    · rename_i h2; exact .inr ⟨h1, h2, rfl⟩
theorem packS_no {h : House} (hp : (pksS h true).2 ≠ 0) : packS h = ([], (pksS h true).2) := by
  rcases pksS_cases (h := h) true with ⟨_, _, h2 | ⟨h2, h3, h4⟩⟩ | ⟨_, _, h2⟩
  · rw [h2] at hp ⊢
    unfold askH at hp ⊢
    unfold packS
    split
    · rfl
    · rename_i hv; rw [if_neg hv] at hp; exact (hp (by simp)).elim
  · have hv := (askH_ok h2).1
    rw [packS, if_neg (by rw [hv]; decide), h3, h4]
    rfl
  · rw [h2] at hp; exact (hp rfl).elim
theorem packS_yes {h : House} {p : List Int} {m : Int} (ha : askH h true = 0) (hb : bestOf (packF h) (packsL h) = some (p, m)) : packS h = (p, 0) := by
  rw [packS, if_neg (by rw [(askH_ok ha).1]; decide), hb]
theorem PksRet.to {h : House} {is : Bool} {B : Nat} {w' : World} {e : Ending} (H : PksRet h is B w' e) {rs : List (List Int)} {x : Int} (hp : pksS h is = (rs, x)) : ∃ A c, e = .returned (.tuple #[.slice A rs.length c, .int .i64 x]) ∧ (A = none → c = 0 ∧ rs = []) ∧ RowsIn w' B w'.heap.size A rs := by
  unfold PksRet at H
  rw [hp] at H
  exact H
set_option maxRecDepth 100000 in
set_option maxHeartbeats 4000000 in
theorem rPack_any (L : HL) (h : House) (hn : h.ks.length ≤ 1000 ∧ h.ps.length ≤ 1000 ∧ h.bs.length ≤ 1000) (w : World) (hH : HouseAt w w.heap.size L h) :
    Calls Try.prog 39 #[L.enc h] w fun e w' => LRet (packS h) w.heap.size w' e ∧ Below w.heap.size w w' := by
  have hbw := (Below.refl _ _).alloc (Nat.le_refl w.heap.size) (.cells #[.slice L.Ak h.ks.length L.ck, .int .i64 h.fl, .slice L.Ap h.ps.length L.cp, .slice L.Ab h.bs.length L.cb] 26)
  have HB := Lib.hid (HBox.new w L h)
  have HBW := Lib.hid hbw
  have HH := Lib.hid hH
  have HC := Lib.hid (rpackings_any L h hn true _ (hH.below hbw))
  clear hbw hH
  rcases pksS_cases (h := h) true with ⟨h0, h1, _⟩ | ⟨ha, hne, hp⟩
  · have HP := Lib.hid (packS_no h0)
    obtain ⟨e0, he⟩ : ∃ e0, e0 = (pksS h true).2 := ⟨_, rfl⟩
    have H1 : Hid (pksS h true = ([], e0)) := Lib.hid (by rw [← h1, he])
    rw [← he] at h0 HP
    have hd : (e0 != 0) = true := by simp [h0]
    clear h0 h1 he
    go_enter Try.func39, Try.ntmps39
    go_wp2_with (go_at_call 88; refine HC.out.mono ?_; rintro e w1 ⟨hq, hb1⟩; obtain ⟨A1, c1, rfl, hA1, hR1⟩ := hq.to H1.out)
    go_ret2
    exact ⟨⟨none, 0, by rw [HP.out]; rfl, fun _ => ⟨rfl, by rw [HP.out]⟩, by rw [HP.out]; exact .inl rfl⟩, hb0to HBW.out hb1⟩
  · have HA := Lib.hid ha
    have HP := Lib.hid hp
    have hv := HOK.ofValid (askH_ok ha).1
    have hpos : 0 < (packsL h).length := List.length_pos_iff.2 hne
    have hbound : (packsL h).length ≤ 15625 := by have := pksS_len (h := h) true; rwa [hp] at this
    obtain ⟨p0, hp0⟩ : ∃ p0, (packsL h)[0]? = some p0 := ⟨_, List.getElem?_eq_getElem hpos⟩
    have HV := Lib.hid hv
    have H0 := Lib.hid hp0
    have hbl4 := hv.bl
    have hf0 := hv.f0
    have hf1 := hv.f1
    clear ha hp hv hne hp0
    go_enter Try.func39, Try.ntmps39
    go_wp2_with (go_at_call 88; refine HC.out.mono ?_; rintro e w1 ⟨hq, hb1⟩; obtain ⟨A1, c1, rfl, hA1, hR1⟩ := hq.to HP.out; obtain ⟨b1, o1, A2, c2, rfl, hlt1, hc0, hA2, hI2⟩ := hR1.at_ H0.out; simp only [Nat.add_zero] at hc0; have HR1 := Lib.hid hR1; clear hR1 hq)
    have hbq := hb0to HBW.out hb1
    have hB1 := HB.out.of (hb1.block _ HB.out.lt)
    go_loopw [6, 7] (fun v i wr => ∃ (k : Nat) (p : List Int) (Ab : Option Addr) (cb : Nat), k ≤ (packsL h).length ∧ i = .int .i64 k ∧ v = .slice Ab p.length cb ∧ (Ab = none → cb = 0 ∧ p = []) ∧ IntsIn wr w.heap.size wr.heap.size Ab p ∧ Hid (bestTo (packF h) (packsL h) k = some (p, packF h p)) ∧ Hid (p ∈ packsL h) ∧ Below w1.heap.size w1 wr) (fun _ i _ => (packsL h).length - (intOf i).toNat)
    case atStart => exact ⟨0, p0, A2, c2, Nat.zero_le _, rfl, rfl, hA2, hI2.keep (by have := HBW.out.size; omega) (Nat.le_refl _) (fun _ _ _ _ => rfl), Lib.hid (bestTo_zero H0.out), Lib.hid (List.mem_of_getElem? H0.out), Below.refl _ _⟩
    case round =>
      obtain ⟨k, p, Ab, cb, hk, rfl, rfl, hAb, hIp, hbest, hmem, hb⟩ := hrel
      have hB' := hB1.of (hb.block _ hB1.lt)
      obtain ⟨g0, g1, g2, g3⟩ := hB'.cells
      have hb2 := hb0to hbq hb
      by_cases hlt : k < (packsL h).length
      · obtain ⟨q, hq⟩ : ∃ q, (packsL h)[k]? = some q := ⟨_, List.getElem?_eq_getElem hlt⟩
        obtain ⟨b1', o1', A3, c3, e3, _, hc3, hA3, hI3⟩ := HR1.out.at_ hq
        cases e3
        have hqm := List.mem_of_getElem? hq
        have hql := (mem_packsL hqm).1
        have hpl := (mem_packsL hmem.out).1
        have hst := bestTo_step hq hbest.out
        have HST := Lib.hid hst
        have HQM := Lib.hid hqm
        have hI3' := hI3.below hb (Nat.le_refl _)
        have hI3w : IntsAt wr wr.heap.size A3 q := hI3'.at_.keep hb.size (fun _ _ _ => rfl)
        have e0 := extB_cell g0
        have e1 := extB_cell g1
        have e2 := extB_cell g2
        have e3 := extB_cell g3
        have e5 := extB_cell (below_cell hb hc3)
        have hki : (k : Int) < (packsL h).length := by omega
        have hk0 : (0 : Int) ≤ (k : Int) := by omega
        have HQ := Lib.hid (fun x => by have := allSalt_any L h HV.out q (by omega) A3 c3 (extB wr x) (extB_house (HH.out.below hb2) (Nat.le_refl _)) (ints_later hI3w (extB_below wr x)); exact this)
        have HPP := Lib.hid (fun x => by have := allSalt_any L h HV.out p (by omega) Ab cb (extB wr x) (extB_house (HH.out.below hb2) (Nat.le_refl _)) (ints_later hIp.at_ (extB_below wr x)); exact this)
        have hfq : packF h q = sumB (saltC h.fl) h q h.bs.length := rfl
        have hfp : packF h p = sumB (saltC h.fl) h p h.bs.length := rfl
        have HFQ := Lib.hid hfq
        have HFP := Lib.hid hfp
        clear hq hqm hql hpl hst hc3 hfq hfp
        by_cases hless : sumB (saltC h.fl) h q h.bs.length < sumB (saltC h.fl) h p h.bs.length
        · have hdl : decide (sumB (saltC h.fl) h q h.bs.length < sumB (saltC h.fl) h p h.bs.length) = true := by simpa using hless
          have hs2 : Hid (bestTo (packF h) (packsL h) (k + 1) = some (q, packF h q)) := Lib.hid (by rw [HST.out, if_pos (by rw [HFQ.out, HFP.out]; exact hless)])
          clear hless
          go_wp2
          refine wp_region_extW (by kernel_rfl) (by kernel_rfl) ?_
          repeat (go_big_quiet_step (first
            | (go_at_call 58; with_reducible exact ext_call (HQ.out _))
            | (go_at_call 58; with_reducible exact ext_call (HPP.out _))))
          refine wpQuiet_nil ?_
          rintro _ ⟨x1, rfl⟩
          have hb3 := extB_below wr x1
          have e6 := e5 x1
          clear e0 e1 e2 e3 e5
          go_wp2
          go_roundw
          case rel => exact ⟨k + 1, q, A3, c3, by omega, by go_num, rfl, hA3, (hI3'.below hb3 hb.size).keep (by have := HBW.out.size; omega) (Nat.le_trans hb.size hb3.size) (fun _ _ _ _ => rfl), hs2, HQM, hb0to hb hb3⟩
          case measure => simp [intOf]; omega
        · have hdl : decide (sumB (saltC h.fl) h q h.bs.length < sumB (saltC h.fl) h p h.bs.length) = false := by simpa using hless
          have hs2 : Hid (bestTo (packF h) (packsL h) (k + 1) = some (p, packF h p)) := Lib.hid (by rw [HST.out, if_neg (by rw [HFQ.out, HFP.out]; exact hless)])
          clear hless
          go_wp2
          refine wp_region_extW (by kernel_rfl) (by kernel_rfl) ?_
          repeat (go_big_quiet_step (first
            | (go_at_call 58; with_reducible exact ext_call (HQ.out _))
            | (go_at_call 58; with_reducible exact ext_call (HPP.out _))))
          refine wpQuiet_nil ?_
          rintro _ ⟨x1, rfl⟩
          have hb3 := extB_below wr x1
          clear e0 e1 e2 e3 e5
          go_wp2
          go_roundw
          case rel => exact ⟨k + 1, p, Ab, cb, by omega, by go_num, rfl, hAb, hIp.keep (Nat.le_refl _) hb3.size (fun b o _ hlt => hb3.cell (p := ⟨b, o, none⟩) hlt), hs2, hmem, hb0to hb hb3⟩
          case measure => simp [intOf]; omega
      · obtain rfl : k = (packsL h).length := by omega
        have HB2 := Lib.hid (packS_yes HA.out (by rw [← bestTo_all hpos]; exact hbest.out))
        go_wp2
        go_ret2
        exact ⟨⟨Ab, cb, by rw [HB2.out]; rfl, fun e => by rw [HB2.out]; exact hAb e, by rw [HB2.out]; exact hIp⟩, hb2⟩
end Go.Proofs.Ytgemmmdcpbajoaa
