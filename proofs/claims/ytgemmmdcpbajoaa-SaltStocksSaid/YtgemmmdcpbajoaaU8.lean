import Derived.Test.YtgemmmdcpbajoaaU7
namespace Go.Proofs.Ytgemmmdcpbajoaa
open Go.RowKit

/-! The specification's answers. -/
theorem packs_eq {h : House} (hv : HOK h) : packsL h = fitting h 0 := by
  unfold packsL fitting
  apply List.filter_congr
  intro p hp
  obtain ⟨h1, h2⟩ := mem_allS.1 hp
  exact fits_packed hv h1 (InRange.low (lo := 0) h2 (by omega)) (by have := hv.bl; omega)
def pksS (h : House) (is : Bool) : List (List Int) × Int := if askH h is ≠ 0 then ([], askH h is) else if packsL h = [] then ([], 3) else (packsL h, 0)
def PksRet (h : House) (is : Bool) (B : Nat) (w' : World) (e : Ending) : Prop :=
  ∃ A c, e = .returned (.tuple #[.slice A (pksS h is).1.length c, .int .i64 (pksS h is).2]) ∧ (A = none → c = 0 ∧ (pksS h is).1 = []) ∧ RowsIn w' B w'.heap.size A (pksS h is).1
theorem askH_ok {h : House} {is : Bool} (ha : askH h is = 0) : validH h = true ∧ is = true := by
  unfold askH at ha
  split at ha
  · cases ha
  · split at ha
    · cases ha
    · rename_i h1 h2; exact ⟨by simpa using h1, by simpa using h2⟩
theorem pksS_len {h : House} (is : Bool) : (pksS h is).1.length ≤ 15625 := by
  unfold pksS
  split
  · simp
  · rename_i h1
    split
    · simp
    · have hv := HOK.ofValid (askH_ok (by simpa using h1)).1
      simp only
      rw [packs_eq hv]
      have := listsR_bound hv (lo := 0) (by omega) h.ps.length [] (by simp)
      rwa [listsR_nil hv] at this
theorem intsIn_nil {W : World} {lo hi : Nat} {A : Option Addr} : IntsIn W lo hi A [] := .inl rfl
set_option maxRecDepth 100000 in
set_option maxHeartbeats 4000000 in
theorem rpackings_any (L : HL) (h : House) (hn : h.ks.length ≤ 1000 ∧ h.ps.length ≤ 1000 ∧ h.bs.length ≤ 1000) (is : Bool) (w : World) (hH : HouseAt w w.heap.size L h) :
    Calls Try.prog 88 #[L.enc h, .bool is] w fun e w' => PksRet h is w.heap.size w' e ∧ Below w.heap.size w w' := by
  have hbw := (Below.refl _ _).alloc (Nat.le_refl w.heap.size) (.cells #[.slice L.Ak h.ks.length L.ck, .int .i64 h.fl, .slice L.Ap h.ps.length L.cp, .slice L.Ab h.bs.length L.cb] 26)
  have HB := Lib.hid (HBox.new w L h)
  have HBW := Lib.hid hbw
  have HH := Lib.hid hH
  obtain ⟨e0, he⟩ : ∃ e0, e0 = askH h is := ⟨_, rfl⟩
  have HC := Lib.hid (by have := ask_any L h hn is _ (hH.below hbw); rwa [← he] at this)
  clear hbw hH
  by_cases h0 : e0 = 0
  · have hd : (e0 != 0) = false := by simp [h0]
    have hok := askH_ok (he.symm.trans h0)
    have HV := Lib.hid (HOK.ofValid hok.1)
    have ha0 : askH h is = 0 := he.symm.trans h0
    have HA0 := Lib.hid ha0
    have HL := Lib.hid (fun W (hW : Below w.heap.size w W) => lists_any L h HV.out 0 (by omega) h.ps.length [] 0 rfl (by omega) none 0 w.heap.size W (fun _ => ⟨rfl, rfl⟩) (HH.out.below hW) intsIn_nil hW.size)
    clear he h0 hok ha0
    by_cases hnil : packsL h = []
    · have hlen : Hid (listsR h 0 h.ps.length [] = []) := Lib.hid (by rw [listsR_nil HV.out, ← packs_eq HV.out]; exact hnil)
      have HN := Lib.hid hnil
      rw [hlen.out] at HL
      clear hnil
      go_enter Try.func88, Try.ntmps88
      go_wp2_with (first
        | (go_at_call 69; refine HC.out.mono ?_; rintro e w1 ⟨rfl, hb1⟩; obtain ⟨g0, g1, g2, g3⟩ := (HB.out.of (hb1.block _ HB.out.lt)).cells)
        | (go_at_call 70; refine (HL.out _ (hb0to HBW.out hb1)).mono ?_; rintro e w2 ⟨⟨A2, c2, rfl, hA2, hR2⟩, hb2⟩))
      go_ret2
      have hp : pksS h is = ([], 3) := by rw [pksS, if_neg (by rw [HA0.out]; decide), if_pos HN.out]
      exact ⟨⟨none, 0, by rw [hp]; rfl, fun _ => ⟨rfl, by rw [hp]⟩, by rw [hp]; exact .inl rfl⟩, hb0to HBW.out (hb0to hb1 hb2)⟩
    · have hlen : listsR h 0 h.ps.length [] = packsL h := by rw [listsR_nil HV.out, ← packs_eq HV.out]
      rw [hlen] at HL
      have hpos : 0 < (packsL h).length := List.length_pos_iff.2 hnil
      have hd2 : (((packsL h).length : Int) == 0) = false := beq_eq_false_iff_ne.2 (by omega)
      have HN := Lib.hid hnil
      clear hnil hlen
      go_enter Try.func88, Try.ntmps88
      go_wp2_with (first
        | (go_at_call 69; refine HC.out.mono ?_; rintro e w1 ⟨rfl, hb1⟩; obtain ⟨g0, g1, g2, g3⟩ := (HB.out.of (hb1.block _ HB.out.lt)).cells)
        | (go_at_call 70; refine (HL.out _ (hb0to HBW.out hb1)).mono ?_; rintro e w2 ⟨⟨A2, c2, rfl, hA2, hR2⟩, hb2⟩))
      go_ret2
      have hp : pksS h is = (packsL h, 0) := by rw [pksS, if_neg (by rw [HA0.out]; decide), if_neg HN.out]
      exact ⟨⟨A2, c2, by rw [hp]; rfl, fun e => by rw [hp]; exact hA2 e, by rw [hp]; exact hR2⟩, hb0to HBW.out (hb0to hb1 hb2)⟩
  · have hd : (e0 != 0) = true := by simp [h0]
    have hp : Hid (pksS h is = ([], e0)) := Lib.hid (by rw [pksS, ← he, if_pos h0])
    clear he h0
    go_enter Try.func88, Try.ntmps88
    go_wp2_with (go_at_call 69; refine HC.out.mono ?_; rintro e w1 ⟨rfl, hb1⟩)
    go_ret2
    exact ⟨⟨none, 0, by rw [hp.out]; rfl, fun _ => ⟨rfl, by rw [hp.out]⟩, by rw [hp.out]; exact .inl rfl⟩, hb0to HBW.out hb1⟩
end Go.Proofs.Ytgemmmdcpbajoaa
