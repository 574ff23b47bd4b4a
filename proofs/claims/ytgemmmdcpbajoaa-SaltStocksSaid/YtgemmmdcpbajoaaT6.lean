import Derived.Test.YtgemmmdcpbajoaaT5
namespace Go.Proofs.Ytgemmmdcpbajoaa
open Go.RowKit

set_option maxRecDepth 100000 in
set_option maxHeartbeats 4000000 in
theorem least1_any (L : HL) (h : House) (hf : 0 ≤ h.fl ∧ h.fl ≤ 9) (b : Nat) (l : List Cask) (hl : l.length = 5) (hok : ∀ (j : Nat) (c : Cask), l[j]? = some c → c.ok) (w : World) (hX : HBox w b L h) :
    Calls Try.prog 86 #[encCs l, .pointer (some ⟨b, 0, none⟩)] w fun e w' => e = .returned (.int .i64 (sumC (saltC h.fl) l 5)) ∧ Below w.heap.size w w' := by
  obtain ⟨g0, g1, g2, g3⟩ := hX.cells
  have hbl := hX.lt
  have hC0 : CasksAt (w.alloc (.cells (flatC l).toArray 81)) w.heap.size l := World.alloc_heap_new w _
  have HC := Lib.hid hC0
  have HO := Lib.hid hok
  clear hok hX hC0
  obtain ⟨fc, hfc⟩ : ∃ fc, fc = flatC l := ⟨_, rfl⟩
  have henc : encCs l = .agg fc.toArray := by rw [hfc]; rfl
  rw [← hfc] at HC
  rw [henc]
  have HE := Lib.hid henc
  clear hfc henc
  go_enter Try.func86, Try.ntmps86
  go_wp2_with (first
    | (refine wpl_load81 rfl (.tmp 2) rfl w.heap.size rfl l hl HC.out ?_)
    | (go_at_call 68; refine (saltAll_any L h hf l hl HO.out _).mono ?_; rintro e w' ⟨rfl, hb⟩))
  go_ret
  exact ⟨rfl, (((Below.refl _ _).alloc (Nat.le_refl _) _).trans (hb.mono (by simp)))⟩
theorem pack1_any (L : HL) (h : House) (hf : 0 ≤ h.fl ∧ h.fl ≤ 9) (b : Nat) (l : List Cask) (hl : l.length = 5) (hok : ∀ (j : Nat) (c : Cask), l[j]? = some c → c.ok) (w : World) (hX : HBox w b L h) :
    Calls Try.prog 87 #[encCs l, .pointer (some ⟨b, 0, none⟩)] w fun e w' => e = .returned (.int .i64 (sumC (saltC h.fl) l 5)) ∧ Below w.heap.size w w' := by
  obtain ⟨g0, g1, g2, g3⟩ := hX.cells
  have hbl := hX.lt
  have hC0 : CasksAt (w.alloc (.cells (flatC l).toArray 81)) w.heap.size l := World.alloc_heap_new w _
  have HC := Lib.hid hC0
  have HO := Lib.hid hok
  clear hok hX hC0
  obtain ⟨fc, hfc⟩ : ∃ fc, fc = flatC l := ⟨_, rfl⟩
  have henc : encCs l = .agg fc.toArray := by rw [hfc]; rfl
  rw [← hfc] at HC
  rw [henc]
  have HE := Lib.hid henc
  clear hfc henc
  go_enter Try.func87, Try.ntmps87
  go_wp2_with (first
    | (refine wpl_load81 rfl (.tmp 2) rfl w.heap.size rfl l hl HC.out ?_)
    | (go_at_call 68; refine (saltAll_any L h hf l hl HO.out _).mono ?_; rintro e w' ⟨rfl, hb⟩))
  go_ret
  exact ⟨rfl, (((Below.refl _ _).alloc (Nat.le_refl _) _).trans (hb.mono (by simp)))⟩
/-- Early's number of a cask. -/
def lateC (day : Int) (c : Cask) : Int := if c.d ≤ day then -c.p else 0
theorem lateC_bd {day : Int} {c : Cask} (hc : c.ok) : -10000 ≤ lateC day c ∧ lateC day c ≤ 0 := by
  have h0 := hc.p0
  have h1 := hc.p1
  unfold lateC; split <;> omega
theorem sumC_bd2 {f : Cask → Int} {l : List Cask} (h : ∀ j, j < l.length → -10000 ≤ f (caskOf l j) ∧ f (caskOf l j) ≤ 0) : ∀ k, k ≤ l.length → -10000 * (k : Int) ≤ sumC f l k ∧ sumC f l k ≤ 0
  | 0, _ => by simp [sumC]
  | k + 1, hk => by
    have := sumC_bd2 h k (by omega)
    have := h k (by omega)
    unfold sumC
    omega
set_option maxRecDepth 100000 in
set_option maxHeartbeats 4000000 in
theorem early1_any (day : Int) (b : Nat) (l : List Cask) (hl : l.length = 5) (hok : ∀ (j : Nat) (c : Cask), l[j]? = some c → c.ok) (w : World) (hX : w.cell? ⟨b, 0, none⟩ = some (.int .i64 day)) :
    Calls Try.prog 90 #[encCs l, .pointer (some ⟨b, 0, none⟩)] w fun e w' => e = .returned (.int .i64 (sumC (lateC day) l 5)) ∧ Below w.heap.size w w' := by
  have HB := Lib.hid (sumC_bd2 (f := lateC day) (l := l) fun j hj => lateC_bd (hok j _ (at_caskOf hj)))
  have HO := Lib.hid hok
  have hbl := cell_lt hX
  clear hok
  obtain ⟨fc, hfc⟩ : ∃ fc, fc = flatC l := ⟨_, rfl⟩
  have HF := Lib.hid hfc
  have henc : encCs l = .agg fc.toArray := by rw [hfc]; rfl
  have hC0 : CasksAt (w.alloc (.cells fc.toArray 81)) w.heap.size l := by rw [hfc]; exact World.alloc_heap_new w _
  rw [henc]
  have HE := Lib.hid henc
  clear hfc henc
  go_enter Try.func90, Try.ntmps90
  go_wp2_with (refine wpl_load81 rfl (.tmp 2) rfl w.heap.size rfl l hl hC0 ?_)
  go_loopw [4, 8] (fun s i wr => ∃ k : Nat, k ≤ 5 ∧ i = .int .i64 k ∧ s = .int .i64 (sumC (lateC day) l k) ∧ Below w.heap.size w wr) (fun _ i _ => 5 - (intOf i).toNat)
  case atStart => exact ⟨0, by omega, rfl, rfl, (Below.refl _ _).alloc (Nat.le_refl _) _⟩
  case round =>
    obtain ⟨k, hk, rfl, rfl, hb⟩ := hrel
    by_cases hlt : k < 5
    · have hix := index81 hl hlt
      have hbd := HB.out k (by omega)
      have hkl : k < l.length := by omega
      have hcok := HO.out k _ (at_caskOf hkl)
      have hp0 := hcok.p0
      have hp1 := hcok.p1
      have hsz := hb.size
      have hx2 := below_cell hb hX
      have hb1 : b < wr.heap.size := cell_lt hx2
      have hb2 : ¬ b = wr.heap.size := by omega
      by_cases hd : (caskOf l k).d ≤ day
      · have hdd : decide ((caskOf l k).d ≤ day) = true := by simpa using hd
        have hs : Hid (sumC (lateC day) l (k + 1) = sumC (lateC day) l k - (caskOf l k).p) := Lib.hid (by rw [sumC, lateC, if_pos hd]; omega)
        go_wp2
        go_roundw
        case rel => exact ⟨k + 1, by omega, by go_num, by rw [hs.out], hb.alloc hsz _⟩
        case measure => simp [intOf]; omega
      · have hdd : decide ((caskOf l k).d ≤ day) = false := by simpa using hd
        have hs : Hid (sumC (lateC day) l (k + 1) = sumC (lateC day) l k) := Lib.hid (by rw [sumC, lateC, if_neg hd]; omega)
        go_wp2
        go_roundw
        case rel => exact ⟨k + 1, by omega, by go_num, by rw [hs.out], hb.alloc hsz _⟩
        case measure => simp [intOf]; omega
    · obtain rfl : k = 5 := by omega
      go_wp2
      go_ret
      exact ⟨rfl, hb⟩
theorem choose_any (gf : Nat) (lb : Array Value) (eg : ∀ args w, (callFunc gf args).run Try.prog w = .ok (.enter gf args) w) (f : List Cask → Int) (L : HL) (h : House) (hn : h.ks.length ≤ 1000 ∧ h.ps.length ≤ 1000 ∧ h.bs.length ≤ 1000) (is : Bool) (w : World) (hH : HouseAt w w.heap.size L h)
    (hof : validH h = true → ∀ l W, l.length = 5 → (∀ (j : Nat) (c : Cask), l[j]? = some c → c.ok) → Below w.heap.size w W → Calls Try.prog gf (#[encCs l] ++ lb) W fun e w' => e = .returned (.int .i64 (f l)) ∧ Below W.heap.size W w') :
    Calls Try.prog 85 #[L.enc h, .bool is, .func (.func gf) #[] lb] w fun e w' => ChooseRet h is f w.heap.size w' e ∧ Below w.heap.size w w' := by
  cases hv : validH h
  · exact choose_no gf lb f L h hn is (.inl hv) w hH
  · cases is
    · exact choose_no gf lb f L h hn false (.inr rfl) w hH
    · exact choose_yes gf lb eg f L h hv w hH (hof hv)

/-- What is returned of a packing's number: the number alone, or the packing alone. -/
def numRet (h : House) (is : Bool) (f : List Cask → Int) : Int × Int :=
  if validH h = false then (0, 80) else if is = false then (0, 1) else match bestOf (fun p => f (packedC h p)) (packsL h) with
    | none => (0, 3)
    | some (_, m) => (m, 0)
theorem chooseRet_split {h : House} {is : Bool} {f : List Cask → Int} {B : Nat} {w' : World} {e : Ending} (hc : ChooseRet h is f B w' e) : ∃ best, e = .returned (.tuple #[best, .int .i64 (numRet h is f).1, .int .i64 (numRet h is f).2]) ∧
    ((∃ A n c, best = .slice A n c) ∧ ((numRet h is f).2 ≠ 0 → best = .slice none 0 0)) ∧ ∀ p m, validH h = true → is = true → bestOf (fun p => f (packedC h p)) (packsL h) = some (p, m) → ∃ pb, best = .slice (some ⟨pb, 0, none⟩) p.length p.length ∧ PackAt w' pb p ∧ B ≤ pb := by
  unfold ChooseRet at hc
  unfold numRet
  split at hc
  · rename_i hv
    exact ⟨_, by rw [if_pos hv]; exact hc, ⟨⟨_, _, _, rfl⟩, fun _ => rfl⟩, fun p m h1 => by rw [h1] at hv; cases hv⟩
  · rename_i hv
    rw [if_neg hv]
    split at hc
    · rename_i hi
      exact ⟨_, by rw [if_pos hi]; exact hc, ⟨⟨_, _, _, rfl⟩, fun _ => rfl⟩, fun p m _ h1 => by rw [h1] at hi; cases hi⟩
    · rename_i hi
      rw [if_neg hi]
      cases hb : bestOf (fun p => f (packedC h p)) (packsL h) with
      | none =>
        rw [hb] at hc
        exact ⟨_, hc, ⟨⟨_, _, _, rfl⟩, fun _ => rfl⟩, fun p m _ _ h1 => by cases h1⟩
      | some bm =>
        obtain ⟨p, m⟩ := bm
        rw [hb] at hc
        obtain ⟨pb, h1, h2, h3⟩ := hc
        exact ⟨_, h1, ⟨⟨_, _, _, rfl⟩, fun hh => (hh rfl).elim⟩, fun p' m' _ _ h4 => by cases h4; exact ⟨pb, rfl, h2, h3⟩⟩
set_option maxRecDepth 100000 in
set_option maxHeartbeats 4000000 in
theorem least_any (L : HL) (h : House) (hn : h.ks.length ≤ 1000 ∧ h.ps.length ≤ 1000 ∧ h.bs.length ≤ 1000) (w : World) (hH : HouseAt w w.heap.size L h) :
    Calls Try.prog 36 #[L.enc h] w fun e w' => e = .returned (.tuple #[.int .i64 (numRet h true fun l => sumC (saltC h.fl) l 5).1, .int .i64 (numRet h true fun l => sumC (saltC h.fl) l 5).2]) ∧ Below w.heap.size w w' := by
  have hX := HBox.new w L h
  have hb0 : Below w.heap.size w (w.alloc (.cells #[.slice L.Ak h.ks.length L.ck, .int .i64 h.fl, .slice L.Ap h.ps.length L.cp, .slice L.Ab h.bs.length L.cb] 26)) := (Below.refl _ _).alloc (Nat.le_refl _) _
  have HC := Lib.hid (choose_any 86 #[.pointer (some ⟨w.heap.size, 0, none⟩)] (fun _ _ => rfl) (fun l => sumC (saltC h.fl) l 5) L h hn true _ (hH.below hb0) (fun hv l W hl hok hb => least1_any L h ⟨(HOK.ofValid hv).f0, (HOK.ofValid hv).f1⟩ w.heap.size l hl hok W (hX.of (hb.block _ hX.lt))))
  have HB0 := Lib.hid hb0
  clear hb0 hX hH
  go_enter Try.func36, Try.ntmps36
  go_wp2_with (go_at_call 85; refine HC.out.mono ?_; rintro e w1 ⟨hc, hb1⟩; obtain ⟨best, rfl, -, -⟩ := chooseRet_split hc)
  go_ret2
  exact ⟨rfl, HB0.out.trans (hb1.mono HB0.out.size)⟩
end Go.Proofs.Ytgemmmdcpbajoaa
