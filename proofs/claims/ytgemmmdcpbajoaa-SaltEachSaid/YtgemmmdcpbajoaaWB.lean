import Derived.Test.YtgemmmdcpbajoaaVK
import Derived.Test.YtgemmmdcpbajoaaVG
namespace Go.Proofs.Ytgemmmdcpbajoaa
open Go.RowKit

/-! SaltEach: the plain law. -/
theorem mem_someTo {P : Nat → List Int → Bool} {l : List (List Int)} {n b : Nat} : (b : Int) ∈ someTo P l n ↔ b < n ∧ l.any (P b) = true := by
  unfold someTo
  rw [List.mem_map]
  constructor
  · rintro ⟨a, ha, e⟩
    obtain rfl : a = b := by omega
    obtain ⟨h1, h2⟩ := List.mem_filter.1 ha
    exact ⟨List.mem_range.1 h1, h2⟩
  · rintro ⟨h1, h2⟩
    exact ⟨b, List.mem_filter.2 ⟨List.mem_range.2 h1, h2⟩, rfl⟩
theorem someTo_rise (P : Nat → List Int → Bool) (l : List (List Int)) (n : Nat) : riseB (someTo P l n) n = true := by
  refine riseB_of (fun i hi => ?_) ?_
  · unfold someTo at hi
    obtain ⟨a, ha, rfl⟩ := List.mem_map.1 hi
    have := List.mem_range.1 (List.mem_filter.1 ha).1
    omega
  · unfold someTo
    rw [List.pairwise_map]
    refine (List.Pairwise.filter _ List.pairwise_lt_range).imp fun h => ?_
    omega
theorem pounds_all {h : House} {p : List Int} (hp : p ∈ packsL h) : sumB (·.p) h p h.bs.length = allP h h.ps.length := by
  obtain ⟨l1, l2⟩ := mem_packsL hp
  rw [← laid_pounds (InRange.low (lo := 0) l2 (by omega)), ← l1]
  exact laidTo_all (nb := h.bs.length) l2 p.length (Nat.le_refl _)
theorem early_le {h : House} (hv : HOK h) {p : List Int} (hp : p ∈ packsL h) (d : Int) : earlyF d h p ≤ allP h h.ps.length := by
  rw [← pounds_all hp]
  refine sumB_mono (fun b => ?_) _
  have := (inOf_ok hv (by have := (mem_packsL hp).1; omega : p.length ≤ h.ps.length) (b : Int)).p0
  unfold earlyC
  split <;> omega
theorem sumB_sumN (f : Cask → Int) (h : House) (p : List Int) (n : Nat) : sumB f h p n = sumN (fun b => f (caskIn h (inOf p (b : Int)))) n := sumB_N f h p n
/-- What a packing has to do with the answers. -/
structure EachP (h : House) (pack : List Int) (day : Int) (m n ev : Int) (pl : List Int) : Prop where
  least : leastS h = (m, 0)
  few : fewS h = (n, 0)
  pk : packS h = (pl, 0)
  early : earlyS h day = (ev, 0)
  good : goodB h pl = true
  m0 : packF h pl = m
  m1 : m ≤ packF h pack
  n1 : n ≤ usedF h pack
  e1 : earlyF day h pack ≤ ev
  e2 : ev ≤ allP h h.ps.length
theorem each_plain {h : House} (hv : validH h = true) {pack : List Int} (hg : goodB h pack = true) {day : Int} (hd : inR day 0 20 = true) : ∃ m n ev pl, EachP h pack day m n ev pl := by
  have hV := HOK.ofValid hv
  have hp : pack ∈ packsL h := by rw [packs_eq hV]; exact (goodB_fit hV).1 hg
  have hne : packsL h ≠ [] := List.ne_nil_of_mem hp
  obtain ⟨pl, m, hb, e1, h1, h2, h3⟩ := least_yes hv hne
  obtain ⟨q, n, _, e2, _, _, h5⟩ := few_yes hv hne
  refine ⟨m, n, _, pl, e1, e2, ?_, early_yes hv hd hne, ?_, h2.symm, h3 pack hp, h5 pack hp, foldMax_ge.2 pack hp, ?_⟩
  · unfold packS; rw [if_neg (by simp [hv]), hb]
  · rw [goodB_fit hV, ← packs_eq hV]; exact h1
  · rcases foldMax_at (f := earlyF day h) (i := 0) (l := packsL h) with h6 | ⟨p, hp, h6⟩
    · rw [h6]; exact (allP_in hV h.ps.length (Nat.le_refl _)).1
    · rw [h6]; exact early_le hV hp day
theorem spare_yes {h : House} (hv : validH h = true) (hne : packsL h ≠ []) : rSpareS h = (someTo spareP (packsL h) h.bs.length, 0) := by
  refine rSpareS_yes ?_
  unfold pksS askH
  simp [hv, hne]
theorem where_yes {h : House} (hv : validH h = true) (hne : packsL h ≠ []) {i : Nat} (hi : i < h.ps.length) : rWhereS h i = (someTo (whereP i) (packsL h) h.bs.length, 0) := by
  unfold rWhereS
  rw [pks_err]
  have : inR (i : Int) 0 (h.ps.length - 1) = true := inR_true.2 (by omega)
  simp [hv, hne, this]
/-- A part is in a barrel of Where. -/
theorem where_mem {h : House} {pack : List Int} (hp : pack ∈ packsL h) {i : Nat} {x : Int} (hx : pack[i]? = some x) : x ∈ someTo (whereP i) (packsL h) h.bs.length := by
  have h1 := (mem_packsL hp).2 x (List.mem_of_getElem? hx)
  obtain ⟨b, rfl⟩ : ∃ b : Nat, x = b := ⟨x.toNat, by omega⟩
  rw [mem_someTo, List.any_eq_true]
  refine ⟨by omega, pack, hp, ?_⟩
  unfold whereP
  rw [List.getD_eq_getElem?_getD, hx]
  simp
/-- What is in a barrel of a packing. -/
theorem each_barrel {h : House} (hv : validH h = true) {pack : List Int} (hg : goodB h pack = true) {b : Nat} (hb : b < h.bs.length) :
    barrelRet h pack b = ((caskIn h (inOf pack b)).p, saltC h.fl (caskIn h (inOf pack b)), (caskIn h (inOf pack b)).d, 0) ∧ 0 ≤ (caskIn h (inOf pack b)).p ∧ (caskIn h (inOf pack b)).p ≤ 10000 ∧ 0 ≤ saltC h.fl (caskIn h (inOf pack b)) ∧ saltC h.fl (caskIn h (inOf pack b)) ≤ 10000 ∧
    (caskIn h (inOf pack b)).p + saltC h.fl (caskIn h (inOf pack b)) ≤ h.bs.getD b 0 ∧ (inOf pack b = [] → (caskIn h (inOf pack b)).p = 0 ∧ saltC h.fl (caskIn h (inOf pack b)) = 0 ∧ (caskIn h (inOf pack b)).d = 0 ∧ (b : Int) ∈ someTo spareP (packsL h) h.bs.length) ∧ 0 ≤ (caskIn h (inOf pack b)).d ∧ (caskIn h (inOf pack b)).d ≤ 20 := by
  have hV := HOK.ofValid hv
  have hf := (goodB_fit hV).1 hg
  have hp : pack ∈ packsL h := by rw [packs_eq hV]; exact hf
  obtain ⟨h1, h2, h3⟩ := mem_fitting hf
  have hbl := hV.bl
  have hok := inOf_ok hV (by omega : pack.length ≤ h.ps.length) (b : Int)
  have hs := saltC_bd hok ⟨hV.f0, hV.f1⟩
  refine ⟨?_, hok.p0, hok.p1, hs.1, hs.2, fitsR_true.1 h3 b hb, fun e => ?_, hok.d0, hok.d1⟩
  · unfold barrelRet
    have : inR (b : Int) 0 (h.bs.length - 1) = true := inR_true.2 (by omega)
    rw [if_neg (by simp [hv]), if_neg (by simp [hg, this]), Int.toNat_natCast, caskOf_packed h1 (InRange.low (lo := 0) h2 (by omega)) (by omega) (by omega)]
  · rw [e]
    refine ⟨rfl, by simp [saltC, caskIn, c0], rfl, ?_⟩
    rw [mem_someTo, List.any_eq_true]
    exact ⟨hb, pack, hp, by unfold spareP; rw [e]; rfl⟩
end Go.Proofs.Ytgemmmdcpbajoaa
