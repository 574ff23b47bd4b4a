import Derived.Test.YtgemmmdcpbajoaaVM
import Derived.Test.YtgemmmdcpbajoaaV8
namespace Go.Proofs.Ytgemmmdcpbajoaa
open Go.RowKit

/-! Two houses: where each list of one has a list of the other. -/
theorem isB_ne {h : House} : isB h = true ↔ packsL h ≠ [] := by simp [isB]
theorem isB_mono {h o : House} (H : ∀ p ∈ packsL h, ∃ q, q ∈ packsL o) (hi : isB h = true) : isB o = true := by
  rw [isB_ne] at hi ⊢
  obtain ⟨p, hp⟩ := List.exists_mem_of_ne_nil _ hi
  obtain ⟨q, hq⟩ := H p hp
  exact List.ne_nil_of_mem hq
theorem least_mono {h o : House} (hv : validH h = true) (ho : validH o = true) (H : ∀ p ∈ packsL h, ∃ q ∈ packsL o, packF o q ≤ packF h p) (hi : isB h = true) : (leastS o).1 ≤ (leastS h).1 := by
  have hj := isB_mono (fun p hp => (H p hp).imp fun q hq => hq.1) hi
  obtain ⟨p, m, _, e1, h1, e2, _⟩ := least_yes hv (isB_ne.1 hi)
  obtain ⟨q, k, _, e3, _, _, h4⟩ := least_yes ho (isB_ne.1 hj)
  obtain ⟨x, hx, h5⟩ := H p h1
  have := h4 x hx
  rw [e1, e3]
  show k ≤ m
  omega
theorem few_mono {h o : House} (hv : validH h = true) (ho : validH o = true) (H : ∀ p ∈ packsL h, ∃ q ∈ packsL o, usedF o q ≤ usedF h p) (hi : isB h = true) : (fewS o).1 ≤ (fewS h).1 := by
  have hj := isB_mono (fun p hp => (H p hp).imp fun q hq => hq.1) hi
  obtain ⟨p, m, _, e1, h1, e2, _⟩ := few_yes hv (isB_ne.1 hi)
  obtain ⟨q, k, _, e3, _, _, h4⟩ := few_yes ho (isB_ne.1 hj)
  obtain ⟨x, hx, h5⟩ := H p h1
  have := h4 x hx
  rw [e1, e3]
  show k ≤ m
  omega
theorem foldMax_le {f g : List Int → Int} {l r : List (List Int)} (H : ∀ p ∈ l, ∃ q ∈ r, f p ≤ g q) : foldMax f 0 l ≤ foldMax g 0 r := by
  rcases foldMax_at (f := f) (i := 0) (l := l) with h1 | ⟨p, hp, h1⟩
  · rw [h1]; exact foldMax_ge.1
  · obtain ⟨q, hq, h2⟩ := H p hp
    have := (foldMax_ge (f := g) (i := 0) (l := r)).2 q hq
    omega
theorem early_err {h : House} (hv : validH h = true) (d : Int) : (earlyS h d).2 = if inR d 0 20 = false then 1 else if isB h = false then 3 else 0 := by
  unfold earlyS
  rw [pks_err]
  by_cases hd : inR d 0 20 = false
  · simp [hv, hd]
  · by_cases hp : packsL h = []
    · simp [hv, hd, hp, isB]
    · simp [hv, hd, hp, isB]
theorem early_mono {h o : House} (hv : validH h = true) (ho : validH o = true) {d : Int} (hd : inR d 0 20 = true) (H : ∀ p ∈ packsL h, ∃ q ∈ packsL o, earlyF d h p ≤ earlyF d o q) (hi : isB h = true) : (earlyS h d).2 = 0 ∧ (earlyS o d).2 = 0 ∧ (earlyS h d).1 ≤ (earlyS o d).1 := by
  have hj := isB_mono (fun p hp => (H p hp).imp fun q hq => hq.1) hi
  rw [early_yes hv hd (isB_ne.1 hi), early_yes ho hd (isB_ne.1 hj)]
  exact ⟨rfl, rfl, foldMax_le H⟩
theorem stock_yes {h : House} (hv : validH h = true) {m : Int} (hm : inR m 0 999 = true) : rStockS h m = (foldMax (laidF h) 0 (stockM h m), 0) := by
  unfold rStockS askH
  rw [← rStockL_max]
  simp [hv, hm]
theorem stock_no {h : House} (hv : validH h = true) {m : Int} (hm : inR m 0 999 = false) : rStockS h m = (0, 1) := by
  unfold rStockS askH
  simp [hv, hm]
theorem stock_mono {h o : House} (hv : validH h = true) (ho : validH o = true) {m : Int} (hm : inR m 0 999 = true) (H : ∀ p ∈ fitting h (-1), ∃ q ∈ fitting o (-1), packF o q ≤ packF h p ∧ laidF h p ≤ laidF o q) : (rStockS h m).2 = 0 ∧ (rStockS o m).2 = 0 ∧ (rStockS h m).1 ≤ (rStockS o m).1 := by
  rw [stock_yes hv hm, stock_yes ho hm]
  refine ⟨rfl, rfl, foldMax_le fun p hp => ?_⟩
  obtain ⟨h1, h2⟩ := List.mem_filter.1 hp
  obtain ⟨q, hq, h3, h4⟩ := H p h1
  have h2 : packF h p ≤ m := by simpa using h2
  exact ⟨q, List.mem_filter.2 ⟨hq, by simp; omega⟩, h4⟩
theorem buy_full {h : House} (hv : validH h = true) (hb : h.bs.length = 4) : buyRet h = if isB h = true then (0, 0) else (0, 2) := by
  unfold buyRet
  by_cases hp : packsL h = []
  · simp [hv, hp, hb, isB]
  · simp [hv, hp, isB]
theorem buy_mono {h o : House} (hv : validH h = true) (ho : validH o = true) (hb : o.bs.length = h.bs.length) (H1 : isB h = true → isB o = true) (H2 : h.bs.length < 4 → ∀ s, inR s 0 99 = true → isB (moreH h s) = true → isB (moreH o s) = true) (he : (buyRet h).2 = 0) :
    (buyRet o).2 = 0 ∧ 0 ≤ (buyRet o).1 ∧ (buyRet o).1 ≤ (buyRet h).1 ∧ (buyRet h).1 ≤ 99 := by
  have hbl := (HOK.ofValid hv).bl
  by_cases h4 : h.bs.length = 4
  · rw [buy_full hv h4] at he ⊢
    rw [buy_full ho (by omega)]
    by_cases hi : isB h = true
    · rw [if_pos hi, if_pos (H1 hi)]; simp
    · rw [if_neg hi] at he; cases he
  · have hl : h.bs.length < 4 := by omega
    have hl2 : o.bs.length < 4 := by omega
    by_cases hi : isB h = true
    · rw [(buy_plain hv hl (s := 0) (by decide)).1 hi, (buy_plain ho hl2 (s := 0) (by decide)).1 (H1 hi)]; simp
    · have hi : isB h = false := by simpa using hi
      rcases (buy_plain hv hl (s := 0) (by decide)).2.1 hi with ⟨e, _⟩ | ⟨e, b0, b9, _⟩
      · rw [e] at he; cases he
      · have hs : inR (buyRet h).1 0 99 = true := inR_true.2 ⟨b0, b9⟩
        rcases (buy_plain hv hl hs).2.1 hi with ⟨e2, _⟩ | ⟨_, _, _, e2⟩
        · rw [e2] at he; cases he
        · have h5 := H2 hl _ hs (e2.2 (Int.le_refl _))
          by_cases hj : isB o = true
          · rw [(buy_plain ho hl2 (s := 0) (by decide)).1 hj]
            exact ⟨rfl, Int.le_refl _, b0, b9⟩
          · have hj : isB o = false := by simpa using hj
            rcases (buy_plain ho hl2 hs).2.1 hj with ⟨_, e3⟩ | ⟨e3, c0, c9, e4⟩
            · rw [e3] at h5; cases h5
            · exact ⟨e3, c0, e4.1 h5, b9⟩
theorem buy_err {h : House} (hv : validH h = true) : (buyRet h).2 ≠ 0 → buyRet h = if h.bs.length = 4 then (0, 2) else (0, 3) := fun he => by
  unfold buyRet at he ⊢
  by_cases hp : packsL h = []
  · by_cases hb : h.bs.length = 4
    · simp [hv, hp, hb]
    · by_cases h9 : 99 < buyL h (allS 0 (h.bs.length + 1) h.ps.length)
      · simp [hv, hp, hb, h9]
      · simp [hv, hp, hb, h9] at he
  · simp [hv, hp] at he
theorem buy_same {h o : House} (hv : validH h = true) (ho : validH o = true) (hb : o.bs.length = h.bs.length) (H1 : isB h = isB o) (H2 : h.bs.length < 4 → ∀ s, inR s 0 99 = true → isB (moreH h s) = isB (moreH o s)) : buyRet h = buyRet o := by
  by_cases he : (buyRet h).2 = 0
  · obtain ⟨e1, _, l1, _⟩ := buy_mono hv ho hb (fun e => H1 ▸ e) (fun hl s hs e => H2 hl s hs ▸ e) he
    obtain ⟨_, _, l2, _⟩ := buy_mono ho hv hb.symm (fun e => H1.symm ▸ e) (fun hl s hs e => (H2 (by omega) s hs).symm ▸ e) e1
    exact Prod.ext (by omega) (by omega)
  · have he2 : (buyRet o).2 ≠ 0 := fun e => he (buy_mono ho hv hb.symm (fun e => H1.symm ▸ e) (fun hl s hs e => (H2 (by omega) s hs).symm ▸ e) e).1
    rw [buy_err hv he, buy_err ho he2, hb]
/-! More room. -/
structure Roomier (h o : House) : Prop where
  k : o.ks = h.ks
  f : o.fl = h.fl
  p : o.ps = h.ps
  l : h.bs.length ≤ o.bs.length
  b : ∀ b, b < h.bs.length → h.bs.getD b 0 ≤ o.bs.getD b 0
theorem caskIn_congr {h o : House} (hk : o.ks = h.ks) (hp : o.ps = h.ps) (l : List Int) : caskIn o l = caskIn h l := by
  obtain ⟨ks, fl, ps, bs⟩ := h
  obtain ⟨ks', fl', ps', bs'⟩ := o
  simp only at hk hp
  subst hk hp
  rfl
theorem sumB_congr {f : Cask → Int} {h o : House} (hk : o.ks = h.ks) (hp : o.ps = h.ps) (p : List Int) : ∀ n, sumB f o p n = sumB f h p n
  | 0 => rfl
  | n + 1 => by rw [sumB, sumB, sumB_congr hk hp p n, caskIn_congr hk hp]
theorem room_fit {h o : House} (H : Roomier h o) (ho : validH o = true) {lo : Int} {p : List Int} (hp : p ∈ fitting h lo) : p ∈ fitting o lo := by
  obtain ⟨h1, h2, h3⟩ := mem_fitting hp
  have hl := H.l
  refine List.mem_filter.2 ⟨mem_allS.2 ⟨by rw [H.p]; exact h1, fun x hx => by have := h2 x hx; omega⟩, fitsR_true.2 fun b hb => ?_⟩
  have e : needC o (inOf p b) = needC h (inOf p b) := by unfold needC; rw [caskIn_congr H.k H.p, H.f]
  rw [e]
  by_cases hbh : b < h.bs.length
  · exact Int.le_trans (fitsR_true.1 h3 b hbh) (H.b b hbh)
  · rw [inOf_far h2 (.inr (by omega)), need_nil]
    exact (bs_le (HOK.ofValid ho) hb).1
theorem room_sum {f : Cask → Int} (hf : f c0 = 0) {h o : House} (H : Roomier h o) {lo : Int} {p : List Int} (hp : p ∈ fitting h lo) : sumB f o p o.bs.length = sumB f h p h.bs.length := by
  have h2 := (mem_fitting hp).2.1
  have hl := H.l
  rw [sumB_congr H.k H.p, show o.bs.length = h.bs.length + (o.bs.length - h.bs.length) by omega, sumB_le h2 hf]
theorem room_packF {h o : House} (H : Roomier h o) {lo : Int} {p : List Int} (hp : p ∈ fitting h lo) : packF o p = packF h p := by
  unfold packF; rw [H.f]; exact room_sum (by simp [saltC, c0]) H hp
theorem room_laid {h o : House} (H : Roomier h o) (p : List Int) : laidF o p = laidF h p := by unfold laidF; rw [caskIn_congr H.k H.p]
theorem room_early {h o : House} (H : Roomier h o) {lo : Int} {p : List Int} (hp : p ∈ fitting h lo) (d : Int) : earlyF d o p = earlyF d h p := room_sum (by unfold earlyC; split <;> rfl) H hp
theorem room_used {h o : House} (H : Roomier h o) {lo : Int} {p : List Int} (hp : p ∈ fitting h lo) : usedF o p = usedF h p := room_sum (by simp [usedC, c0]) H hp
/-- The plain law of more room. -/
theorem room_plain {h o : House} (hv : validH h = true) (ho : validH o = true) (H : Roomier h o) :
    (isB h = true → isB o = true ∧ (leastS o).1 ≤ (leastS h).1 ∧ (fewS o).1 ≤ (fewS h).1) ∧
    (∀ d, (earlyS h d).2 = 0 → (earlyS o d).2 = 0 ∧ (earlyS h d).1 ≤ (earlyS o d).1) ∧
    (∀ m, inR m 0 999 = true → (rStockS h m).2 = 0 ∧ (rStockS o m).2 = 0 ∧ (rStockS h m).1 ≤ (rStockS o m).1) := by
  have hV := HOK.ofValid hv
  have hO := HOK.ofValid ho
  have key : ∀ p ∈ packsL h, p ∈ packsL o ∧ p ∈ fitting h 0 := fun p hp => by
    rw [packs_eq hV] at hp
    rw [packs_eq hO]
    exact ⟨room_fit H ho hp, hp⟩
  refine ⟨fun hi => ⟨isB_mono (fun p hp => ⟨p, (key p hp).1⟩) hi, least_mono hv ho (fun p hp => ⟨p, (key p hp).1, ?_⟩) hi, few_mono hv ho (fun p hp => ⟨p, (key p hp).1, ?_⟩) hi⟩, fun d he => ?_, fun m hm => stock_mono hv ho hm fun p hp => ⟨p, room_fit H ho hp, ?_, ?_⟩⟩
  · rw [room_packF H (key p hp).2]; exact Int.le_refl _
  · rw [room_used H (key p hp).2]; exact Int.le_refl _
  · rw [early_err hv] at he
    by_cases hd : inR d 0 20 = false
    · rw [if_pos hd] at he; cases he
    · rw [if_neg hd] at he
      by_cases hi : isB h = false
      · rw [if_pos hi] at he; cases he
      · have := early_mono hv ho (d := d) (by simpa using hd) (fun p hp => ⟨p, (key p hp).1, by rw [room_early H (key p hp).2]; exact Int.le_refl _⟩) (by simpa using hi)
        exact this.2
  · rw [room_packF H hp]; exact Int.le_refl _
  · rw [room_laid H]; exact Int.le_refl _
theorem goodB_fit {h : House} (hv : HOK h) {p : List Int} : goodB h p = true ↔ p ∈ fitting h 0 := by
  unfold goodB fitting
  rw [List.mem_filter, mem_allS]
  simp only [Bool.and_eq_true, decide_eq_true_eq, List.all_eq_true]
  constructor
  · rintro ⟨h1, h2, h3⟩
    have hr : InRange 0 h.bs.length p := fun x hx => by have := inR_true.1 (h2 x hx); omega
    refine ⟨⟨h1, hr⟩, ?_⟩
    rw [← fits_packed hv h1 (hr.low (by omega)) (by have := hv.bl; omega)]; exact h3
  · rintro ⟨⟨h1, h2⟩, h3⟩
    refine ⟨h1, fun x hx => inR_true.2 (by have := h2 x hx; omega), ?_⟩
    rw [fits_packed hv h1 (InRange.low (lo := 0) h2 (by omega)) (by have := hv.bl; omega)]; exact h3
end Go.Proofs.Ytgemmmdcpbajoaa
namespace Go.Proofs.Ytgemmmdcpbajoaa
open Go.RowKit

/-! What is in a barrel: two lots together. -/
def mergeC (c d : Cask) : Cask := ⟨c.n + d.n, c.p + d.p, max c.s d.s, max c.d d.d⟩
theorem cask_ext {a b : Cask} (h1 : a.n = b.n) (h2 : a.p = b.p) (h3 : a.s = b.s) (h4 : a.d = b.d) : a = b := by
  cases a; cases b; simp_all
theorem mergeC_comm (c d : Cask) : mergeC c d = mergeC d c := cask_ext (by simp only [mergeC]; omega) (by simp only [mergeC]; omega) (by simp only [mergeC]; omega) (by simp only [mergeC]; omega)
theorem mergeC_assoc (c d e : Cask) : mergeC (mergeC c d) e = mergeC c (mergeC d e) := cask_ext (by simp only [mergeC]; omega) (by simp only [mergeC]; omega) (by simp only [mergeC]; omega) (by simp only [mergeC]; omega)
theorem layC_merge (c d : Cask) (k p : Int × Int) : layC (mergeC c d) k p = mergeC c (layC d k p) := cask_ext (by simp only [mergeC, layC]; omega) (by simp only [mergeC, layC]; omega) (by simp only [mergeC, layC]; omega) (by simp only [mergeC, layC]; omega)
/-- Not below zero. -/
structure Cask.nn (c : Cask) : Prop where
  n : 0 ≤ c.n
  p : 0 ≤ c.p
  s : 0 ≤ c.s
  d : 0 ≤ c.d
theorem merge_c0 {c : Cask} (h : c.nn) : mergeC c c0 = c := by
  obtain ⟨h1, h2, h3, h4⟩ := h
  exact cask_ext (by simp only [mergeC, c0]; omega) (by simp only [mergeC, c0]; omega) (by simp only [mergeC, c0]; omega) (by simp only [mergeC, c0]; omega)
/-- One cask has no more than another of anything. -/
structure Cask.leZ (c d : Cask) : Prop where
  n : c.n ≤ d.n
  p : c.p ≤ d.p
  s : c.s ≤ d.s
  d : c.d ≤ d.d
theorem le_merge {c d : Cask} (_hc : c.nn) (hd : d.nn) : c.leZ (mergeC c d) := by
  obtain ⟨h1, h2, h3, h4⟩ := hd
  exact ⟨by simp only [mergeC]; omega, by simp only [mergeC]; omega, by simp only [mergeC]; omega, by simp only [mergeC]; omega⟩
theorem salt_mono {fl : Int} (hf : 0 ≤ fl) {c d : Cask} (hc : c.nn) (h : c.leZ d) : saltC fl c ≤ saltC fl d := by
  have hm : c.p * c.s ≤ d.p * d.s := Int.le_trans (Int.mul_le_mul_of_nonneg_right h.p hc.s) (Int.mul_le_mul_of_nonneg_left h.s (Int.le_trans hc.p h.p))
  have h0 : 0 ≤ c.p * c.s := Int.mul_nonneg hc.p hc.s
  have hn := hc.n
  have hn2 := h.n
  unfold saltC
  by_cases a : c.n = 0
  · rw [if_pos a]
    split <;> omega
  · rw [if_neg a, if_neg (by omega)]
    omega
/-- The cask of a barrel, of parts each with its barrel. -/
def castZ (ks : List (Int × Int)) (l : List ((Int × Int) × Int)) (b : Int) : Cask := l.foldl (fun c x => if x.2 = b then layC c (ks.getD x.1.1.toNat (0, 0)) x.1 else c) c0
theorem castZ_snoc (ks : List (Int × Int)) (l : List ((Int × Int) × Int)) (x : (Int × Int) × Int) (b : Int) : castZ ks (l ++ [x]) b = if x.2 = b then layC (castZ ks l b) (ks.getD x.1.1.toNat (0, 0)) x.1 else castZ ks l b := by
  simp [castZ]
/-- Kinds and parts not below zero. -/
def NNs (ks : List (Int × Int)) (l : List ((Int × Int) × Int)) : Prop := (∀ k : Nat, 0 ≤ (ks.getD k (0, 0)).1 ∧ 0 ≤ (ks.getD k (0, 0)).2) ∧ ∀ x ∈ l, 0 ≤ x.1.2
theorem castZ_nn {ks : List (Int × Int)} (b : Int) : ∀ {l : List ((Int × Int) × Int)}, NNs ks l → (castZ ks l b).nn := fun {l} => by
  refine snoc_ind (P := fun l => NNs ks l → (castZ ks l b).nn) (fun _ => ⟨by simp [castZ, c0], by simp [castZ, c0], by simp [castZ, c0], by simp [castZ, c0]⟩) (fun l x ih h => ?_) l
  have h1 := ih ⟨h.1, fun y hy => h.2 y (by simp [hy])⟩
  have h2 := h.2 x (by simp)
  have h3 := h.1 x.1.1.toNat
  rw [castZ_snoc]
  split
  · exact ⟨by have := h1.n; simp only [layC]; omega, by have := h1.p; simp only [layC]; omega, by have := h1.s; simp only [layC]; omega, by have := h1.d; simp only [layC]; omega⟩
  · exact h1
theorem castZ_app {ks : List (Int × Int)} (b : Int) (l1 : List ((Int × Int) × Int)) (h1 : NNs ks l1) : ∀ (l2 : List ((Int × Int) × Int)), castZ ks (l1 ++ l2) b = mergeC (castZ ks l1 b) (castZ ks l2 b) := fun l2 => by
  refine snoc_ind (P := fun l2 => castZ ks (l1 ++ l2) b = mergeC (castZ ks l1 b) (castZ ks l2 b)) ?_ (fun l x ih => ?_) l2
  · rw [List.append_nil]
    exact (merge_c0 (castZ_nn b h1)).symm
  · rw [← List.append_assoc, castZ_snoc, castZ_snoc, ih]
    split
    · exact layC_merge _ _ _ _
    · rfl
theorem castZ_rot {ks : List (Int × Int)} (b : Int) (l1 l2 : List ((Int × Int) × Int)) (h1 : NNs ks l1) (h2 : NNs ks l2) : castZ ks (l1 ++ l2) b = castZ ks (l2 ++ l1) b := by
  rw [castZ_app b l1 h1, castZ_app b l2 h2, mergeC_comm]
theorem castZ_map {ks : List (Int × Int)} {f : Int → Int} {b b' : Int} : ∀ (l : List ((Int × Int) × Int)), (∀ x ∈ l, (f x.2 = b' ↔ x.2 = b)) → castZ ks (l.map fun x => (x.1, f x.2)) b' = castZ ks l b := fun l => by
  refine snoc_ind (P := fun l => (∀ x ∈ l, (f x.2 = b' ↔ x.2 = b)) → castZ ks (l.map fun x => (x.1, f x.2)) b' = castZ ks l b) (fun _ => rfl) (fun l x ih h => ?_) l
  have h1 := ih fun y hy => h y (by simp [hy])
  have h2 := h x (by simp)
  rw [List.map_append, List.map_cons, List.map_nil, castZ_snoc, castZ_snoc, h1]
  by_cases e : x.2 = b
  · rw [if_pos e, if_pos (h2.2 e)]
  · rw [if_neg e, if_neg (fun e' => e (h2.1 e'))]
theorem zip_take_next {α β : Type} {a : List α} {b : List β} {k : Nat} {x : α} {y : β} (ha : a[k]? = some x) (hb : b[k]? = some y) : (a.zip b).take (k + 1) = (a.zip b).take k ++ [(x, y)] := by
  have : (a.zip b)[k]? = some (x, y) := by rw [List.getElem?_zip_eq_some]; exact ⟨ha, hb⟩
  rw [List.take_add_one, this]; rfl
theorem caskIn_castZ {h : House} {p : List Int} (hl : p.length = h.ps.length) (b : Int) : ∀ k, k ≤ p.length → caskIn h (inTo p b k) = castZ h.ks ((h.ps.zip p).take k) b
  | 0, _ => rfl
  | k + 1, hk => by
    have ih := caskIn_castZ hl b k (by omega)
    have hx : p[k]? = some (barrelOf p k) := by simp [barrelOf, List.getD, List.getElem?_eq_getElem (show k < p.length by omega)]
    have hp : h.ps[k]? = some (partOf h k) := by simp [partOf, List.getD, List.getElem?_eq_getElem (show k < h.ps.length by omega)]
    rw [zip_take_next hp hx, castZ_snoc, ← ih]
    by_cases e : barrelOf p k = b
    · rw [inTo_yes e, if_pos e, caskIn_snoc]; rfl
    · rw [inTo_no e, if_neg e]
theorem caskIn_zip {h : House} {p : List Int} (hl : p.length = h.ps.length) (b : Int) : caskIn h (inOf p b) = castZ h.ks (h.ps.zip p) b := by
  unfold inOf
  rw [caskIn_castZ hl b _ (Nat.le_refl _), List.take_of_length_le (by rw [List.length_zip]; omega)]
end Go.Proofs.Ytgemmmdcpbajoaa
namespace Go.Proofs.Ytgemmmdcpbajoaa
open Go.RowKit

/-! One part less. -/
def lessH (h : House) (k : Nat) : House := { h with ps := h.ps.take k ++ h.ps.drop (k + 1) }
def lessP (p : List Int) (k : Nat) : List Int := p.take k ++ p.drop (k + 1)
theorem less_len {h : House} {k : Nat} (hk : k < h.ps.length) : (lessH h k).ps.length + 1 = h.ps.length := by
  simp only [lessH, List.length_append, List.length_take, List.length_drop]; omega
theorem lessP_len {p : List Int} {k : Nat} (hk : k < p.length) : (lessP p k).length + 1 = p.length := by
  simp only [lessP, List.length_append, List.length_take, List.length_drop]; omega
theorem valid_less {h : House} (hv : validH h = true) (k : Nat) : validH (lessH h k) = true := by
  unfold validH bigOK at hv ⊢
  simp only [Bool.and_eq_true, decide_eq_true_eq] at hv ⊢
  obtain ⟨⟨h1, h2, h3, h4⟩, h5, h6, h7⟩ := hv
  refine ⟨⟨h1, h2, ?_, h4⟩, h5, ?_, h7⟩
  · simp only [lessH, List.length_append, List.length_take, List.length_drop]; omega
  · rw [List.all_eq_true] at h6 ⊢
    intro x hx
    simp only [lessH, List.mem_append] at hx
    exact h6 x (hx.elim List.mem_of_mem_take List.mem_of_mem_drop)
theorem HOK.nns {h : House} (hv : HOK h) (l : List ((Int × Int) × Int)) (hl : ∀ x ∈ l, x.1 ∈ h.ps) : NNs h.ks l := by
  refine ⟨fun k => ?_, fun x hx => ?_⟩
  · cases e : h.ks[k]? with
    | none => simp [List.getD, e]
    | some y => have := hv.k k y e; simp [List.getD, e]; omega
  · obtain ⟨i, hi⟩ := List.getElem?_of_mem (hl x hx)
    have := hv.p i _ hi
    omega
theorem zip_fst_mem {a : List (Int × Int)} {b : List Int} {x : (Int × Int) × Int} (hx : x ∈ a.zip b) : x.1 ∈ a := (List.of_mem_zip (a := x.1) (b := x.2) hx).1
theorem merge_le2 {a b c : Cask} (h : b.leZ c) : (mergeC a b).leZ (mergeC a c) := by
  obtain ⟨h1, h2, h3, h4⟩ := h
  exact ⟨by simp only [mergeC]; omega, by simp only [mergeC]; omega, by simp only [mergeC]; omega, by simp only [mergeC]; omega⟩
theorem less_cask {h : House} (hv : HOK h) {k : Nat} (hk : k < h.ps.length) {p : List Int} (hl : p.length = h.ps.length) (b : Int) : (caskIn (lessH h k) (inOf (lessP p k) b)).leZ (caskIn h (inOf p b)) := by
  have hll : (lessP p k).length = (lessH h k).ps.length := by have := less_len hk; have := lessP_len (p := p) (k := k) (by omega); omega
  rw [caskIn_zip hll, caskIn_zip hl]
  have e1 : (lessH h k).ps.zip (lessP p k) = (h.ps.take k).zip (p.take k) ++ (h.ps.drop (k + 1)).zip (p.drop (k + 1)) := by
    unfold lessH lessP
    simp only
    rw [List.zip_append (by simp [hl])]
  have e2 : h.ps.zip p = (h.ps.take k).zip (p.take k) ++ ((h.ps.drop k).zip (p.drop k)) := by
    rw [← List.zip_append (by simp [hl]), List.take_append_drop, List.take_append_drop]
  have e3 : (h.ps.drop k).zip (p.drop k) = [(h.ps[k], p[k]'(by omega))] ++ (h.ps.drop (k + 1)).zip (p.drop (k + 1)) := by
    rw [List.drop_eq_getElem_cons hk, List.drop_eq_getElem_cons (by omega : k < p.length), List.zip_cons_cons]; rfl
  have n1 : NNs h.ks ((h.ps.take k).zip (p.take k)) := hv.nns _ fun x hx => List.mem_of_mem_take (zip_fst_mem hx)
  have n2 : NNs h.ks [(h.ps[k], p[k]'(by omega))] := hv.nns _ fun x hx => by simp at hx; subst hx; exact List.getElem_mem hk
  have n3 : NNs h.ks ((h.ps.drop (k + 1)).zip (p.drop (k + 1))) := hv.nns _ fun x hx => List.mem_of_mem_drop (zip_fst_mem hx)
  rw [e1, e2, e3]
  show (castZ h.ks _ b).leZ _
  rw [castZ_app b _ n1, castZ_app b _ n1, castZ_app b _ n2]
  refine merge_le2 ?_
  rw [mergeC_comm]
  exact le_merge (castZ_nn b n3) (castZ_nn b n2)
theorem ok_nn {c : Cask} (h : c.ok) : c.nn := ⟨h.n0, h.p0, h.s0, h.d0⟩
theorem less_fit {h : House} {k : Nat} (hv : HOK h) (ho : HOK (lessH h k)) (hk : k < h.ps.length) {p : List Int} (hp : p ∈ fitting h 0) : lessP p k ∈ fitting (lessH h k) 0 ∧ packF (lessH h k) (lessP p k) ≤ packF h p ∧ usedF (lessH h k) (lessP p k) ≤ usedF h p := by
  obtain ⟨h1, h2, h3⟩ := mem_fitting hp
  have hc := fun b : Int => less_cask hv hk h1 b
  have hll : (lessP p k).length = (lessH h k).ps.length := by have := less_len hk; have := lessP_len (p := p) (k := k) (by omega); omega
  have hn := fun b : Int => ok_nn (inOf_ok ho (by omega : (lessP p k).length ≤ (lessH h k).ps.length) b)
  have hs := fun b : Int => salt_mono hv.f0 (hn b) (hc b)
  refine ⟨List.mem_filter.2 ⟨mem_allS.2 ⟨hll, fun x hx => ?_⟩, fitsR_true.2 fun b hb => ?_⟩, ?_, ?_⟩
  · refine h2 x ?_
    simp only [lessP, List.mem_append] at hx
    exact hx.elim List.mem_of_mem_take List.mem_of_mem_drop
  · have h4 := fitsR_true.1 h3 b hb
    have h5 := (hc (b : Int)).p
    have h6 := hs (b : Int)
    unfold needC at h4 ⊢
    show _ ≤ h.bs.getD b 0
    have e : (lessH h k).fl = h.fl := rfl
    rw [e]
    omega
  · show sumB (saltC h.fl) (lessH h k) (lessP p k) h.bs.length ≤ sumB (saltC h.fl) h p h.bs.length
    have : ∀ n, sumB (saltC h.fl) (lessH h k) (lessP p k) n ≤ sumB (saltC h.fl) h p n := fun n => by
      induction n with
      | zero => exact Int.le_refl _
      | succ n ih => have := hs (n : Int); simp only [sumB]; omega
    exact this _
  · show sumB usedC (lessH h k) (lessP p k) h.bs.length ≤ sumB usedC h p h.bs.length
    have : ∀ n, sumB usedC (lessH h k) (lessP p k) n ≤ sumB usedC h p n := fun n => by
      induction n with
      | zero => exact Int.le_refl _
      | succ n ih =>
        have := (hc (n : Int)).n
        simp only [sumB, usedC]
        split <;> split <;> omega
    exact this _
theorem less_more (h : House) (k : Nat) (s : Int) : moreH (lessH h k) s = lessH (moreH h s) k := rfl
/-- The plain law of one part less. -/
theorem less_plain {h : House} (hv : validH h = true) {k : Nat} (hk : k < h.ps.length) :
    (isB h = true → isB (lessH h k) = true ∧ (leastS (lessH h k)).1 ≤ (leastS h).1 ∧ (fewS (lessH h k)).1 ≤ (fewS h).1) ∧
    ((buyRet h).2 = 0 → (buyRet (lessH h k)).2 = 0 ∧ 0 ≤ (buyRet (lessH h k)).1 ∧ (buyRet (lessH h k)).1 ≤ (buyRet h).1 ∧ (buyRet h).1 ≤ 99) := by
  have hV := HOK.ofValid hv
  have ho := valid_less hv k
  have hO := HOK.ofValid ho
  have key : ∀ p ∈ packsL h, lessP p k ∈ packsL (lessH h k) ∧ packF (lessH h k) (lessP p k) ≤ packF h p ∧ usedF (lessH h k) (lessP p k) ≤ usedF h p := fun p hp => by
    rw [packs_eq hV] at hp
    rw [packs_eq hO]
    exact less_fit hV hO hk hp
  have hi1 : isB h = true → isB (lessH h k) = true := isB_mono fun p hp => ⟨_, (key p hp).1⟩
  refine ⟨fun hi => ⟨hi1 hi, least_mono hv ho (fun p hp => ⟨_, (key p hp).1, (key p hp).2.1⟩) hi, few_mono hv ho (fun p hp => ⟨_, (key p hp).1, (key p hp).2.2⟩) hi⟩, fun he => buy_mono hv ho rfl hi1 (fun hb s hs hi => ?_) he⟩
  have hv2 := valid_more hv hb hs
  have hV2 := HOK.ofValid hv2
  have hO2 := HOK.ofValid (valid_less hv2 k)
  rw [less_more, isB_iff hO2]
  obtain ⟨p, hp⟩ := (isB_iff hV2).1 hi
  exact ⟨_, (less_fit hV2 hO2 hk hp).1⟩
end Go.Proofs.Ytgemmmdcpbajoaa
