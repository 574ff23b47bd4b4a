import Derived.Test.YtgemmmdcpbajoaaVG
namespace Go.Proofs.Ytgemmmdcpbajoaa
open Go.RowKit

/-! Any order: the barrels from r on first, the parts from k on first. -/
def rotL {α : Type} (l : List α) (r : Nat) : List α := l.drop r ++ l.take r
theorem rotL_len {α : Type} (l : List α) (r : Nat) : (rotL l r).length = l.length := by
  simp only [rotL, List.length_append, List.length_drop, List.length_take]; omega
theorem rotL_mem {α : Type} {l : List α} {r : Nat} {x : α} : x ∈ rotL l r ↔ x ∈ l := by
  unfold rotL
  rw [List.mem_append]
  constructor
  · exact fun h => h.elim List.mem_of_mem_drop List.mem_of_mem_take
  · intro h
    rw [← List.take_append_drop r l, List.mem_append] at h
    exact h.symm
theorem rotL_at {α : Type} {l : List α} {r i : Nat} (hr : r ≤ l.length) (hi : i < l.length) : (rotL l r)[i]? = l[if i + r < l.length then i + r else i + r - l.length]? := by
  unfold rotL
  by_cases h : i + r < l.length
  · rw [if_pos h, List.getElem?_append_left (by rw [List.length_drop]; omega), List.getElem?_drop, Nat.add_comm]
  · rw [if_neg h, List.getElem?_append_right (by rw [List.length_drop]; omega), List.getElem?_take, List.length_drop, if_pos (by omega)]
    congr 1; omega
/-- Where a barrel has gone. -/
def toB (nb r : Nat) (x : Int) : Int := if x < 0 ∨ (nb : Int) ≤ x then x else if (r : Int) ≤ x then x - r else x - r + nb
def fromB (nb r j : Nat) : Nat := if nb ≤ j then j else if j + r < nb then j + r else j + r - nb
theorem toB_iff {nb r : Nat} (hr : r ≤ nb) (j : Nat) (x : Int) : toB nb r x = (j : Int) ↔ x = (fromB nb r j : Int) := by
  unfold toB fromB
  split <;> split <;> (try split) <;> (try split) <;> omega
theorem toB_in {nb r : Nat} (hr : r ≤ nb) {lo : Int} (h0 : lo ≤ 0) {m : Nat} (hm : nb ≤ m) {x : Int} (hx : lo ≤ x ∧ x < m) : lo ≤ toB nb r x ∧ toB nb r x < m := by
  unfold toB
  split <;> (try split) <;> omega
def turnH (h : House) (r k : Nat) : House := { h with ps := rotL h.ps k, bs := rotL h.bs r }
def turnP (nb r k : Nat) (p : List Int) : List Int := (rotL p k).map (toB nb r)
theorem turnP_len (nb r k : Nat) (p : List Int) : (turnP nb r k p).length = p.length := by rw [turnP, List.length_map, rotL_len]
theorem zip_rotL {α β : Type} {a : List α} {b : List β} (hl : a.length = b.length) (k : Nat) : (rotL a k).zip (rotL b k) = rotL (a.zip b) k := by
  unfold rotL
  rw [List.zip_append (by simp [hl])]
  simp only [List.zip_eq_zipWith, List.drop_zipWith, List.take_zipWith]
theorem zip_mapr {α β γ : Type} (f : β → γ) : ∀ (a : List α) (b : List β), a.zip (b.map f) = (a.zip b).map fun x => (x.1, f x.2)
  | [], _ => by simp
  | _ :: _, [] => by simp
  | x :: a, y :: b => by simp only [List.map_cons, List.zip_cons_cons, zip_mapr f a b]
/-- The casks are the same ones. -/
theorem turn_cask {h o : House} (hv : HOK h) {r k nb : Nat} (hr : r ≤ nb) (hk : o.ks = h.ks) (hp : o.ps = rotL h.ps k) {p : List Int} (hl : p.length = h.ps.length) (j : Nat) :
    caskIn o (inOf (turnP nb r k p) (j : Int)) = caskIn h (inOf p (fromB nb r j : Int)) := by
  have hll : (turnP nb r k p).length = o.ps.length := by rw [turnP_len, hp, rotL_len]; exact hl
  rw [caskIn_zip hll, caskIn_zip hl, hk, hp]
  unfold turnP
  rw [zip_mapr, zip_rotL hl.symm, castZ_map (b := (fromB nb r j : Int)) _ (fun x _ => toB_iff hr j x.2)]
  unfold rotL
  have n1 : NNs h.ks ((h.ps.zip p).drop k) := hv.nns _ fun x hx => zip_fst_mem (List.mem_of_mem_drop hx)
  have n2 : NNs h.ks ((h.ps.zip p).take k) := hv.nns _ fun x hx => zip_fst_mem (List.mem_of_mem_take hx)
  rw [castZ_rot _ _ _ n1 n2, List.take_append_drop]
theorem sumN_add (g : Nat → Int) (a : Nat) : ∀ b, sumN g (a + b) = sumN g a + sumN (fun j => g (a + j)) b
  | 0 => by simp [sumN]
  | b + 1 => by rw [← Nat.add_assoc, sumN, sumN_add g a b, sumN]; omega
theorem sumN_turn (g : Nat → Int) {nb r : Nat} (hr : r ≤ nb) : sumN (fun j => g (fromB nb r j)) nb = sumN g nb := by
  obtain ⟨s, rfl⟩ : ∃ s, nb = s + r := ⟨nb - r, by omega⟩
  rw [sumN_add, Nat.add_comm s r, sumN_add g r s, Int.add_comm]
  congr 1
  · refine sumN_same fun j hj => ?_
    congr 1
    unfold fromB
    split
    · omega
    · split <;> omega
  · refine sumN_same fun j hj => ?_
    congr 1
    unfold fromB
    split
    · omega
    · split <;> omega
theorem valid_turn {h : House} (hv : validH h = true) (r k : Nat) : validH (turnH h r k) = true := by
  unfold validH bigOK at hv ⊢
  simp only [Bool.and_eq_true, decide_eq_true_eq] at hv ⊢
  obtain ⟨⟨h1, h2, h3, h4⟩, h5, h6, h7⟩ := hv
  rw [List.all_eq_true] at h6 h7
  refine ⟨⟨h1, h2, by simp only [turnH, rotL_len]; exact h3, by simp only [turnH, rotL_len]; exact h4⟩, h5, ?_, ?_⟩
  · rw [List.all_eq_true]; exact fun x hx => h6 x (rotL_mem.1 hx)
  · rw [List.all_eq_true]; exact fun x hx => h7 x (rotL_mem.1 hx)
theorem fromB_in {nb r : Nat} (hr : r ≤ nb) {j m : Nat} (hm : nb ≤ m) (hj : j < m) : fromB nb r j < m := by
  unfold fromB
  split
  · omega
  · split <;> omega
/-- A list that fits, behind the turn. -/
theorem turn_fit {h o : House} {r k : Nat} (hr : r ≤ h.bs.length) {g : House} (hgk : g.ks = h.ks) (hgf : g.fl = h.fl) (hgp : g.ps = h.ps) (hV : HOK g) (hgl : h.bs.length ≤ g.bs.length) (hk : o.ks = h.ks) (hf : o.fl = h.fl) (hp : o.ps = rotL h.ps k) (hm : o.bs.length = g.bs.length)
    (hb : ∀ j, j < g.bs.length → o.bs.getD j 0 = g.bs.getD (fromB h.bs.length r j) 0) {lo : Int} (hlo : lo ≤ 0) {p : List Int} (hpp : p ∈ fitting g lo) : turnP h.bs.length r k p ∈ fitting o lo := by
  obtain ⟨h1, h2, h3⟩ := mem_fitting hpp
  refine List.mem_filter.2 ⟨mem_allS.2 ⟨by rw [turnP_len, hp, rotL_len, ← hgp]; exact h1, fun x hx => ?_⟩, fitsR_true.2 fun j hj => ?_⟩
  · unfold turnP at hx
    obtain ⟨y, hy, rfl⟩ := List.mem_map.1 hx
    rw [hm]
    exact toB_in hr hlo hgl (h2 y (rotL_mem.1 hy))
  · have h4 := fitsR_true.1 h3 (fromB h.bs.length r j) (fromB_in hr hgl (by omega))
    rw [hb j (by omega)]
    unfold needC at h4 ⊢
    rw [turn_cask hV hr (hk.trans hgk.symm) (hp.trans (by rw [hgp])) h1, hf, ← hgf]
    exact h4
end Go.Proofs.Ytgemmmdcpbajoaa
namespace Go.Proofs.Ytgemmmdcpbajoaa
open Go.RowKit

theorem rotL_getD {l : List Int} {r j : Nat} (hr : r ≤ l.length) (hj : j < l.length) : (rotL l r).getD j 0 = l.getD (fromB l.length r j) 0 := by
  rw [List.getD_eq_getElem?_getD, List.getD_eq_getElem?_getD, rotL_at hr hj]
  have e : fromB l.length r j = if j + r < l.length then j + r else j + r - l.length := by
    unfold fromB; rw [if_neg (by omega)]
  rw [e]
theorem turn_fit0 {h : House} (hv : HOK h) {r k : Nat} (hr : r ≤ h.bs.length) {lo : Int} (hlo : lo ≤ 0) {p : List Int} (hp : p ∈ fitting h lo) : turnP h.bs.length r k p ∈ fitting (turnH h r k) lo :=
  turn_fit (h := h) (o := turnH h r k) (g := h) hr rfl rfl rfl hv (Nat.le_refl _) rfl rfl rfl (rotL_len _ _) (fun _j hj => rotL_getD hr hj) hlo hp
theorem turn_fit1 {h : House} (_hv : HOK h) {r k : Nat} (hr : r ≤ h.bs.length) {s : Int} (hv2 : HOK (moreH h s)) {p : List Int} (hp : p ∈ fitting (moreH h s) 0) : turnP h.bs.length r k p ∈ fitting (moreH (turnH h r k) s) 0 := by
  refine turn_fit (h := h) (o := moreH (turnH h r k) s) hr (g := moreH h s) rfl rfl rfl hv2 (by rw [more_len]; omega) rfl rfl rfl (by rw [more_len, more_len]; simp only [turnH, rotL_len]) (fun j hj => ?_) (Int.le_refl _) hp
  rw [more_len] at hj
  show (rotL h.bs r ++ [s]).getD j 0 = (h.bs ++ [s]).getD (fromB h.bs.length r j) 0
  by_cases e : j < h.bs.length
  · rw [List.getD_eq_getElem?_getD, List.getElem?_append_left (by rw [rotL_len]; exact e), List.getD_eq_getElem?_getD (l := h.bs ++ [s]), List.getElem?_append_left (fromB_in hr (Nat.le_refl _) e), ← List.getD_eq_getElem?_getD, ← List.getD_eq_getElem?_getD]
    exact rotL_getD hr e
  · obtain rfl : j = h.bs.length := by omega
    have : fromB h.bs.length r h.bs.length = h.bs.length := by unfold fromB; rw [if_pos (Nat.le_refl _)]
    rw [this, List.getD_eq_getElem?_getD, List.getD_eq_getElem?_getD, List.getElem?_append_right (by rw [rotL_len]; omega), List.getElem?_append_right (by omega), rotL_len]
theorem turn_sum {f : Cask → Int} {h : House} (hv : HOK h) {r k : Nat} (hr : r ≤ h.bs.length) {p : List Int} (hl : p.length = h.ps.length) : sumB f (turnH h r k) (turnP h.bs.length r k p) (turnH h r k).bs.length = sumB f h p h.bs.length := by
  rw [sumB_N, sumB_N, show (turnH h r k).bs.length = h.bs.length from rotL_len _ _]
  rw [← sumN_turn (fun b : Nat => f (caskIn h (inOf p (b : Int)))) hr]
  exact sumN_same fun j _ => by rw [turn_cask (h := h) (o := turnH h r k) hv hr rfl rfl hl j]
theorem turn_laid {h : House} (hv : HOK h) {r k : Nat} (hr : r ≤ h.bs.length) {lo : Int} (hlo : -1 ≤ lo) (hlo2 : lo ≤ 0) {p : List Int} (hp : p ∈ fitting h lo) : laidF (turnH h r k) (turnP h.bs.length r k p) = laidF h p := by
  obtain ⟨h1, h2, _⟩ := mem_fitting hp
  obtain ⟨_, h4, _⟩ := mem_fitting (turn_fit0 (k := k) hv hr hlo2 hp)
  rw [laid_pounds (InRange.low h2 hlo), laid_pounds (InRange.low h4 hlo)]
  exact turn_sum hv hr h1
/-- One house is no worse than another, in any way. -/
structure NoWorse (h o : House) : Prop where
  f : ∀ lo, -1 ≤ lo → lo ≤ 0 → ∀ p ∈ fitting h lo, ∃ q ∈ fitting o lo, packF o q = packF h p ∧ usedF o q = usedF h p ∧ (∀ d, earlyF d o q = earlyF d h p) ∧ laidF o q = laidF h p
  m : h.bs.length < 4 → ∀ s, inR s 0 99 = true → isB (moreH h s) = true → isB (moreH o s) = true
theorem turn_noWorse {h : House} (hv : validH h = true) {r k : Nat} (hr : r ≤ h.bs.length) : NoWorse h (turnH h r k) := by
  have hV := HOK.ofValid hv
  refine ⟨fun lo h0 h1 p hp => ⟨_, turn_fit0 (k := k) hV hr h1 hp, turn_sum hV hr (mem_fitting hp).1, turn_sum hV hr (mem_fitting hp).1, fun d => turn_sum hV hr (mem_fitting hp).1, turn_laid hV hr h0 h1 hp⟩, fun hb s hs hi => ?_⟩
  have hV2 := HOK.ofValid (valid_more hv hb hs)
  have hO2 := HOK.ofValid (valid_more (valid_turn hv r k) (by show (rotL h.bs r).length < 4; rw [rotL_len]; exact hb) hs)
  rw [isB_iff hO2]
  obtain ⟨p, hp⟩ := (isB_iff hV2).1 hi
  exact ⟨_, turn_fit1 hV hr hV2 hp⟩
theorem rotL_back {α : Type} (l : List α) {r : Nat} (_hr : r ≤ l.length) : rotL (rotL l r) (l.length - r) = l := by
  unfold rotL
  have e : (l.drop r).length = l.length - r := List.length_drop
  rw [← e, List.drop_left, List.take_left, List.take_append_drop]
theorem turn_back (h : House) {r k : Nat} (hr : r ≤ h.bs.length) (hk : k ≤ h.ps.length) : turnH (turnH h r k) (h.bs.length - r) (h.ps.length - k) = h := by
  obtain ⟨ks, fl, ps, bs⟩ := h
  unfold turnH
  simp only at hr hk ⊢
  rw [rotL_back _ hr, rotL_back _ hk]
theorem noWorse_le {h o : House} (hv : validH h = true) (ho : validH o = true) (H : NoWorse h o) (_hl : o.bs.length = h.bs.length) :
    (isB h = true → isB o = true ∧ (leastS o).1 ≤ (leastS h).1 ∧ (fewS o).1 ≤ (fewS h).1) ∧ (∀ d, inR d 0 20 = true → isB h = true → (earlyS h d).1 ≤ (earlyS o d).1) ∧ (∀ m, inR m 0 999 = true → (rStockS h m).1 ≤ (rStockS o m).1) := by
  have hV := HOK.ofValid hv
  have hO := HOK.ofValid ho
  have key : ∀ p ∈ packsL h, ∃ q ∈ packsL o, packF o q = packF h p ∧ usedF o q = usedF h p ∧ (∀ d, earlyF d o q = earlyF d h p) ∧ laidF o q = laidF h p := fun p hp => by
    rw [packs_eq hV] at hp
    rw [packs_eq hO]
    exact H.f 0 (by omega) (by omega) p hp
  refine ⟨fun hi => ⟨isB_mono (fun p hp => by obtain ⟨q, hq, _⟩ := key p hp; exact ⟨q, hq⟩) hi, least_mono hv ho (fun p hp => ?_) hi, few_mono hv ho (fun p hp => ?_) hi⟩, fun d hd hi => ?_, fun m hm => ?_⟩
  · obtain ⟨q, hq, h1, _⟩ := key p hp; exact ⟨q, hq, by omega⟩
  · obtain ⟨q, hq, _, h1, _⟩ := key p hp; exact ⟨q, hq, by omega⟩
  · exact (early_mono hv ho hd (fun p hp => by obtain ⟨q, hq, _, _, h1, _⟩ := key p hp; exact ⟨q, hq, by rw [h1 d]; exact Int.le_refl _⟩) hi).2.2
  · exact (stock_mono hv ho hm fun p hp => by
      obtain ⟨q, hq, h1, _, _, h2⟩ := H.f (-1) (by omega) (by omega) p hp
      exact ⟨q, hq, by omega, by omega⟩).2.2
/-- The plain law of any order. -/
theorem turn_plain {h : House} (hv : validH h = true) {r k : Nat} (hr : r ≤ h.bs.length) (hk : k ≤ h.ps.length) :
    isB h = isB (turnH h r k) ∧ leastS h = leastS (turnH h r k) ∧ fewS h = fewS (turnH h r k) ∧ (∀ d, earlyS h d = earlyS (turnH h r k) d) ∧ (∀ m, rStockS h m = rStockS (turnH h r k) m) ∧ buyRet h = buyRet (turnH h r k) := by
  have ho := valid_turn hv r k
  have hl : (turnH h r k).bs.length = h.bs.length := rotL_len _ _
  have hp : (turnH h r k).ps.length = h.ps.length := rotL_len _ _
  have A := turn_noWorse hv (k := k) hr
  have B : NoWorse (turnH h r k) h := by
    have := turn_noWorse ho (r := h.bs.length - r) (k := h.ps.length - k) (by rw [hl]; omega)
    rwa [turn_back h hr hk] at this
  obtain ⟨a1, a2, a3⟩ := noWorse_le hv ho A hl
  obtain ⟨b1, b2, b3⟩ := noWorse_le ho hv B hl.symm
  have hi : isB h = isB (turnH h r k) := by
    rw [Bool.eq_iff_iff]; exact ⟨fun e => (a1 e).1, fun e => (b1 e).1⟩
  refine ⟨hi, ?_, ?_, fun d => ?_, fun m => ?_, buy_same hv ho hl hi fun hb s hs => ?_⟩
  · cases e : isB h
    · rw [least_no hv (isB_no.1 e), least_no ho (isB_no.1 (hi ▸ e))]
    · have e2 := hi ▸ e
      have := (a1 e).2.1
      have := (b1 e2).2.1
      obtain ⟨_, _, _, e3, _⟩ := least_yes hv (isB_ne.1 e)
      obtain ⟨_, _, _, e4, _⟩ := least_yes ho (isB_ne.1 e2)
      exact Prod.ext (by omega) (by rw [e3, e4])
  · cases e : isB h
    · rw [few_no hv (isB_no.1 e), few_no ho (isB_no.1 (hi ▸ e))]
    · have e2 := hi ▸ e
      have := (a1 e).2.2
      have := (b1 e2).2.2
      obtain ⟨_, _, _, e3, _⟩ := few_yes hv (isB_ne.1 e)
      obtain ⟨_, _, _, e4, _⟩ := few_yes ho (isB_ne.1 e2)
      exact Prod.ext (by omega) (by rw [e3, e4])
  · by_cases hd : inR d 0 20 = false
    · have e0 : ∀ g : House, validH g = true → earlyS g d = (0, 1) := fun g hg => by unfold earlyS; rw [pks_err]; simp [hg, hd]
      rw [e0 h hv, e0 _ ho]
    · have hd : inR d 0 20 = true := by simpa using hd
      cases e : isB h
      · rw [early_no hv hd (isB_no.1 e), early_no ho hd (isB_no.1 (hi ▸ e))]
      · have e2 := hi ▸ e
        have := a2 d hd e
        have := b2 d hd e2
        have e3 := early_yes hv hd (isB_ne.1 e)
        have e4 := early_yes ho hd (isB_ne.1 e2)
        exact Prod.ext (by omega) (by rw [e3, e4])
  · by_cases hm : inR m 0 999 = false
    · rw [stock_no hv hm, stock_no ho hm]
    · have hm : inR m 0 999 = true := by simpa using hm
      have := a3 m hm
      have := b3 m hm
      have e3 := stock_yes hv hm
      have e4 := stock_yes ho hm
      exact Prod.ext (by omega) (by rw [e3, e4])
  · rw [Bool.eq_iff_iff]; exact ⟨A.m hb s hs, B.m (by rw [hl]; exact hb) s hs⟩
end Go.Proofs.Ytgemmmdcpbajoaa
