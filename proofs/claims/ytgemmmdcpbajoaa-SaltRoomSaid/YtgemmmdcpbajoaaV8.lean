import Derived.Test.YtgemmmdcpbajoaaV4
namespace Go.Proofs.Ytgemmmdcpbajoaa
open Go.RowKit

theorem pack_need {h : House} {lo : Int} {p : List Int} (hp : p ∈ fitting h lo) {b : Nat} (hb : b < h.bs.length) : needC h (inOf p b) ≤ h.bs.getD b 0 := fitsR_true.1 (mem_fitting hp).2.2 b hb
theorem bs_le {h : House} (hv : HOK h) {b : Nat} (hb : b < h.bs.length) : 0 ≤ h.bs.getD b 0 ∧ h.bs.getD b 0 ≤ 99 := by
  have e : h.bs[b]? = some h.bs[b] := List.getElem?_eq_getElem hb
  have := hv.b b _ e
  rw [List.getD_eq_getElem?_getD, e]
  exact this
theorem saltC_nn {h : House} (hv : HOK h) {c : Cask} (hc : c.ok) : 0 ≤ saltC h.fl c := by
  unfold saltC
  have := hv.f0
  have := Int.mul_nonneg hc.p0 hc.s0
  split
  · exact Int.le_refl _
  · omega
theorem packF_bd2 {h : House} (hv : HOK h) {lo : Int} {p : List Int} (hp : p ∈ fitting h lo) : 0 ≤ packF h p ∧ packF h p ≤ 99 * h.bs.length := by
  obtain ⟨l1, l2, l3⟩ := mem_fitting hp
  have : ∀ k, k ≤ h.bs.length → 0 ≤ sumB (saltC h.fl) h p k ∧ sumB (saltC h.fl) h p k ≤ 99 * k := fun k => by
    induction k with
    | zero => intro _; simp [sumB]
    | succ k ih =>
      intro hk
      have h1 := ih (by omega)
      have hok := inOf_ok hv (by omega : p.length ≤ h.ps.length) (k : Int)
      have h2 := saltC_nn hv hok
      have h3 := pack_need hp (b := k) (by omega)
      have h4 := bs_le hv (b := k) (by omega)
      have h5 := hok.p0
      unfold needC at h3
      simp only [sumB]
      push_cast
      omega
  exact this _ (Nat.le_refl _)
/-- Least and Fewest of a valid house. -/
theorem least_yes {h : House} (hv : validH h = true) (hp : packsL h ≠ []) : ∃ p m, bestOf (packF h) (packsL h) = some (p, m) ∧ leastS h = (m, 0) ∧ p ∈ packsL h ∧ m = packF h p ∧ ∀ q ∈ packsL h, m ≤ packF h q := by
  cases hb : bestOf (packF h) (packsL h) with
  | none => exact absurd (bestOf_none.1 hb) hp
  | some q =>
    obtain ⟨p, m⟩ := q
    obtain ⟨e, h1, h2, _⟩ := bestOf_some hb
    refine ⟨p, m, rfl, ?_, h1, e, h2⟩
    unfold leastS
    rw [if_neg (by simp [hv]), hb]
theorem least_no {h : House} (hv : validH h = true) (hp : packsL h = []) : leastS h = (0, 3) := by
  unfold leastS
  rw [if_neg (by simp [hv]), bestOf_none.2 hp]
theorem few_yes {h : House} (hv : validH h = true) (hp : packsL h ≠ []) : ∃ p m, bestOf (usedF h) (packsL h) = some (p, m) ∧ fewS h = (m, 0) ∧ p ∈ packsL h ∧ m = usedF h p ∧ ∀ q ∈ packsL h, m ≤ usedF h q := by
  cases hb : bestOf (usedF h) (packsL h) with
  | none => exact absurd (bestOf_none.1 hb) hp
  | some q =>
    obtain ⟨p, m⟩ := q
    obtain ⟨e, h1, h2, _⟩ := bestOf_some hb
    refine ⟨p, m, rfl, ?_, h1, e, h2⟩
    unfold fewS
    rw [pks_err]
    simp only [hv, hp, if_false, Bool.true_eq_false, ne_eq, not_true_eq_false]
    rw [foldMin_best, hb]
    have := usedF_bd h p
    simp only [orMin]
    rw [show min (h.bs.length : Int) m = m by omega]
theorem few_no {h : House} (hv : validH h = true) (hp : packsL h = []) : fewS h = (0, 3) := by
  unfold fewS
  rw [pks_err]
  simp [hv, hp]
def isB (h : House) : Bool := !(packsL h).isEmpty
theorem both_nums {h : House} (hv : validH h = true) : (isB h = true ∧ (leastS h).2 = 0 ∧ (fewS h).2 = 0 ∨ isB h = false ∧ (leastS h).2 = 3 ∧ (fewS h).2 = 3) ∧ 0 ≤ (leastS h).1 ∧ (leastS h).1 ≤ 400 ∧ 0 ≤ (fewS h).1 ∧ (fewS h).1 ≤ h.bs.length := by
  have hV := HOK.ofValid hv
  by_cases hp : packsL h = []
  · rw [least_no hv hp, few_no hv hp]
    exact ⟨.inr ⟨by simp [isB, hp], rfl, rfl⟩, by simp, by simp, by simp, by simp⟩
  · obtain ⟨p, m, _, e1, h1, h2, _⟩ := least_yes hv hp
    obtain ⟨q, k, _, e2, h3, h4, _⟩ := few_yes hv hp
    have b1 := packF_bd2 hV (by rw [← packs_eq hV]; exact h1)
    have b2 := usedF_bd h q
    have := hV.bl
    rw [e1, e2]
    refine ⟨.inl ⟨by simp [isB, hp], rfl, rfl⟩, ?_, ?_, ?_, ?_⟩
    all_goals (simp only; omega)
set_option maxRecDepth 100000 in
set_option maxHeartbeats 4000000 in
theorem both_any (L : HL) (h : House) (hv : validH h = true) (w : World) (hH : HouseAt w w.heap.size L h) :
    Calls Try.prog 44 #[L.enc h] w fun e w' => e = .returned (.tuple #[.int .i64 (leastS h).1, .int .i64 (fewS h).1, .bool (isB h), .bool false]) ∧ Below w.heap.size w w' := by
  have hV := HOK.ofValid hv
  have HN := Lib.hid (show h.ks.length ≤ 1000 ∧ h.ps.length ≤ 1000 ∧ h.bs.length ≤ 1000 from ⟨by have := hV.kl; omega, by have := hV.pl; omega, by have := hV.bl; omega⟩)
  have hbw := (Below.refl w.heap.size w).alloc (Nat.le_refl _) (.cells #[.slice L.Ak h.ks.length L.ck, .int .i64 h.fl, .slice L.Ap h.ps.length L.cp, .slice L.Ab h.bs.length L.cb] 26)
  have HB := Lib.hid (HBox.new w L h)
  have hc0 := (HBox.new w L h).cells
  obtain ⟨W0, hW0⟩ : ∃ W0, w.alloc (.cells #[.slice L.Ak h.ks.length L.ck, .int .i64 h.fl, .slice L.Ap h.ps.length L.cp, .slice L.Ab h.bs.length L.cb] 26) = W0 := ⟨_, rfl⟩
  rw [hW0] at hbw HB hc0
  have HBW := Lib.hid hbw
  have HW0 := Lib.hid hW0
  have HH := Lib.hid (hH.below hbw)
  obtain ⟨hc, m0, m1, n0, n1⟩ := both_nums hv
  have HL := Lib.hid (least_any2 L h HN.out W0 (hH.below hbw))
  have HF := Lib.hid (fewest_any2 L h HN.out)
  clear hbw hW0 hH hV hv
  obtain ⟨m, hm⟩ : ∃ m, m = (leastS h).1 := ⟨_, rfl⟩
  obtain ⟨n, hn⟩ : ∃ n, n = (fewS h).1 := ⟨_, rfl⟩
  obtain ⟨e1, he1⟩ : ∃ e, e = (leastS h).2 := ⟨_, rfl⟩
  obtain ⟨e2, he2⟩ : ∃ e, e = (fewS h).2 := ⟨_, rfl⟩
  obtain ⟨is, his⟩ : ∃ b, b = isB h := ⟨_, rfl⟩
  rw [← hm, ← he1] at HL
  rw [← hn, ← he2] at HF
  rw [← hm, ← hn, ← his]
  rw [← hm] at m0 m1
  rw [← hn] at n0 n1
  rw [← he1, ← he2, ← his] at hc
  clear hm hn he1 he2 his
  have d1 : decide (m < 0) = false := decide_eq_false (by omega)
  have d2 : decide (1000 < m) = false := decide_eq_false (by omega)
  have d3 : decide (n < 0) = false := decide_eq_false (by omega)
  have d4 : decide ((h.bs.length : Int) < n) = false := decide_eq_false (by omega)
  rcases hc with ⟨rfl, rfl, rfl⟩ | ⟨rfl, rfl, rfl⟩
  · obtain ⟨Ak, ck, Ap, cp, Ab, cb⟩ := L
    go_enter Try.func44, Try.ntmps44
    go_upto_region 1 with (fail)
    have e := HW0.out
    rw [e]
    clear e
    go_wp2_with (first
      | (go_at_call 36; refine (HL.out).mono ?_; rintro e w1 ⟨rfl, hb1⟩; have HB1 := Lib.hid hb1; have hc1 := (HB.out.of (hb1.block _ HB.out.lt)).cells; clear hb1)
      | (go_at_call 40; refine (HF.out w1 (HH.out.below HB1.out)).mono ?_; rintro e w2 ⟨rfl, hb2⟩; have HB2 := Lib.hid (hb0to HB1.out hb2); have hc2 := (HB.out.of (HB2.out.block _ HB.out.lt)).cells; clear hb2))
    refine bodyPost_ret (v := .tuple #[.int .i64 m, .int .i64 n, .bool true, .bool false]) (by simp [results, Try.results44, go_sem]) rfl ⟨rfl, hb0to HBW.out HB2.out⟩
  · obtain ⟨Ak, ck, Ap, cp, Ab, cb⟩ := L
    go_enter Try.func44, Try.ntmps44
    go_upto_region 1 with (fail)
    have e := HW0.out
    rw [e]
    clear e
    go_wp2_with (first
      | (go_at_call 36; refine (HL.out).mono ?_; rintro e w1 ⟨rfl, hb1⟩; have HB1 := Lib.hid hb1; have hc1 := (HB.out.of (hb1.block _ HB.out.lt)).cells; clear hb1)
      | (go_at_call 40; refine (HF.out w1 (HH.out.below HB1.out)).mono ?_; rintro e w2 ⟨rfl, hb2⟩; have HB2 := Lib.hid (hb0to HB1.out hb2); have hc2 := (HB.out.of (HB2.out.block _ HB.out.lt)).cells; clear hb2))
    refine bodyPost_ret (v := .tuple #[.int .i64 m, .int .i64 n, .bool false, .bool false]) (by simp [results, Try.results44, go_sem]) rfl ⟨rfl, hb0to HBW.out HB2.out⟩
end Go.Proofs.Ytgemmmdcpbajoaa
namespace Go.Proofs.Ytgemmmdcpbajoaa
open Go.RowKit

theorem foldMax_snoc (f : List Int → Int) (i : Int) (l : List (List Int)) (x : List Int) : foldMax f i (l ++ [x]) = if foldMax f i l < f x then f x else foldMax f i l := by
  unfold foldMax; rw [List.foldl_append]; rfl
theorem foldMax_mono {f g : List Int → Int} {i : Int} {l : List (List Int)} : (∀ p ∈ l, f p ≤ g p) → foldMax f i l ≤ foldMax g i l := by
  refine snoc_ind (P := fun l => (∀ p ∈ l, f p ≤ g p) → foldMax f i l ≤ foldMax g i l) (fun _ => Int.le_refl _) (fun l x ih h => ?_) l
  have h1 := ih fun p hp => h p (by simp [hp])
  have h2 := h x (by simp)
  rw [foldMax_snoc, foldMax_snoc]
  split <;> split <;> omega
theorem foldMax_ge {f : List Int → Int} {i : Int} {l : List (List Int)} : i ≤ foldMax f i l ∧ ∀ p ∈ l, f p ≤ foldMax f i l := by
  refine snoc_ind (P := fun l => i ≤ foldMax f i l ∧ ∀ p ∈ l, f p ≤ foldMax f i l) ⟨Int.le_refl _, fun p hp => by simp at hp⟩ (fun l x ih => ?_) l
  obtain ⟨h1, h2⟩ := ih
  rw [foldMax_snoc]
  refine ⟨by split <;> omega, fun p hp => ?_⟩
  rcases List.mem_append.1 hp with h3 | h3
  · have := h2 p h3
    split <;> omega
  · simp at h3
    subst h3
    split <;> omega
theorem foldMax_at {f : List Int → Int} {i : Int} {l : List (List Int)} : foldMax f i l = i ∨ ∃ p ∈ l, foldMax f i l = f p := by
  refine snoc_ind (P := fun l => foldMax f i l = i ∨ ∃ p ∈ l, foldMax f i l = f p) (.inl rfl) (fun l x ih => ?_) l
  rw [foldMax_snoc]
  by_cases h : foldMax f i l < f x
  · rw [if_pos h]; exact .inr ⟨x, by simp, rfl⟩
  · rw [if_neg h]
    rcases ih with h1 | ⟨p, hp, h1⟩
    · exact .inl h1
    · exact .inr ⟨p, by simp [hp], h1⟩
theorem sumB_mono {f g : Cask → Int} {h : House} {p : List Int} (hfg : ∀ b : Nat, f (caskIn h (inOf p b)) ≤ g (caskIn h (inOf p b))) : ∀ k, sumB f h p k ≤ sumB g h p k
  | 0 => Int.le_refl _
  | k + 1 => by
    have := sumB_mono hfg k
    have := hfg k
    simp only [sumB]
    omega
theorem earlyF_mono {h : House} (hv : HOK h) {d d' : Int} (hd : d ≤ d') {p : List Int} (hl : p.length ≤ h.ps.length) : earlyF d h p ≤ earlyF d' h p := by
  refine sumB_mono (fun b => ?_) _
  have := (inOf_ok hv hl (b : Int)).p0
  unfold earlyC
  split <;> split <;> omega
theorem earlyF_all {h : House} (hv : HOK h) {p : List Int} (hp : p ∈ packsL h) : earlyF 20 h p = allP h h.ps.length := by
  obtain ⟨l1, l2⟩ := mem_packsL hp
  have e1 : earlyF 20 h p = sumB (·.p) h p h.bs.length := by
    have : ∀ k, sumB (earlyC 20) h p k = sumB (·.p) h p k := fun k => by
      induction k with
      | zero => rfl
      | succ k ih =>
        have := (inOf_ok hv (by omega : p.length ≤ h.ps.length) (k : Int)).d1
        simp only [sumB, ih, earlyC, if_pos this]
    exact this _
  rw [e1, ← laid_pounds (InRange.low (lo := 0) l2 (by omega)), ← l1]
  exact laidTo_all (nb := h.bs.length) l2 p.length (Nat.le_refl _)
theorem early_no {h : House} (hv : validH h = true) {d : Int} (hd : inR d 0 20 = true) (hp : packsL h = []) : earlyS h d = (0, 3) := by
  unfold earlyS
  rw [pks_err]
  simp [hv, hp, hd]
theorem early_yes {h : House} (hv : validH h = true) {d : Int} (hd : inR d 0 20 = true) (hp : packsL h ≠ []) : earlyS h d = (foldMax (earlyF d h) 0 (packsL h), 0) := by
  unfold earlyS
  rw [pks_err]
  simp [hv, hp, hd]
/-- The plain law of the later day. -/
theorem later_plain {h : House} (hv : validH h = true) {a b : Int} (ha : inR a 0 20 = true) (hb : inR b 0 20 = true) (hab : a ≤ b) :
    (isB h = false ∧ (earlyS h a).2 = 3 ∧ (earlyS h b).2 = 3 ∧ (earlyS h 20).2 = 3) ∨
    (isB h = true ∧ (earlyS h a).2 = 0 ∧ (earlyS h b).2 = 0 ∧ (earlyS h 20).2 = 0 ∧ 0 ≤ (earlyS h a).1 ∧ (earlyS h a).1 ≤ (earlyS h b).1 ∧ (earlyS h b).1 ≤ (earlyS h 20).1 ∧ (earlyS h 20).1 = allP h h.ps.length) := by
  have hV := HOK.ofValid hv
  by_cases hp : packsL h = []
  · rw [early_no hv ha hp, early_no hv hb hp, early_no hv (by decide) hp]
    exact .inl ⟨by simp [isB, hp], rfl, rfl, rfl⟩
  · rw [early_yes hv ha hp, early_yes hv hb hp, early_yes hv (by decide) hp]
    have hlen : ∀ p ∈ packsL h, p.length ≤ h.ps.length := fun p hp => by have := (mem_packsL hp).1; omega
    have hb1 := inR_true.1 hb
    refine .inr ⟨by simp [isB, hp], rfl, rfl, rfl, foldMax_ge.1, foldMax_mono fun p hp => earlyF_mono hV hab (hlen p hp), foldMax_mono fun p hp => earlyF_mono hV hb1.2 (hlen p hp), ?_⟩
    obtain ⟨p, hpm⟩ := List.exists_mem_of_ne_nil _ hp
    have h0 := (allP_in hV h.ps.length (Nat.le_refl _)).1
    have h1 := (foldMax_ge (f := earlyF 20 h) (i := 0) (l := packsL h)).2 p hpm
    rw [earlyF_all hV hpm] at h1
    show foldMax (earlyF 20 h) 0 (packsL h) = _
    rcases foldMax_at (f := earlyF 20 h) (i := 0) (l := packsL h) with h2 | ⟨q, hq, h2⟩
    · omega
    · rw [h2, earlyF_all hV hq]

/-! The stock. -/
def stockM (h : House) (much : Int) : List (List Int) := (fitting h (-1)).filter fun p => decide (packF h p ≤ much)
theorem rStockL_max (h : House) (much : Int) : rStockL h much (fitting h (-1)) = foldMax (laidF h) 0 (stockM h much) := by
  unfold rStockL foldMax stockM
  rw [foldl_filter]
  refine foldl_same _ _ fun x _ m => ?_
  unfold rStockF
  by_cases h1 : packF h x ≤ much
  · simp [h1]
  · simp [h1]
theorem laidTo_le {h : House} (hv : HOK h) (p : List Int) : ∀ k, k ≤ h.ps.length → 0 ≤ (caskIn h (laidTo p k)).p ∧ (caskIn h (laidTo p k)).p ≤ allP h k
  | 0, _ => ⟨Int.le_refl _, Int.le_refl _⟩
  | k + 1, hk => by
    obtain ⟨i1, i2⟩ := laidTo_le hv p k (by omega)
    obtain ⟨kk, p1, p2, p3, ⟨p4, p5⟩, _⟩ := hv.part (k := k) hk
    by_cases hm : barrelOf p k = -1
    · rw [laidTo_no (by simpa using hm)]
      simp only [allP]
      omega
    · rw [laidTo_yes hm, caskIn_p]
      simp only [allP, Int.toNat_natCast]
      omega
theorem laidTo_full {h : House} (hv : HOK h) (hbare : ∀ k, k < h.ps.length → (partOf h k).2 ≠ 0) (p : List Int) : ∀ k, k ≤ h.ps.length → (caskIn h (laidTo p k)).p = allP h k → ∀ j, j < k → barrelOf p j ≠ -1
  | 0, _, _, j, hj => by omega
  | k + 1, hk, he, j, hj => by
    obtain ⟨i1, i2⟩ := laidTo_le hv p k (by omega)
    obtain ⟨kk, p1, p2, p3, ⟨p4, p5⟩, _⟩ := hv.part (k := k) hk
    have hb := hbare k hk
    by_cases hm : barrelOf p k = -1
    · rw [laidTo_no (by simpa using hm)] at he
      simp only [allP] at he
      omega
    · rw [laidTo_yes hm, caskIn_p] at he
      simp only [allP, Int.toNat_natCast] at he
      rcases Nat.lt_succ_iff_lt_or_eq.1 hj with h1 | rfl
      · exact laidTo_full hv hbare p k (by omega) (by omega) j h1
      · exact hm
theorem replicate_none (n : Nat) (b : Int) (hb : b ≠ -1) : ∀ k, inTo (List.replicate n (-1)) b k = []
  | 0 => rfl
  | k + 1 => by
    rw [inTo_no, replicate_none n b hb k]
    unfold barrelOf
    rw [List.getD_eq_getElem?_getD]
    by_cases hk : k < n
    · rw [List.getElem?_replicate_of_lt hk]; simpa using fun e => hb e.symm
    · rw [List.getElem?_eq_none (by simpa using hk)]; simpa using fun e => hb e.symm
theorem bare_fits {h : House} (hv : HOK h) : List.replicate h.ps.length (-1) ∈ fitting h (-1) ∧ packF h (List.replicate h.ps.length (-1)) = 0 := by
  have hin : ∀ b : Nat, inOf (List.replicate h.ps.length (-1)) (b : Int) = [] := fun b => replicate_none _ _ (by omega) _
  refine ⟨List.mem_filter.2 ⟨mem_allS.2 ⟨by simp, fun x hx => ?_⟩, ?_⟩, ?_⟩
  · have := List.eq_of_mem_replicate hx
    subst this
    omega
  · rw [fitsR_true]
    intro b hb
    rw [hin b]
    have hb0 := (bs_le hv hb).1
    rw [List.getD_eq_getElem?_getD] at hb0
    unfold needC saltC caskIn
    simpa [c0] using hb0
  · have : ∀ k, sumB (saltC h.fl) h (List.replicate h.ps.length (-1)) k = 0 := fun k => by
      induction k with
      | zero => rfl
      | succ k ih => simp only [sumB, ih, hin k]; rfl
    exact this _
theorem fitting_less {h : House} {p : List Int} (hp : p ∈ fitting h 0) : p ∈ fitting h (-1) := by
  obtain ⟨h1, h2, h3⟩ := mem_fitting hp
  exact List.mem_filter.2 ⟨mem_allS.2 ⟨h1, fun x hx => by have := h2 x hx; omega⟩, h3⟩
def bareB (h : House) : Bool := h.ps.any fun x => decide (x.2 = 0)
/-- The plain law of the stock. -/
theorem stocks_plain {h : House} (hv : validH h = true) {a b : Int} (ha : inR a 0 999 = true) (hb : inR b 0 999 = true) (hab : a ≤ b) :
    (rStockS h a).2 = 0 ∧ (rStockS h b).2 = 0 ∧ 0 ≤ (rStockS h a).1 ∧ (rStockS h a).1 ≤ (rStockS h b).1 ∧ (rStockS h b).1 ≤ allP h h.ps.length ∧
    (bareB h = false → ((rStockS h a).1 = allP h h.ps.length ↔ (isB h = true ∧ (leastS h).1 ≤ a))) ∧ (isB h = true → (leastS h).1 ≤ a → (rStockS h a).1 = allP h h.ps.length) := by
  have hV := HOK.ofValid hv
  have he : ∀ m, inR m 0 999 = true → rStockS h m = (foldMax (laidF h) 0 (stockM h m), 0) := fun m hm => by
    unfold rStockS askH
    rw [← rStockL_max]
    simp [hv, hm]
  rw [he a ha, he b hb]
  have ha0 := inR_true.1 ha
  have hmem : ∀ m p, p ∈ stockM h m ↔ p ∈ fitting h (-1) ∧ packF h p ≤ m := fun m p => by simp [stockM]
  have hle : ∀ p ∈ fitting h (-1), laidF h p ≤ allP h h.ps.length := fun p hp => by
    have h1 := (mem_fitting hp).1
    unfold laidF laidOf
    rw [h1]
    exact (laidTo_le hV p _ (Nat.le_refl _)).2
  have hall := (allP_in hV h.ps.length (Nat.le_refl _)).1
  have hup : ∀ m, foldMax (laidF h) 0 (stockM h m) ≤ allP h h.ps.length := fun m => by
    rcases foldMax_at (f := laidF h) (i := 0) (l := stockM h m) with h1 | ⟨p, hp, h1⟩
    · rw [h1]; exact hall
    · rw [h1]; exact hle p ((hmem m p).1 hp).1
  have hfull : isB h = true → (leastS h).1 ≤ a → foldMax (laidF h) 0 (stockM h a) = allP h h.ps.length := fun hi hm => by
    have hp : packsL h ≠ [] := by intro e; simp [isB, e] at hi
    obtain ⟨p, m, _, e1, h1, e2, _⟩ := least_yes hv hp
    rw [e1] at hm
    rw [packs_eq hV] at h1
    obtain ⟨l1, l2, _⟩ := mem_fitting h1
    have hq : p ∈ stockM h a := (hmem a p).2 ⟨fitting_less h1, by rw [← e2]; exact hm⟩
    have h3 := (foldMax_ge (f := laidF h) (i := 0) (l := stockM h a)).2 p hq
    have h4 : laidF h p = allP h h.ps.length := by rw [← l1]; exact laidTo_all (nb := h.bs.length) l2 p.length (Nat.le_refl _)
    have := hup a
    omega
  refine ⟨rfl, rfl, foldMax_ge.1, ?_, hup b, fun hbare => ⟨fun h1 => ?_, fun h1 => hfull h1.1 h1.2⟩, hfull⟩
  · show foldMax (laidF h) 0 (stockM h a) ≤ foldMax (laidF h) 0 (stockM h b)
    rcases foldMax_at (f := laidF h) (i := 0) (l := stockM h a) with h1 | ⟨p, hp, h1⟩
    · rw [h1]; exact foldMax_ge.1
    · rw [h1]
      obtain ⟨h2, h3⟩ := (hmem a p).1 hp
      exact foldMax_ge.2 p ((hmem b p).2 ⟨h2, by omega⟩)
  · have h1 : foldMax (laidF h) 0 (stockM h a) = allP h h.ps.length := h1
    obtain ⟨p, hp, h2⟩ : ∃ p ∈ stockM h a, laidF h p = allP h h.ps.length := by
      rcases foldMax_at (f := laidF h) (i := 0) (l := stockM h a) with h2 | ⟨p, hp, h2⟩
      · obtain ⟨q1, q2⟩ := bare_fits hV
        have hq : List.replicate h.ps.length (-1) ∈ stockM h a := (hmem a _).2 ⟨q1, by omega⟩
        have h3 := (foldMax_ge (f := laidF h) (i := 0) (l := stockM h a)).2 _ hq
        have h4 := (laidTo_le hV (List.replicate h.ps.length (-1)) h.ps.length (Nat.le_refl _)).1
        refine ⟨_, hq, ?_⟩
        have e : laidF h (List.replicate h.ps.length (-1)) = (caskIn h (laidTo (List.replicate h.ps.length (-1)) h.ps.length)).p := by unfold laidF laidOf; rw [List.length_replicate]
        rw [e] at h3 ⊢
        omega
      · exact ⟨p, hp, by rw [← h2]; exact h1⟩
    obtain ⟨h3, h4⟩ := (hmem a p).1 hp
    obtain ⟨l1, l2, l3⟩ := mem_fitting h3
    have hb2 : ∀ k, k < h.ps.length → (partOf h k).2 ≠ 0 := fun k hk e => by
      obtain ⟨kk, p1, _⟩ := hV.part hk
      have : bareB h = true := by
        unfold bareB
        rw [List.any_eq_true]
        exact ⟨_, List.mem_of_getElem? p1, by simp [e]⟩
      rw [this] at hbare
      cases hbare
    have h5 : ∀ j, j < p.length → barrelOf p j ≠ -1 := fun j hj => by
      refine laidTo_full hV hb2 p h.ps.length (Nat.le_refl _) ?_ j (by omega)
      unfold laidF laidOf at h2
      rw [l1] at h2
      exact h2
    have h6 : p ∈ packsL h := by
      rw [packs_eq hV]
      refine List.mem_filter.2 ⟨mem_allS.2 ⟨l1, fun x hx => ?_⟩, l3⟩
      obtain ⟨j, hj, rfl⟩ := List.mem_iff_getElem.1 hx
      have h7 := h5 j hj
      have h8 : barrelOf p j = p[j] := by simp [barrelOf, List.getD, List.getElem?_eq_getElem hj]
      have := l2 _ hx
      omega
    have hne : packsL h ≠ [] := List.ne_nil_of_mem h6
    obtain ⟨q, m, _, e1, _, _, e3⟩ := least_yes hv hne
    refine ⟨by simp [isB, hne], ?_⟩
    rw [e1]
    have := e3 p h6
    show m ≤ a
    omega
end Go.Proofs.Ytgemmmdcpbajoaa
