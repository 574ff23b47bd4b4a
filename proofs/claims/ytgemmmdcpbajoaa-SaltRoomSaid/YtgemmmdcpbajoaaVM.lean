import Derived.Test.YtgemmmdcpbajoaaV8
namespace Go.Proofs.Ytgemmmdcpbajoaa
open Go.RowKit

/-! One more barrel. -/
def moreH (h : House) (s : Int) : House := { h with bs := h.bs ++ [s] }
theorem valid_more {h : House} (hv : validH h = true) (hb : h.bs.length < 4) {s : Int} (hs : inR s 0 99 = true) : validH (moreH h s) = true := by
  unfold validH bigOK at hv ⊢
  simp only [Bool.and_eq_true, decide_eq_true_eq] at hv ⊢
  obtain ⟨⟨h1, h2, h3, h4⟩, h5, h6, h7⟩ := hv
  refine ⟨⟨h1, h2, h3, ?_⟩, h5, h6, ?_⟩
  · simp only [moreH, List.length_append, List.length_singleton]; omega
  · simp only [moreH, List.all_append, h7, Bool.true_and]; simpa using hs
theorem caskIn_more (h : House) (s : Int) (l : List Int) : caskIn (moreH h s) l = caskIn h l := rfl
theorem needC_more (h : House) (s : Int) (l : List Int) : needC (moreH h s) l = needC h l := rfl
theorem more_len (h : House) (s : Int) : (moreH h s).bs.length = h.bs.length + 1 := by simp [moreH]
theorem more_at {h : House} {s : Int} {b : Nat} (hb : b < h.bs.length) : (moreH h s).bs.getD b 0 = h.bs.getD b 0 := by
  simp [moreH, List.getD, List.getElem?_append_left hb]
theorem more_end (h : House) (s : Int) : (moreH h s).bs.getD h.bs.length 0 = s := by simp [moreH, List.getD]
theorem fitsR_more (h : House) (s : Int) (p : List Int) : fitsR (moreH h s) p = true ↔ fitsR h p = true ∧ needC h (inOf p (h.bs.length : Int)) ≤ s := by
  rw [fitsR_true, fitsR_true, more_len]
  constructor
  · intro H
    refine ⟨fun b hb => ?_, ?_⟩
    · have := H b (by omega)
      rw [more_at hb] at this; exact this
    · have := H h.bs.length (by omega)
      rw [more_end] at this; exact this
  · rintro ⟨H, hs⟩ b hb
    by_cases e : b < h.bs.length
    · rw [more_at e]; exact H b e
    · obtain rfl : b = h.bs.length := by omega
      rw [more_end]; exact hs
theorem buyL_le {h : House} {s : Int} (hs : s ≤ 99) : ∀ L : List (List Int), buyL h L ≤ s ↔ ∃ p ∈ L, fitsC h (packedC h p) = true ∧ needAt h h.bs.length p ≤ s := fun L => by
  refine snoc_ind (P := fun L => buyL h L ≤ s ↔ ∃ p ∈ L, fitsC h (packedC h p) = true ∧ needAt h h.bs.length p ≤ s) ?_ (fun L x ih => ?_) L
  · simp [buyL]; omega
  · rw [buyL_snoc]
    simp only [List.mem_append, List.mem_singleton]
    have key : buyF h (buyL h L) x ≤ s ↔ buyL h L ≤ s ∨ (fitsC h (packedC h x) = true ∧ needAt h h.bs.length x ≤ s) := by
      unfold buyF
      by_cases hf : fitsC h (packedC h x) = true
      · rw [if_pos hf]
        simp only [hf, true_and]
        split <;> omega
      · rw [if_neg hf]
        simp [hf]
    rw [key, ih]
    constructor
    · rintro (⟨p, hp, h1⟩ | h1)
      · exact ⟨p, .inl hp, h1⟩
      · exact ⟨x, .inr rfl, h1⟩
    · rintro ⟨p, hp | rfl, h1⟩
      · exact .inl ⟨p, hp, h1⟩
      · exact .inr h1
/-- What fits with one more barrel of some size. -/
theorem more_fit {h : House} (hv : HOK h) (hb : h.bs.length < 4) (s : Int) {p : List Int} (hp : p ∈ allS 0 (h.bs.length + 1) h.ps.length) : fitsR (moreH h s) p = true ↔ fitsC h (packedC h p) = true ∧ needAt h h.bs.length p ≤ s := by
  obtain ⟨h1, h2⟩ := mem_allS.1 hp
  have hr : InRange (-1) (h.bs.length + 1) p := fun x hx => by have := h2 x hx; omega
  rw [fitsR_more, fits_packed hv h1 hr (by omega)]
  unfold needAt
  rw [caskOf_packed h1 hr (by omega) (by omega)]
  rfl
theorem isB_iff {h : House} (hv : HOK h) : isB h = true ↔ ∃ p, p ∈ fitting h 0 := by
  unfold isB
  rw [packs_eq hv]
  cases fitting h 0 with
  | nil => simp
  | cons a l => simp
theorem more_is {h : House} (hv : HOK h) (hb : h.bs.length < 4) {s : Int} (hV : HOK (moreH h s)) (hs : s ≤ 99) : isB (moreH h s) = true ↔ buyL h (allS 0 (h.bs.length + 1) h.ps.length) ≤ s := by
  rw [isB_iff hV, buyL_le hs]
  unfold fitting
  rw [more_len]
  constructor
  · rintro ⟨p, hp⟩
    obtain ⟨h1, h2⟩ := List.mem_filter.1 hp
    exact ⟨p, h1, (more_fit hv hb s h1).1 h2⟩
  · rintro ⟨p, h1, h2⟩
    exact ⟨p, List.mem_filter.2 ⟨h1, (more_fit hv hb s h1).2 h2⟩⟩
theorem inTo_none {p : List Int} {b : Int} : ∀ {k : Nat}, (∀ j, j < k → barrelOf p j ≠ b) → inTo p b k = []
  | 0, _ => rfl
  | k + 1, h => by rw [inTo_no (h k (by omega)), inTo_none fun j hj => h j (by omega)]
theorem inOf_far {lo : Int} {nb : Nat} {p : List Int} (hr : InRange lo nb p) {b : Int} (hb : b < lo ∨ (nb : Int) ≤ b) : inOf p b = [] := by
  refine inTo_none fun j hj e => ?_
  have hx : p[j]? = some (barrelOf p j) := by simp [barrelOf, List.getD, List.getElem?_eq_getElem hj]
  have := hr _ (List.mem_of_getElem? hx)
  omega
theorem need_nil (h : House) : needC h [] = 0 := by simp [needC, caskIn, saltC, c0]
/-- A packing is one with one more barrel. -/
theorem fit_more {h : House} {s : Int} (hs : 0 ≤ s) {lo : Int} (_hlo : lo ≤ 0) {p : List Int} (hp : p ∈ fitting h lo) : p ∈ fitting (moreH h s) lo := by
  obtain ⟨h1, h2, h3⟩ := mem_fitting hp
  refine List.mem_filter.2 ⟨mem_allS.2 ⟨h1, fun x hx => ?_⟩, (fitsR_more h s p).2 ⟨h3, ?_⟩⟩
  · have := h2 x hx
    rw [more_len]; omega
  · rw [inOf_far h2 (.inr (Int.le_refl _)), need_nil]; exact hs
theorem isB_no {h : House} : isB h = false ↔ packsL h = [] := by simp [isB]
/-- What Buy says, with packings of a house with one more barrel. -/
theorem buy_plain {h : House} (hv : validH h = true) (hb : h.bs.length < 4) {s : Int} (hs : inR s 0 99 = true) :
    (isB h = true → buyRet h = (0, 0)) ∧ (isB h = false → (buyRet h = (0, 3) ∧ isB (moreH h s) = false) ∨ ((buyRet h).2 = 0 ∧ 0 ≤ (buyRet h).1 ∧ (buyRet h).1 ≤ 99 ∧ (isB (moreH h s) = true ↔ (buyRet h).1 ≤ s))) ∧ (isB h = true → isB (moreH h s) = true) := by
  have hV := HOK.ofValid hv
  have hV2 := HOK.ofValid (valid_more hv hb hs)
  have hs1 := inR_true.1 hs
  refine ⟨fun hi => ?_, fun hi => ?_, fun hi => ?_⟩
  · have : packsL h ≠ [] := fun e => by rw [isB_no.2 e] at hi; cases hi
    unfold buyRet; simp [hv, this]
  · have hp := isB_no.1 hi
    have hbd := buyL_bd hV hb (allS 0 (h.bs.length + 1) h.ps.length)
    have hm := more_is hV hb hV2 hs1.2
    by_cases h9 : 99 < buyL h (allS 0 (h.bs.length + 1) h.ps.length)
    · left
      refine ⟨by unfold buyRet; rw [if_neg (by simp [hv]), if_neg (by simp [hp]), if_neg (by omega), if_pos h9], ?_⟩
      cases e : isB (moreH h s)
      · rfl
      · have := hm.1 e; omega
    · right
      have e : buyRet h = (buyL h (allS 0 (h.bs.length + 1) h.ps.length), 0) := by unfold buyRet; rw [if_neg (by simp [hv]), if_neg (by simp [hp]), if_neg (by omega), if_neg h9]
      rw [e]
      exact ⟨rfl, hbd.1, by show _ ≤ _; omega, hm⟩
  · rw [isB_iff hV] at hi
    rw [isB_iff hV2]
    obtain ⟨p, hp⟩ := hi
    exact ⟨p, fit_more hs1.1 (by omega) hp⟩
end Go.Proofs.Ytgemmmdcpbajoaa
namespace Go.Proofs.Ytgemmmdcpbajoaa
open Go.RowKit

/-! More: a copy with one more barrel. -/
/-- 'out = append(out, x)', out the call's own; what grows is told. -/
theorem wpl_appG {ops : Array Oper} {rest : List Oper} {o : Oper} {a : Act} {w : World} {Q : Exit → Act → World → Prop} (hgd : o.guard = none) (s x : Operand)
    (ho : o.op = .call { callee := .builtin .append, args := #[s, x], argTypes := #[24, 24] }) (n₀ base : Nat) (v : Value) (l : List Int) (k : Int) (hs : a.eval s = v) (hown : Ints w base v l)
    (ad : Addr) (c : Nat) (hx : a.eval x = .slice (some ad) 1 c) (hc : w.cell? ad = some (.int .i64 k)) (hl : l.length ≤ 1000) (hbase : base ≤ w.heap.size) (hn : n₀ ≤ base)
    (h : ∀ v' w', Ints w' base v' (l ++ [k]) → Below n₀ w w' → w.grownBy w' v.ownBlock → wpList Try.prog ops Q rest (a.put o.dst v') w') : wpList Try.prog ops Q (o :: rest) a w := by
  obtain ⟨i0, hi, hz0, hz1, hz2⟩ := info_parts info3'
  refine wpList_append_own w hgd s x 24 ho base 3 i0 (.int .i64 0) 1 8 Try.underlying24 hi hz0 hz1 hz2 rfl (by decide) v l.length (l.map (.int .i64)) hs hown ad 1 c [.int .i64 k] hx rfl ?_ ?_ ?_ ?_ hbase ?_
  · intro j u hj
    match j, hj with
    | 0, hj => simp at hj; subst hj; simpa [Addr.add] using hc
  · intro u hu; simp at hu; subst hu; rfl
  · unfold maxLen; omega
  · omega
  · intro v' w' h2 h3 _
    refine h v' w' ?_ (own_below hown h3 (by omega) hn) h3
    unfold Ints
    rw [List.length_append, List.map_append]
    exact h2
theorem OwnsP.keepB {W W' : World} {t : TypeId} {base n : Nat} {v : Value} {l : List (Int × Int)} (h : OwnsP W t base v l) (hb : Below n W W') (hlt : ∀ g, v.ownBlock = some g → g < n) : OwnsP W' t base v l := by
  refine ⟨h.1, ?_⟩
  rcases h.2 with h2 | ⟨g, cap, cur, e, hb2, hg, h4⟩
  · exact .inl h2
  · refine .inr ⟨g, cap, cur, e, hb2, (hb.block g (hlt g ?_)).trans hg, h4⟩
    rw [e]; rfl
theorem ints_lt {W : World} {base : Nat} {v : Value} {l : List Int} (h : Ints W base v l) : ∀ g, v.ownBlock = some g → g < W.heap.size := fun g hg => (World.ownsRow.lt h g hg).2
/-- The bounds of a copy's blocks lie below the memory's end. -/
theorem Copied.cut {W : World} {n0 n1 n2 : Nat} {L : HL} {h : House} (H : Copied W n0 n1 n2 L h) (h0 : n0 ≤ W.heap.size) : ∃ m1 m2, Copied W n0 m1 m2 L h ∧ m2 ≤ W.heap.size :=
  ⟨min n1 W.heap.size, min n2 W.heap.size, ⟨H.k, fun g hg => by have := H.k1 g hg; have := ownP_lt H.k g hg; omega, H.p.mono (by omega), fun g hg => by have := H.p1 g hg; have := ownP_lt H.p g hg; omega, H.b.mono (by omega), by have := H.n01; omega, by have := H.n12; omega⟩, by omega⟩
/-- A box of a house's kind, as it was made. -/
def ZBox (W : World) (b : Nat) : Prop := W.heap[b]? = some (.cells #[.slice none 0 0, .int .i64 0, .slice none 0 0, .slice none 0 0] 26 (0, 0))
theorem box_store {W : World} {b : Nat} (hy : ZBox W b) (x y z u : Value) :
    (Instr.loadAt 26 (.pointer (some ⟨b, 0, none⟩))).run Try.prog ((((W.setCell ⟨b, 0, none⟩ x).setCell ⟨b, 1, none⟩ y).setCell ⟨b, 2, none⟩ z).setCell ⟨b, 3, none⟩ u) = .ok (.agg #[x, y, z, u]) ((((W.setCell ⟨b, 0, none⟩ x).setCell ⟨b, 1, none⟩ y).setCell ⟨b, 2, none⟩ z).setCell ⟨b, 3, none⟩ u) := by
  have e := heap_set u (o := 3) (heap_set z (o := 2) (heap_set y (o := 1) (heap_set x (o := 0) hy)))
  refine load26 ?_ ?_ ?_ ?_ <;> simp [World.cell?, e]
theorem zbox_frozen {W : World} {b : Nat} {arr : Array Value} (h : W.heap[b]? = some (.cells arr 26 (0, 0))) : ∀ o, W.frozen? ⟨b, o, none⟩ = false := fun o => by simp [World.frozen?, h]
theorem zbox_cells {W : World} {b : Nat} (h : ZBox W b) : W.cell? ⟨b, 0, none⟩ = some (.slice none 0 0) ∧ W.cell? ⟨b, 1, none⟩ = some (.int .i64 0) ∧ W.cell? ⟨b, 2, none⟩ = some (.slice none 0 0) ∧ W.cell? ⟨b, 3, none⟩ = some (.slice none 0 0) := by
  simp [World.cell?, show W.heap[b]? = _ from h]
theorem set_other_heap {W : World} {b o k : Nat} {u : Value} (hk : k < W.heap.size) (hne : k ≠ b) : (W.setCell ⟨b, o, none⟩ u).heap[k]? = W.heap[k]? := ((KpB.refl (fun k => k = b) W.heap.size W).set o u (.inl rfl)).block k hk hne
/-- A copy, and what is written outside it. -/
theorem Copied.set_other {W : World} {n0 n1 n2 b o : Nat} {u : Value} {L : HL} {h : House} (H : Copied W n0 n1 n2 L h) (hk : ∀ g, (Value.slice L.Ak h.ks.length L.ck).ownBlock = some g → g ≠ b) (hp : ∀ g, (Value.slice L.Ap h.ps.length L.cp).ownBlock = some g → g ≠ b) (hb : ∀ g, (Value.slice L.Ab h.bs.length L.cb).ownBlock = some g → g ≠ b) : Copied (W.setCell ⟨b, o, none⟩ u) n0 n1 n2 L h := by
  have key : ∀ {base e size n : Nat} {v : Value} {xs : List Value}, W.ownsRow base e size v n xs → (∀ g, v.ownBlock = some g → g ≠ b) → (W.setCell ⟨b, o, none⟩ u).ownsRow base e size v n xs := fun {base e size n v xs} h hne => by
    refine ⟨h.1, ?_⟩
    rcases h.2 with h2 | ⟨g, cap, cur, e, hb2, hg, h4⟩
    · exact .inl h2
    · refine .inr ⟨g, cap, cur, e, hb2, (set_other_heap (heap_lt hg) (hne g ?_)).trans hg, h4⟩
      rw [e]; rfl
  exact ⟨key H.k hk, H.k1, key H.p hp, H.p1, key H.b hb, H.n01, H.n12⟩
theorem box_ne {W : World} {b base e size n : Nat} {arr : Array Value} {z : Nat × Nat} {v : Value} {xs : List Value} (h : W.ownsRow base e size v n xs) (hb : W.heap[b]? = some (.cells arr 26 z)) (he : e ≠ 26) : ∀ g, v.ownBlock = some g → g ≠ b := by
  rintro g hg rfl
  rcases h.2 with ⟨rfl, _⟩ | ⟨g', cap, cur, rfl, _, hg', _⟩
  · simp [Value.ownBlock] at hg
  · simp only [Value.ownBlock, Option.some.injEq] at hg
    subst hg
    rw [hb] at hg'
    simp only [Option.some.injEq, Obj.cells.injEq] at hg'
    exact he hg'.2.1.symm
theorem Copied.set_box {W : World} {n0 n1 n2 b o : Nat} {u : Value} {L : HL} {h : House} {arr : Array Value} {z : Nat × Nat} (H : Copied W n0 n1 n2 L h) (hb : W.heap[b]? = some (.cells arr 26 z)) : Copied (W.setCell ⟨b, o, none⟩ u) n0 n1 n2 L h :=
  H.set_other (box_ne H.k hb (by decide)) (box_ne H.p hb (by decide)) (box_ne H.b hb (by decide))
theorem Copied.set_box4 {W : World} {n0 n1 n2 b : Nat} {L : HL} {h : House} (H : Copied W n0 n1 n2 L h) (hb : ZBox W b) (x y z u : Value) : Copied ((((W.setCell ⟨b, 0, none⟩ x).setCell ⟨b, 1, none⟩ y).setCell ⟨b, 2, none⟩ z).setCell ⟨b, 3, none⟩ u) n0 n1 n2 L h :=
  (((H.set_box hb).set_box (heap_set x (o := 0) hb)).set_box (heap_set y (o := 1) (heap_set x (o := 0) hb))).set_box (heap_set z (o := 2) (heap_set y (o := 1) (heap_set x (o := 0) hb)))
theorem below_set4 {w W : World} {n b : Nat} (hb : Below n w W) (hn : n ≤ b) (x y z u : Value) : Below n w ((((W.setCell ⟨b, 0, none⟩ x).setCell ⟨b, 1, none⟩ y).setCell ⟨b, 2, none⟩ z).setCell ⟨b, 3, none⟩ u) :=
  set_any (s := b) (Q := fun W => Below n w W) (fun _ o u hh => hh.setCell (p := ⟨b, o, none⟩) hn u) hb _ _ _ _
theorem own_slice {A : Option Addr} {n m c c' : Nat} {g : Nat} : (Value.slice A n c).ownBlock = some g ↔ (Value.slice A m c').ownBlock = some g := by cases A <;> rfl
theorem more_z {w2 : World} {n0 m1 m2 : Nat} {Lo : HL} {h : House} (hC : Copied w2 n0 m1 m2 Lo h) : ∀ (k : Int) w3, World.grownBy ((w2.alloc (.cells #[.slice Lo.Ak h.ks.length Lo.ck, .int .i64 h.fl, .slice Lo.Ap h.ps.length Lo.cp, .slice Lo.Ab h.bs.length Lo.cb] 26)).alloc (.cells #[.int .i64 k] 3)) w3 (Value.slice Lo.Ab h.bs.length Lo.cb).ownBlock → HBox w3 w2.heap.size Lo h := fun k w3 hg =>
  ((HBox.new w2 Lo h).of (Below.heap_alloc _ _ _ (by simp))).of (hg.block _ (by simp; omega) fun e => absurd (ints_lt hC.b _ e.symm) (Nat.lt_irrefl _))
theorem more_y {W0 w2 : World} {s m1 m2 : Nat} {Lo : HL} {h : House} (hy : ZBox W0 s) (hC : Copied w2 W0.heap.size m1 m2 Lo h) (hb : Below W0.heap.size W0 w2) : ∀ o1 o2 w3, Below m2 ((w2.alloc o1).alloc o2) w3 → ZBox w3 s := fun o1 o2 w3 hb3 => by
  have hs : s < W0.heap.size := heap_lt hy
  have h1 := hC.n01
  have h2 := hC.n12
  have h3 := hb.size
  exact (hb3.block s (by omega)).trans ((Below.heap_alloc _ _ _ (by simp; omega)).trans ((Below.heap_alloc _ _ _ (by omega)).trans ((hb.block s hs).trans hy)))
set_option maxRecDepth 100000 in
set_option maxHeartbeats 4000000 in
theorem more_any (L : HL) (h : House) (hn : h.ks.length ≤ 1000 ∧ h.ps.length ≤ 1000 ∧ h.bs.length ≤ 1000) (hok : HLOK L h) (k : Int) (w : World) (hH : HouseAt w w.heap.size L h) :
    Calls Try.prog 49 #[L.enc h, .int .i64 k] w fun e w' => CopyRet (moreH h k) w.heap.size w' e ∧ Below w.heap.size w w' := by
  have hb0 : Below w.heap.size w ((w.alloc (.cells #[.slice L.Ak h.ks.length L.ck, .int .i64 h.fl, .slice L.Ap h.ps.length L.cp, .slice L.Ab h.bs.length L.cb] 26)).alloc (.cells #[.slice none 0 0, .int .i64 0, .slice none 0 0, .slice none 0 0] 26)) :=
    ((Below.refl _ _).alloc (Nat.le_refl _) _).alloc (by simp) _
  have hx0 := (HBox.new w L h).of (Below.heap_alloc (w.alloc (.cells #[.slice L.Ak h.ks.length L.ck, .int .i64 h.fl, .slice L.Ap h.ps.length L.cp, .slice L.Ab h.bs.length L.cb] 26)) (.cells #[.slice none 0 0, .int .i64 0, .slice none 0 0, .slice none 0 0] 26) w.heap.size (by simp))
  have hy0 := World.alloc_heap_new (w.alloc (.cells #[.slice L.Ak h.ks.length L.ck, .int .i64 h.fl, .slice L.Ap h.ps.length L.cp, .slice L.Ab h.bs.length L.cb] 26)) (.cells #[.slice none 0 0, .int .i64 0, .slice none 0 0, .slice none 0 0] 26)
  rw [World.size_alloc] at hy0
  have HOK' := Lib.hid hok
  have HN := Lib.hid hn
  have HH := Lib.hid hH
  obtain ⟨W0, hW0⟩ : ∃ W0, W0 = (w.alloc (.cells #[.slice L.Ak h.ks.length L.ck, .int .i64 h.fl, .slice L.Ap h.ps.length L.cp, .slice L.Ab h.bs.length L.cb] 26)).alloc (.cells #[.slice none 0 0, .int .i64 0, .slice none 0 0, .slice none 0 0] 26) := ⟨_, rfl⟩
  rw [← hW0] at hb0 hx0 hy0
  have HB0 := Lib.hid hb0
  have HX0 := Lib.hid hx0
  have HY0 := Lib.hid hy0
  have HW0 := Lib.hid hW0
  clear hok hn hH hb0 hx0 hy0 hW0
  go_enter Try.func49, Try.ntmps49
  go_upto_region 1 with (fail)
  have e := HW0.out
  rw [← e]
  clear e
  have xc := HX0.out.cells
  go_wp2_with (first
    | (at_builtin; go_must (refine wpl_appG rfl (.tmp 9) (.tmp 11) rfl m2 m2 (.slice Bb h.bs.length db) h.bs k rfl ((HC2.out.b.alloc _).alloc _) ⟨w2.heap.size + 1, 0, none⟩ 1 rfl (by simp [go_sem]) HN.out.2.2 (by simp only [World.size_alloc]; omega) (Nat.le_refl _) ?_; intro v3 w3 own3 hb3 hg3; have HO3 := Lib.hid own3; have HB3 := Lib.hid hb3; have HG3 := Lib.hid hg3; have z3 := MZ.out k w3 hg3; have y3 := MY.out _ _ w3 hb3; have zc3 := z3.cells; have zf3 := zbox_frozen z3; have yc3 := zbox_cells y3; have yf3 := zbox_frozen y3; have HZ3 := Lib.hid z3; have HY3 := Lib.hid y3; obtain ⟨A3, c3, rfl, oA3, lA3, pA3⟩ := own3.lay; clear own3 hb3 hg3 z3 y3 oA3 lA3 pA3))
    | (go_at_call 17; refine (copy_any L h HN.out HOK'.out W0 (HH.out.below HB0.out)).mono ?_; rintro e w2 ⟨⟨⟨Bk, dk, Bp, dp, Bb, db⟩, n1, n2, rfl, hC⟩, hb2⟩; obtain ⟨m1, m2, hC2, hm2⟩ := hC.cut hb2.size; have HC2 := Lib.hid hC2; have HB2 := Lib.hid hb2; have hm02 : W0.heap.size ≤ m2 := Nat.le_trans hC2.n01 hC2.n12; have MZ := Lib.hid (more_z hC2); have MY := Lib.hid (more_y HY0.out hC2 hb2); have hZ : w.heap.size + 1 < W0.heap.size := heap_lt HY0.out; have hZ2 := hb2.size; have hne1 : ¬ w2.heap.size = w.heap.size + 1 := (by omega); have hne2 : ¬ w.heap.size + 1 = w2.heap.size := (by omega); clear hC hC2 hb2 hZ hZ2))
  have hz0 : ZBox (w3.setCell ⟨w2.heap.size, 3, none⟩ (.slice A3 (h.bs ++ [k]).length c3)) (w.heap.size + 1) := (set_other_heap (heap_lt HY3.out) hne2).trans HY3.out
  have hC3 : Copied w3 W0.heap.size m1 m2 ⟨Bk, dk, Bp, dp, A3, c3⟩ (moreH h k) := by
    have c := HC2.out
    refine ⟨((c.k.alloc _).alloc _).keepB HB3.out (fun g hg => Nat.lt_of_lt_of_le (c.k1 g hg) c.n12), c.k1, ((c.p.alloc _).alloc _).keepB HB3.out c.p1, c.p1, HO3.out, c.n01, c.n12⟩
  have hb5 : Below w.heap.size w w3 := HB0.out.trans ((HB2.out.trans ((((Below.refl _ _).alloc (Nat.le_refl _) _).alloc (by simp) _).mono HB2.out.size)) |>.trans (HB3.out.mono hm02) |>.mono HB0.out.size)
  refine bodyPost_ret (results_cell rfl rfl (box_store ?_ _ _ _ _)) rfl ⟨⟨⟨Bk, dk, Bp, dp, A3, c3⟩, m1, m2, ?_, ?_⟩, ?_⟩
  · simpa using hz0
  · simp [moreH, HL.enc]
  · have := (hC3.set_box (o := 3) (u := .slice A3 (h.bs ++ [k]).length c3) HZ3.out).set_box4 hz0 (.slice Bk h.ks.length dk) (.int .i64 h.fl) (.slice Bp h.ps.length dp) (.slice A3 (h.bs ++ [k]).length c3)
    have e : (h.bs ++ [k]).length = h.bs.length + 1 := by simp
    rw [e] at this
    exact ⟨this.k.mono HB0.out.size, this.k1, this.p, this.p1, this.b, Nat.le_trans HB0.out.size this.n01, this.n12⟩
  · exact below_set4 (hb5.setCell (p := ⟨w2.heap.size, 3, none⟩) (by show w.heap.size ≤ w2.heap.size; have := HB0.out.size; have := HB2.out.size; omega) _) (by omega) _ _ _ _
end Go.Proofs.Ytgemmmdcpbajoaa
namespace Go.Proofs.Ytgemmmdcpbajoaa
open Go.RowKit

/-! The specification's Buy. -/
theorem more_lists {h : House} {s : Int} (hV : HOK (moreH h s)) : isB (moreH h s) = true ↔ 0 < (listsR (moreH h s) 0 h.ps.length []).length := by
  have e : listsR (moreH h s) 0 h.ps.length [] = fitting (moreH h s) 0 := listsR_nil hV 0
  rw [e, isB_iff hV, List.length_pos_iff_exists_mem]
theorem more_lists_bd {h : House} {s : Int} (hV : HOK (moreH h s)) : (listsR (moreH h s) 0 h.ps.length []).length ≤ 15625 :=
  listsR_bound hV (by omega) h.ps.length [] (by show 0 + h.ps.length ≤ h.ps.length; omega)
set_option maxRecDepth 100000 in
set_option maxHeartbeats 4000000 in
theorem rBuy_any (L : HL) (h : House) (hn : h.ks.length ≤ 1000 ∧ h.ps.length ≤ 1000 ∧ h.bs.length ≤ 1000) (hok : HLOK L h) (w : World) (hH : HouseAt w w.heap.size L h) :
    Calls Try.prog 21 #[L.enc h] w fun e w' => e = .returned (.tuple #[.int .i64 (buyRet h).1, .int .i64 (buyRet h).2]) ∧ Below w.heap.size w w' := by
  have hbw := (Below.refl _ _).alloc (Nat.le_refl w.heap.size) (.cells #[.slice L.Ak h.ks.length L.ck, .int .i64 h.fl, .slice L.Ap h.ps.length L.cp, .slice L.Ab h.bs.length L.cb] 26)
  have HB := Lib.hid (HBox.new w L h)
  have HBW := Lib.hid hbw
  have HH := Lib.hid hH
  have HC := Lib.hid (rcheck_any L h hn _ (hH.below hbw))
  have hc0 := (HBox.new w L h).cells
  obtain ⟨W0, hW0⟩ : ∃ W0, W0 = w.alloc (.cells #[.slice L.Ak h.ks.length L.ck, .int .i64 h.fl, .slice L.Ap h.ps.length L.cp, .slice L.Ab h.bs.length L.cb] 26) := ⟨_, rfl⟩
  rw [← hW0] at hbw HB HBW HC hc0
  have HH0 := Lib.hid (hH.below hbw)
  have HW0 := Lib.hid hW0
  clear hbw hH hW0
  by_cases hv : validH h = true
  · have hV := HOK.ofValid hv
    have HV := Lib.hid hV
    have HN := Lib.hid hn
    have HOK' := Lib.hid hok
    have hbl := hV.bl
    have HLI := Lib.hid (fun W (hW : HouseAt W W.heap.size L h) => lists_any L h HV.out 0 (by omega) h.ps.length [] 0 rfl (by omega) none 0 W.heap.size W (fun _ => ⟨rfl, rfl⟩) hW intsIn_nil (Nat.le_refl _))
    have hck : ckH h = 0 := by unfold ckH; rw [if_pos hv]
    rw [hck] at HC
    have hlen : listsR h 0 h.ps.length [] = packsL h := by rw [listsR_nil hV, ← packs_eq hV]
    have hlbd : (packsL h).length ≤ 15625 := by rw [← hlen]; exact listsR_bound hV (by omega) _ _ (by simp)
    rw [hlen] at HLI
    by_cases hnil : packsL h = []
    · have HNIL := Lib.hid hnil
      rw [hnil] at HLI
      by_cases h4 : h.bs.length = 4
      · have hd4 : ((h.bs.length : Int) == 4) = true := beq_iff_eq.2 (by omega)
        have hr : Hid (buyRet h = (0, 2)) := Lib.hid (by unfold buyRet; simp [hv, hnil, h4])
        clear hv hV hn hok hck hlen hlbd hnil h4 hbl
        obtain ⟨Ak, ck, Ap, cp, Ab, cb⟩ := L
        go_enter Try.func21, Try.ntmps21
        go_upto_region 1 with (fail)
        have e := HW0.out
        rw [← e]
        clear e
        go_wp2_with (first
          | (go_at_call 29; refine HC.out.mono ?_; rintro e w1 ⟨rfl, hb1⟩; have HB1 := Lib.hid hb1; have hc1 := (HB.out.of (hb1.block _ HB.out.lt)).cells; clear hb1)
          | (go_at_call 70; refine (HLI.out w1 (HH0.out.below HB1.out)).mono ?_; rintro e w2 ⟨⟨A2, c2, rfl, hA2, hR2⟩, hb2⟩; have HB2 := Lib.hid (hb0to HB1.out hb2); have hc2 := (HB.out.of (HB2.out.block _ HB.out.lt)).cells; clear hb2 hA2 hR2))
        go_ret2
        exact ⟨by rw [hr.out]; rfl, hb0to HBW.out HB2.out⟩
      · have hd4 : ((h.bs.length : Int) == 4) = false := beq_eq_false_iff_ne.2 (by omega)
        have hb4 : h.bs.length < 4 := by omega
        have HVV := Lib.hid hv
        have hval : ∀ k : Nat, k ≤ 99 → HOK (moreH h (k : Int)) := fun k hk => HOK.ofValid (valid_more hv hb4 (inR_true.2 ⟨by omega, by omega⟩))
        have HVAL := Lib.hid hval
        have hbuy : ∀ k : Nat, k ≤ 99 → (isB (moreH h (k : Int)) = true ↔ buyL h (allS 0 (h.bs.length + 1) h.ps.length) ≤ k) := fun k hk => more_is hV hb4 (hval k hk) (by omega)
        have HBUY := Lib.hid hbuy
        have hbd := buyL_bd hV hb4 (allS 0 (h.bs.length + 1) h.ps.length)
        have hr : Hid (buyRet h = if 99 < buyL h (allS 0 (h.bs.length + 1) h.ps.length) then (0, 3) else (buyL h (allS 0 (h.bs.length + 1) h.ps.length), 0)) := Lib.hid (by unfold buyRet; rw [if_neg (by simp [hv]), if_neg (by simp [hnil]), if_neg h4])
        obtain ⟨bl, hblq⟩ : ∃ bl, bl = buyL h (allS 0 (h.bs.length + 1) h.ps.length) := ⟨_, rfl⟩
        rw [← hblq] at HBUY hbd hr
        clear hval hbuy hv hV hn hok hck hlen hlbd hnil h4 hblq
        have hM : Hid (∀ (k : Nat) (W : World), k ≤ 99 → HouseAt W W.heap.size L h → Calls Try.prog 49 #[L.enc h, .int .i64 k] W fun e w' => CopyRet (moreH h k) W.heap.size w' e ∧ Below W.heap.size W w') := Lib.hid fun k W hk hW => more_any L h HN.out HOK'.out k W hW
        obtain ⟨Ak, ck, Ap, cp, Ab, cb⟩ := L
        go_enter Try.func21, Try.ntmps21
        go_upto_region 1 with (fail)
        have e := HW0.out
        rw [← e]
        clear e
        go_wp2_with (first
          | (go_at_call 29; refine HC.out.mono ?_; rintro e w1 ⟨rfl, hb1⟩; have HB1 := Lib.hid hb1; have hc1 := (HB.out.of (hb1.block _ HB.out.lt)).cells; clear hb1)
          | (go_at_call 70; refine (HLI.out w1 (HH0.out.below HB1.out)).mono ?_; rintro e w2 ⟨⟨A2, c2, rfl, hA2, hR2⟩, hb2⟩; have HB2 := Lib.hid (hb0to HB1.out hb2); have hc2 := (HB.out.of (HB2.out.block _ HB.out.lt)).cells; clear hb2 hA2 hR2))
        clear hc0 hc1 hc2
        go_loopw [5] (fun i wr => ∃ k : Nat, k ≤ 100 ∧ i = .int .i64 k ∧ (k : Int) ≤ bl ∧ Below W0.heap.size W0 wr) (fun i _ => 100 - (intOf i).toNat)
        case atStart => exact ⟨0, by omega, rfl, by omega, HB2.out⟩
        case round =>
          obtain ⟨k, hk, rfl, hkb, hbr⟩ := hrel
          have HBR := Lib.hid hbr
          have hcr := (HB.out.of (hbr.block _ HB.out.lt)).cells
          have HHR := Lib.hid (HH0.out.below hbr)
          clear hbr
          by_cases hlt : k ≤ 99
          · have hVk := HVAL.out k hlt
            have hbk := HBUY.out k hlt
            have hlk := more_lists hVk
            have hlb := more_lists_bd hVk
            have HLK := Lib.hid (fun (L : HL) W (hW : HouseAt W W.heap.size L (moreH h k)) => lists_any L (moreH h k) hVk 0 (by omega) h.ps.length [] 0 rfl (by show 0 + h.ps.length = h.ps.length; omega) none 0 W.heap.size W (fun _ => ⟨rfl, rfl⟩) hW intsIn_nil (Nat.le_refl _))
            obtain ⟨rows, hrows⟩ : ∃ rows, rows = listsR (moreH h k) 0 h.ps.length [] := ⟨_, rfl⟩
            rw [← hrows] at HLK hlk hlb
            clear hVk hrows
            by_cases hz : rows.length = 0
            · have HKB := Lib.hid (show (k : Int) + 1 ≤ bl by
                have : ¬ isB (moreH h (k : Int)) = true := fun e => by have := hlk.1 e; omega
                have : ¬ bl ≤ k := fun e => this (hbk.2 e)
                omega)
              have hd0 : decide ((0 : Int) < (rows.length : Int)) = false := decide_eq_false (by omega)
              clear hbk hlk
              go_wp2_with (first
                | (go_at_call 49; refine (hM.out k wr hlt HHR.out).mono ?_; rintro e w3 ⟨⟨⟨Bk, dk, Bp, dp, Bb, db⟩, n1, n2, rfl, hC3⟩, hb3⟩; have HC3 := Lib.hid hC3.house; have HB3 := Lib.hid (hb0to HBR.out hb3); clear hC3 hb3)
                | (go_at_call 70; refine (HLK.out ⟨Bk, dk, Bp, dp, Bb, db⟩ w3 HC3.out).mono ?_; rintro e w4 ⟨⟨A4, c4, rfl, hA4, hR4⟩, hb4⟩; have HB4 := Lib.hid (hb0to HB3.out hb4); clear hb4 hA4 hR4))
              go_roundw
              case rel => exact ⟨k + 1, by omega, by go_num, by have := HKB.out; omega, HB4.out⟩
              case measure => simp [intOf]; omega
            · have hd0 : decide ((0 : Int) < (rows.length : Int)) = true := decide_eq_true (by omega)
              have HR2 := Lib.hid (show buyRet h = ((k : Int), 0) by
                have := hbk.1 (hlk.2 (by omega))
                rw [hr.out, if_neg (by omega)]
                exact Prod.ext (by show bl = k; omega) rfl)
              clear hbk hlk
              go_wp2_with (first
                | (go_at_call 49; refine (hM.out k wr hlt HHR.out).mono ?_; rintro e w3 ⟨⟨⟨Bk, dk, Bp, dp, Bb, db⟩, n1, n2, rfl, hC3⟩, hb3⟩; have HC3 := Lib.hid hC3.house; have HB3 := Lib.hid (hb0to HBR.out hb3); clear hC3 hb3)
                | (go_at_call 70; refine (HLK.out ⟨Bk, dk, Bp, dp, Bb, db⟩ w3 HC3.out).mono ?_; rintro e w4 ⟨⟨A4, c4, rfl, hA4, hR4⟩, hb4⟩; have HB4 := Lib.hid (hb0to HB3.out hb4); clear hb4 hA4 hR4))
              go_ret2
              exact ⟨by rw [HR2.out]; rfl, hb0to HBW.out HB4.out⟩
          · obtain rfl : k = 100 := by omega
            have HR2 := Lib.hid (show buyRet h = (0, 3) by rw [hr.out, if_pos (by omega)])
            go_wp2
            go_ret2
            exact ⟨by rw [HR2.out]; rfl, hb0to HBW.out HBR.out⟩
    · have hpos : 0 < (packsL h).length := List.length_pos_iff.2 hnil
      have hd0 : decide ((0 : Int) < ((packsL h).length : Int)) = true := decide_eq_true (by omega)
      have hr : Hid (buyRet h = (0, 0)) := Lib.hid (by unfold buyRet; simp [hv, hnil])
      clear hv hV hn hok hck hlen hnil
      obtain ⟨Ak, ck, Ap, cp, Ab, cb⟩ := L
      go_enter Try.func21, Try.ntmps21
      go_upto_region 1 with (fail)
      have e := HW0.out
      rw [← e]
      clear e
      go_wp2_with (first
        | (go_at_call 29; refine HC.out.mono ?_; rintro e w1 ⟨rfl, hb1⟩; have HB1 := Lib.hid hb1; have hc1 := (HB.out.of (hb1.block _ HB.out.lt)).cells; clear hb1)
        | (go_at_call 70; refine (HLI.out w1 (HH0.out.below HB1.out)).mono ?_; rintro e w2 ⟨⟨A2, c2, rfl, hA2, hR2⟩, hb2⟩; have HB2 := Lib.hid (hb0to HB1.out hb2); have hc2 := (HB.out.of (HB2.out.block _ HB.out.lt)).cells; clear hb2 hA2 hR2))
      go_ret2
      exact ⟨by rw [hr.out]; rfl, hb0to HBW.out HB2.out⟩
  · have hck : ckH h = 80 := by unfold ckH; rw [if_neg hv]
    have hr : Hid (buyRet h = (0, 80)) := Lib.hid (by unfold buyRet; rw [if_pos (by simpa using hv)])
    rw [hck] at HC
    clear hv hck hn hok
    obtain ⟨Ak, ck, Ap, cp, Ab, cb⟩ := L
    go_enter Try.func21, Try.ntmps21
    go_upto_region 1 with (fail)
    have e := HW0.out
    rw [← e]
    clear e
    go_wp2_with (go_at_call 29; refine HC.out.mono ?_; rintro e w1 ⟨rfl, hb1⟩; have HB1 := Lib.hid hb1; clear hb1)
    go_ret2
    exact ⟨by rw [hr.out]; rfl, hb0to HBW.out HB1.out⟩
end Go.Proofs.Ytgemmmdcpbajoaa
