import Derived.Test.YtmconopnplgcfaaF6
import Derived.Test.YtmconopnplgcfaaRI
namespace Go.Proofs.Ytmconopnplgcfaa
open Go.RowKit

/-! Copies: frames by type, CopyBid 34. -/
/-- The blocks of a type are kept. -/
def KeepT (t : TypeId) (W W' : World) : Prop := ∀ (k : Nat) (cur : Array Value), W.heap[k]? = some (.cells cur t (0, 0)) → W'.heap[k]? = some (.cells cur t (0, 0))
theorem KeepT.trans {t : TypeId} {A B C : World} (h : KeepT t A B) (k : KeepT t B C) : KeepT t A C := fun i cur e => k i cur (h i cur e)
theorem KeepT.below {t : TypeId} {W W' : World} (h : Below W.heap.size W W') : KeepT t W W' := fun k cur e => (h.block k (heap_lt e)).trans e
theorem KeepT.set {t t' : TypeId} {W : World} {z o : Nat} {u : Value} {arr : Array Value} (hz : W.heap[z]? = some (.cells arr t' (0, 0))) (ht : t' ≠ t) : KeepT t W (W.setCell ⟨z, o, none⟩ u) := fun k cur e => by
  refine (set_other_heap (heap_lt e) ?_).trans e
  rintro rfl
  rw [hz] at e
  injection e with e
  injection e with e1 e2
  exact ht e2
theorem KeepT.grown {t t' : TypeId} {W W' : World} {base size n : Nat} {v : Value} {xs : List Value} (hv : W.ownsRow base t' size v n xs) (hg : W.grownBy W' v.ownBlock) (ht : t' ≠ t) : KeepT t W W' := fun k cur e => by
  refine (hg.block k (heap_lt e) ?_).trans e
  intro hk
  rcases hv.2 with ⟨rfl, _⟩ | ⟨g, cap, cu, rfl, _, hgg, _⟩
  · simp [Value.ownBlock] at hk
  · simp only [Value.ownBlock, Option.some.injEq] at hk
    subst hk
    rw [hgg] at e
    injection e with e
    injection e with e1 e2
    exact ht e2
theorem row_keepT {W W' : World} {base size n : Nat} {t : TypeId} {v : Value} {xs : List Value} (h : W.ownsRow base t size v n xs) (hk : KeepT t W W') : W'.ownsRow base t size v n xs := by
  refine ⟨h.1, ?_⟩
  rcases h.2 with h2 | ⟨g, cap, cur, e, hb2, hg, h4⟩
  · exact .inl h2
  · exact .inr ⟨g, cap, cur, e, hb2, hk g cur hg, h4⟩
theorem Ints.keepT {W W' : World} {base : Nat} {v : Value} {l : List Int} (h : Ints W base v l) (hk : KeepT 3 W W') : Ints W' base v l := row_keepT h hk
theorem OwnsP.keepT {W W' : World} {t : TypeId} {base : Nat} {v : Value} {l : List (Int × Int)} (h : OwnsP W t base v l) (hk : KeepT t W W') : OwnsP W' t base v l := row_keepT h hk
theorem Ints.grownLow {W W' : World} {base b : Nat} {v : Value} {l : List Int} (h : Ints W base v l) (hg : W.grownBy W' (some b)) (hb : b < base) : Ints W' base v l := by
  refine ⟨h.1, ?_⟩
  rcases h.2 with h2 | ⟨g, cap, cur, e, hb2, hgg, h4⟩
  · exact .inl h2
  · exact .inr ⟨g, cap, cur, e, hb2, (hg.block g (heap_lt hgg) (fun he => by cases he; omega)).trans hgg, h4⟩
theorem ints_slice {W : World} {base : Nat} {v : Value} {l : List Int} (h : Ints W base v l) : ∃ A c, v = .slice A l.length c ∧ (A = none → c = 0 ∧ l = []) ∧ l.length ≤ c ∧ IntsAt W W.heap.size A l := by
  obtain ⟨A, c, e, h1, h2, h3⟩ := h.lay
  exact ⟨A, c, e, h1, h2, h3.at_⟩
/-- The slices of a house are of their types. -/
structure OwnH (W : World) (n : Nat) (L : HL) (h : House) : Prop where
  k : OwnsP W 97 n (.slice L.Ak h.ks.length L.ck) h.ks
  p : OwnsP W 99 n (.slice L.Ap h.ps.length L.cp) h.ps
  b : Ints W n (.slice L.Ab h.bs.length L.cb) h.bs
theorem OwnH.keepT {W W' : World} {n : Nat} {L : HL} {h : House} (H : OwnH W n L h) (k1 : KeepT 97 W W') (k2 : KeepT 99 W W') (k3 : KeepT 3 W W') : OwnH W' n L h := ⟨H.k.keepT k1, H.p.keepT k2, H.b.keepT k3⟩
theorem OwnH.below {W W' : World} {n : Nat} {L : HL} {h : House} (H : OwnH W n L h) (hb : Below W.heap.size W W') : OwnH W' n L h := H.keepT (.below hb) (.below hb) (.below hb)
theorem OwnH.mono {W : World} {n n' : Nat} {L : HL} {h : House} (H : OwnH W n L h) (hn : n' ≤ n) : OwnH W n' L h := ⟨H.k.mono hn, H.p.mono hn, H.b.mono hn⟩
theorem OwnH.house {W : World} {n : Nat} {L : HL} {h : House} (H : OwnH W n L h) : HouseAt W W.heap.size L h := ⟨(ownsP_at H.k).1, (ownsP_at H.p).1, (ints_at H.b).1.at_⟩
theorem OwnH.ok {W : World} {n : Nat} {L : HL} {h : House} (H : OwnH W n L h) : HLOK L h := ⟨(ownsP_at H.k).2, (ownsP_at H.p).2, (ints_at H.b).2.1⟩
theorem Copied.own {W : World} {n0 n1 n2 : Nat} {L : HL} {h : House} (H : Copied W n0 n1 n2 L h) : OwnH W n0 L h := ⟨H.k, H.p.mono H.n01, H.b.mono (Nat.le_trans H.n01 H.n12)⟩
/-- Rows of bids, each with the slice of its barrels. -/
def rowCells : List (Bid × Value) → List Value
  | [] => []
  | r :: rs => .int .i64 r.1.who :: r.2 :: .int .i64 r.1.pay :: rowCells rs
theorem rowCells_app : ∀ a b, rowCells (a ++ b) = rowCells a ++ rowCells b
  | [], b => rfl
  | x :: a, b => by simp only [List.cons_append, rowCells, rowCells_app a b]
theorem rowCells_at : ∀ (l : List (Bid × Value)) (i : Nat) (r : Bid × Value), l[i]? = some r → (rowCells l)[i * 3]? = some (.int .i64 r.1.who) ∧ (rowCells l)[i * 3 + 1]? = some r.2 ∧ (rowCells l)[i * 3 + 2]? = some (.int .i64 r.1.pay)
  | [], i, x, h => by simp at h
  | y :: ys, 0, x, h => by simp at h; subst h; exact ⟨rfl, rfl, rfl⟩
  | y :: ys, i + 1, x, h => by
    have := rowCells_at ys i x (by simpa using h)
    have e : (i + 1) * 3 = i * 3 + 1 + 1 + 1 := by omega
    rw [e]
    simp only [rowCells, List.getElem?_cons_succ]
    exact this
/-- A list within a bid: of the call's own, or of the caller's. -/
def InnOwn (W : World) (u : Value) (l : List Int) : Prop := Ints W 0 u l
def InnAt (n : Nat) (W : World) (u : Value) (l : List Int) : Prop := ∃ A c, u = .slice A l.length c ∧ (A = none → c = 0 ∧ l = []) ∧ IntsAt W n A l
/-- The bids are in a row of the call's own. -/
def OwnsQ (I : World → Value → List Int → Prop) (W : World) (base : Nat) (v : Value) (q : List Bid) : Prop :=
  ∃ rows : List (Bid × Value), rows.map (·.1) = q ∧ W.ownsRow base 38 3 v rows.length (rowCells rows) ∧ ∀ r ∈ rows, I W r.2 r.1.bar
theorem ownsQ_nil (I : World → Value → List Int → Prop) (W : World) (base : Nat) : OwnsQ I W base (.slice none 0 0) [] := ⟨[], rfl, World.ownsRow_nil W base 38 3, fun r h => by simp at h⟩
theorem OwnsQ.keepT {I : World → Value → List Int → Prop} {W W' : World} {base : Nat} {v : Value} {q : List Bid} (h : OwnsQ I W base v q) (hk : KeepT 38 W W') (hI : ∀ u l, I W u l → I W' u l) : OwnsQ I W' base v q := by
  obtain ⟨rows, e, h1, h2⟩ := h
  exact ⟨rows, e, row_keepT h1 hk, fun r hr => hI _ _ (h2 r hr)⟩
theorem OwnsQ.keepO {W W' : World} {base : Nat} {v : Value} {q : List Bid} (h : OwnsQ InnOwn W base v q) (hk : KeepT 38 W W') (h3 : KeepT 3 W W') : OwnsQ InnOwn W' base v q := h.keepT hk fun u l hu => Ints.keepT hu h3
theorem OwnsQ.belowO {W W' : World} {base : Nat} {v : Value} {q : List Bid} (h : OwnsQ InnOwn W base v q) (hb : Below W.heap.size W W') : OwnsQ InnOwn W' base v q := h.keepO (.below hb) (.below hb)
theorem OwnsQ.keepA {n : Nat} {W W' : World} {base : Nat} {v : Value} {q : List Bid} (h : OwnsQ (InnAt n) W base v q) (hk : KeepT 38 W W') (hb : Below n W W') : OwnsQ (InnAt n) W' base v q := h.keepT hk fun u l hu => by
  obtain ⟨A, c, e, h1, h2⟩ := hu
  exact ⟨A, c, e, h1, h2.keep (Nat.le_refl _) fun b o hlt => hb.cell (p := ⟨b, o, none⟩) hlt⟩
theorem OwnsQ.mono {I : World → Value → List Int → Prop} {W : World} {base base' : Nat} {v : Value} {q : List Bid} (h : OwnsQ I W base v q) (hb : base' ≤ base) : OwnsQ I W base' v q := by
  obtain ⟨rows, e, h1, h2⟩ := h
  refine ⟨rows, e, ⟨h1.1, ?_⟩, h2⟩
  rcases h1.2 with h3 | ⟨g, cap, cur, e3, hb2, h4⟩
  · exact .inl h3
  · exact .inr ⟨g, cap, cur, e3, Nat.le_trans hb hb2, h4⟩
theorem InnOwn.at_ {W : World} {u : Value} {l : List Int} (h : InnOwn W u l) : ∃ A c, u = .slice A l.length c ∧ (A = none → c = 0 ∧ l = []) ∧ IntsAt W W.heap.size A l := by
  obtain ⟨A, c, e, h1, _, h3⟩ := ints_slice h
  exact ⟨A, c, e, h1, h3⟩
theorem InnAt.at_ {n : Nat} {W : World} {u : Value} {l : List Int} (h : InnAt n W u l) (hn : n ≤ W.heap.size) : ∃ A c, u = .slice A l.length c ∧ (A = none → c = 0 ∧ l = []) ∧ IntsAt W W.heap.size A l := by
  obtain ⟨A, c, e, h1, h3⟩ := h
  exact ⟨A, c, e, h1, h3.keep hn fun _ _ _ => rfl⟩
theorem OwnsQ.lay {I : World → Value → List Int → Prop} {W : World} {base : Nat} {v : Value} {q : List Bid} (h : OwnsQ I W base v q) (hI : ∀ u l, I W u l → ∃ A c, u = .slice A l.length c ∧ (A = none → c = 0 ∧ l = []) ∧ IntsAt W W.heap.size A l) :
    ∃ A c, v = .slice A q.length c ∧ (A = none → c = 0 ∧ q = []) ∧ BidsAt W W.heap.size A q ∧ (∀ g, A = some g → base ≤ g.block) := by
  obtain ⟨rows, rfl, h1, h2⟩ := h
  have h' := h1
  rcases h1.2 with ⟨rfl, h0⟩ | ⟨g, cap, cur, rfl, hb, hg, h4, h5, h6, h7⟩
  · have : rows = [] := List.length_eq_zero_iff.1 h0
    subst this
    exact ⟨none, 0, rfl, fun _ => ⟨rfl, rfl⟩, .inl rfl, fun g e => by cases e⟩
  · refine ⟨some ⟨g, 0, none⟩, cap, by rw [List.length_map], (fun e => by cases e), .inr ⟨g, 0, rfl, heap_lt hg, fun i x hx => ?_⟩, fun g' e => by cases e; exact hb⟩
    rw [List.getElem?_map] at hx
    obtain ⟨r, hr, rfl⟩ := Option.map_eq_some_iff.1 hx
    obtain ⟨d1, d2, d3⟩ := rowCells_at rows i _ hr
    have c1 := World.ownsRow.cells h' (g := g) rfl _ _ d1
    have c2 := World.ownsRow.cells h' (g := g) rfl _ _ d2
    have c3 := World.ownsRow.cells h' (g := g) rfl _ _ d3
    rw [addr_add] at c1 c2 c3
    obtain ⟨A, c, e, k1, k2⟩ := hI _ _ (h2 r (List.mem_of_getElem? hr))
    rw [e] at c2
    exact ⟨c1, c3, A, c, c2, k1, k2⟩
theorem OwnsQ.layO {W : World} {base : Nat} {v : Value} {q : List Bid} (h : OwnsQ InnOwn W base v q) : ∃ A c, v = .slice A q.length c ∧ (A = none → c = 0 ∧ q = []) ∧ BidsAt W W.heap.size A q ∧ (∀ g, A = some g → base ≤ g.block) := h.lay fun _ _ hu => hu.at_
theorem info38' : (Try.prog.info? 38).map (fun i => (i.zero, i.size, i.bytes)) = some (some (.agg #[.int .i64 0, .slice none 0 0, .int .i64 0]), 3, 40) := by kernel_rfl
/-- 'append(bids, b)' at a step of a region that draws its order. -/
theorem step_appQ {ops : Array Oper} {o : Oper} {a : Act} {w : World} {K : Act → World → Prop} {Q : Exit → Act → World → Prop} {E : Prop} (hgd : o.guard = none) (s x : Operand)
    (ho : o.op = .call { callee := .builtin .append, args := #[s, x], argTypes := #[27, 27] }) (I : World → Value → List Int → Prop) (n₀ : Nat) (v : Value) (q : List Bid) (hs : a.eval s = v) (hown : OwnsQ I w n₀ v q)
    (g : Nat) (c : Nat) (k : Bid) (A' : Option Addr) (c' : Nat) (hx : a.eval x = .slice (some ⟨g, 0, none⟩) 1 c) (h0 : w.cell? ⟨g, 0, none⟩ = some (.int .i64 k.who)) (h1 : w.cell? ⟨g, 1, none⟩ = some (.slice A' k.bar.length c')) (h2 : w.cell? ⟨g, 2, none⟩ = some (.int .i64 k.pay)) (hl : q.length ≤ 1000) (hn : n₀ ≤ w.heap.size)
    (hI : ∀ w', Below n₀ w w' → KeepT 3 w w' → I w' (.slice A' k.bar.length c') k.bar ∧ ∀ u l, I w u l → I w' u l)
    (h : ∀ v' w', OwnsQ I w' n₀ v' (q ++ [k]) → Below n₀ w w' → (∀ t, t ≠ 38 → KeepT t w w') → K (a.put o.dst v') w') :
    if Region.wanted o (yielded ops a.tmps) = true then Oper.wp Try.prog o a w K Q else E := by
  have hw : Region.wanted o (yielded ops a.tmps) = true := by simp [Region.wanted, hgd]
  rw [if_pos hw]
  obtain ⟨i0, hi, hz0, hz1, hz2⟩ := info_parts info38'
  obtain ⟨rows, rfl, hown, hin⟩ := hown
  rw [List.length_map] at hl
  refine wp_append_own w s x 27 ho n₀ 38 i0 _ 3 40 Try.underlying27 hi hz0 hz1 hz2 rfl (by decide) v rows.length _ hs hown ⟨g, 0, none⟩ 1 c [.int .i64 k.who, .slice A' k.bar.length c', .int .i64 k.pay] hx rfl ?_ ?_ ?_ ?_ hn ?_
  · intro j u hj
    match j, hj with
    | 0, hj => simp at hj; subst hj; exact h0
    | 1, hj => simp at hj; subst hj; exact h1
    | 2, hj => simp at hj; subst hj; exact h2
  · intro u hu
    simp at hu
    rcases hu with rfl | rfl | rfl <;> rfl
  · unfold maxLen; omega
  · omega
  · intro v' w' g2 g3 _
    have hb := own_below hown g3 hn (Nat.le_refl _)
    have hk : ∀ t, t ≠ 38 → KeepT t w w' := fun t ht => KeepT.grown hown g3 (Ne.symm ht)
    obtain ⟨i1, i2⟩ := hI w' hb (hk 3 (by decide))
    refine h v' w' ⟨rows ++ [(k, .slice A' k.bar.length c')], by simp, ?_, fun r hr => ?_⟩ hb hk
    · rw [List.length_append, rowCells_app]
      exact g2
    · rcases List.mem_append.1 hr with hr | hr
      · exact i2 _ _ (hin r hr)
      · rw [List.mem_singleton] at hr
        subst hr
        exact i1
theorem load38 {W : World} {b : Nat} {x y z : Value} (h0 : W.cell? ⟨b, 0, none⟩ = some x) (h1 : W.cell? ⟨b, 1, none⟩ = some y) (h2 : W.cell? ⟨b, 2, none⟩ = some z) :
    (Instr.loadAt 38 (.pointer (some ⟨b, 0, none⟩))).run Try.prog W = .ok (.agg #[x, y, z]) W := by
  simp [go_sem, Instr.loadAt, Instr.sureAddr, *]
theorem set3_heap {W : World} {b : Nat} {a0 a1 a2 : Value} {t : TypeId} (h : W.heap[b]? = some (.cells #[a0, a1, a2] t (0, 0))) (x y z : Value) : (((W.setCell ⟨b, 0, none⟩ x).setCell ⟨b, 1, none⟩ y).setCell ⟨b, 2, none⟩ z).heap[b]? = some (.cells #[x, y, z] t (0, 0)) := by
  have h3 := heap_set z (o := 2) (heap_set y (o := 1) (heap_set x (o := 0) h))
  rw [h3]
  simp
theorem below_set3 {n : Nat} {w W : World} (h : Below n w W) {b : Nat} (hb : n ≤ b) (x y z : Value) : Below n w (((W.setCell ⟨b, 0, none⟩ x).setCell ⟨b, 1, none⟩ y).setCell ⟨b, 2, none⟩ z) :=
  ((h.setCell (p := ⟨b, 0, none⟩) hb x).setCell (p := ⟨b, 1, none⟩) hb y).setCell (p := ⟨b, 2, none⟩) hb z
theorem KeepT.set3 {t t' : TypeId} {W : World} {b : Nat} {arr : Array Value} (h : W.heap[b]? = some (.cells arr t' (0, 0))) (ht : t' ≠ t) (x y z : Value) : KeepT t W (((W.setCell ⟨b, 0, none⟩ x).setCell ⟨b, 1, none⟩ y).setCell ⟨b, 2, none⟩ z) :=
  ((KeepT.set h ht).trans (KeepT.set (heap_set x h) ht)).trans (KeepT.set (heap_set y (heap_set x h)) ht)
set_option maxRecDepth 100000 in
set_option maxHeartbeats 4000000 in
theorem copyBid_any (A : Option Addr) (c : Nat) (x : Bid) (hA : A = none → c = 0 ∧ x.bar = []) (hl : x.bar.length ≤ 1000) (w : World) (hI : IntsAt w w.heap.size A x.bar) :
    Calls Try.prog 34 #[.agg #[.int .i64 x.who, .slice A x.bar.length c, .int .i64 x.pay]] w fun e w' => (∃ v, e = .returned (.agg #[.int .i64 x.who, v, .int .i64 x.pay]) ∧ Ints w' w.heap.size v x.bar) ∧ Below w.heap.size w w' := by
  have hbx := (BBox.new w A c x)
  obtain ⟨W0, hW0⟩ : ∃ W0, (w.alloc (.cells #[.int .i64 x.who, .slice A x.bar.length c, .int .i64 x.pay] 38)).alloc (.cells #[.int .i64 0, .slice none 0 0, .int .i64 0] 38) = W0 := ⟨_, rfl⟩
  have hb0 : Below w.heap.size w W0 := by rw [← hW0]; exact hb0to (al_below _ _) (al_below _ _)
  have hx0 : BBox W0 w.heap.size A c x := hbx.of (by rw [← hW0]; exact Below.heap_alloc _ _ _ (by simp))
  have hz0 : W0.heap[w.heap.size + 1]? = some (.cells #[.int .i64 0, .slice none 0 0, .int .i64 0] 38 (0, 0)) := by rw [← hW0]; exact heap_new2 _ _ _
  have hz00 : w.heap.size + 2 ≤ W0.heap.size := heap_lt hz0
  have HW0 := Lib.hid hW0
  have HB0 := Lib.hid hb0
  have HX := Lib.hid hx0
  have HZ := Lib.hid hz0
  have HA := Lib.hid hA
  have HLL := Lib.hid hl
  have HI := Lib.hid (ints_later hI hb0)
  obtain ⟨c0, c1, c2⟩ := hx0.cells
  clear hbx hW0 hb0 hx0 hz0 hA hl hI
  go_enter Try.func34, Try.ntmps34
  go_upto_region 1 with (fail)
  have e := HW0.out
  rw [e]
  clear e
  go_region_held3 (fun w' => w'.cell? ⟨w.heap.size, 0, none⟩ = some (.int .i64 x.who) ∧ w'.cell? ⟨w.heap.size, 1, none⟩ = some (.slice A x.bar.length c) ∧ w'.cell? ⟨w.heap.size, 2, none⟩ = some (.int .i64 x.pay)) (first | go_keep)
    (first | (refine step_copyG (by rfl) _ _ (by rfl) W0.heap.size _ [] (by rfl) (by exact ints_made W0 _ (Nat.le_refl _)) A c x.bar x.bar.length rfl HA.out (by rfl) (ints_later HI.out (by first | exact al_below _ _ | exact rows_below1 _ _)) (by simp) HLL.out (by first | (simp; done) | (simp; omega)) ?_; intro v3 w5 h1 h2 h3; have hb5 : Below W0.heap.size W0 w5 := (by first | exact (rows_below1 _ _).trans h2 | exact (al_below _ _).trans h2); have B5 := Lib.hid hb5; have hz5 := (hb5.block _ (heap_lt HZ.out)).trans HZ.out; have HZ5 := Lib.hid hz5; have z0 := cell_of_heap (o := 0) hz5 rfl; have z1 := cell_of_heap (o := 1) hz5 rfl; have z2 := cell_of_heap (o := 2) hz5 rfl; have zf := frozen_of_heap hz5; obtain ⟨c0, c1, c2⟩ := (HX.out.of (hb5.block _ HX.out.lt)).cells; have H1 := Lib.hid h1; have zn1 : ¬ w.heap.size + 1 = w.heap.size := (by omega); have zn2 : ¬ w.heap.size = w.heap.size + 1 := (by omega); obtain ⟨A5, k5, rfl, -, -, -⟩ := (show Ints w5 W0.heap.size v3 x.bar from h1).lay; clear h1 h2 h3 hb5 hz5))
  all_goals
    go_wp2_with (fail)
    have e := set3_heap HZ5.out (.int .i64 x.who) (.slice A5 x.bar.length k5) (.int .i64 x.pay)
    refine bodyPost_ret (results_cell rfl rfl (load38 (cell_of_heap (o := 0) e rfl) (cell_of_heap (o := 1) e rfl) (cell_of_heap (o := 2) e rfl))) rfl ⟨⟨_, rfl, ?_⟩, ?_⟩
    · have hbs := HB0.out.size
      exact (Ints.mono H1.out hbs).keepT (KeepT.set3 HZ5.out (by decide) _ _ _)
    · exact below_set3 (hb0to HB0.out B5.out) (by omega) _ _ _

end Go.Proofs.Ytmconopnplgcfaa
