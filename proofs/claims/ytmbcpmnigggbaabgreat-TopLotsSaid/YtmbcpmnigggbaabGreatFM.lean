import Derived.Test.YtmbcpmnigggbaabGreatF6
import Derived.Test.YtmbcpmnigggbaabGreatRI
import Derived.Test.YtmbcpmnigggbaabGreatSG
import Derived.Maps.OwnOps
import Derived.Maps.OwnSet
import Derived.Maps.Own
import Derived.Maps.Views
namespace Go.Proofs.YtmbcpmnigggbaabGreat
open Go.RowKit

/-! Copies: frames by type, CopyBid 34. -/
/-- The blocks of a type are kept. -/
def KeepT (t : TypeId) (W W' : World) : Prop := ∀ (k : Nat) (cur : Array Value), W.heap[k]? = some (.cells cur t (0, 0)) → W'.heap[k]? = some (.cells cur t (0, 0))
theorem KeepT.trans {t : TypeId} {A B C : World} (h : KeepT t A B) (k : KeepT t B C) : KeepT t A C := fun i cur e => k i cur (h i cur e)
theorem KeepT.below {t : TypeId} {W W' : World} (h : Below W.heap.size W W') : KeepT t W W' := fun k cur e => (h.block k (heap_lt e)).trans e
theorem KeepT.set {t t' : TypeId} {W : World} {z o : Nat} {u : Value} {arr : Array Value} (hz : W.heap[z]? = some (.cells arr t' (0, 0))) (ht : t' ≠ t) : KeepT t W (W.setCell ⟨z, o, none⟩ u) := fun k cur e => by
  refine (set_other_heap (heap_lt e) ?_).trans e
  rintro rfl
  rw [hz] at e
  injection e with e
  injection e with e1 e2
  exact ht e2
theorem KeepT.grown {t t' : TypeId} {W W' : World} {base size n : Nat} {v : Value} {xs : List Value} (hv : W.ownsRow base t' size v n xs) (hg : W.grownBy W' v.ownBlock) (ht : t' ≠ t) : KeepT t W W' := fun k cur e => by
  refine (hg.block k (heap_lt e) ?_).trans e
  intro hk
  rcases hv.2 with ⟨rfl, _⟩ | ⟨g, cap, cu, rfl, _, hgg, _⟩
  · simp [Value.ownBlock] at hk
  · simp only [Value.ownBlock, Option.some.injEq] at hk
    subst hk
    rw [hgg] at e
    injection e with e
    injection e with e1 e2
    exact ht e2
theorem row_keepT {W W' : World} {base size n : Nat} {t : TypeId} {v : Value} {xs : List Value} (h : W.ownsRow base t size v n xs) (hk : KeepT t W W') : W'.ownsRow base t size v n xs := by
  refine ⟨h.1, ?_⟩
  rcases h.2 with h2 | ⟨g, cap, cur, e, hb2, hg, h4⟩
  · exact .inl h2
  · exact .inr ⟨g, cap, cur, e, hb2, hk g cur hg, h4⟩
theorem Ints.keepT {W W' : World} {base : Nat} {v : Value} {l : List Int} (h : Ints W base v l) (hk : KeepT 3 W W') : Ints W' base v l := row_keepT h hk
theorem OwnsP.keepT {W W' : World} {t : TypeId} {base : Nat} {v : Value} {l : List (Int × Int)} (h : OwnsP W t base v l) (hk : KeepT t W W') : OwnsP W' t base v l := row_keepT h hk
theorem Ints.grownLow {W W' : World} {base b : Nat} {v : Value} {l : List Int} (h : Ints W base v l) (hg : W.grownBy W' (some b)) (hb : b < base) : Ints W' base v l := by
  refine ⟨h.1, ?_⟩
  rcases h.2 with h2 | ⟨g, cap, cur, e, hb2, hgg, h4⟩
  · exact .inl h2
  · exact .inr ⟨g, cap, cur, e, hb2, (hg.block g (heap_lt hgg) (fun he => by cases he; omega)).trans hgg, h4⟩
theorem ints_slice {W : World} {base : Nat} {v : Value} {l : List Int} (h : Ints W base v l) : ∃ A c, v = .slice A l.length c ∧ (A = none → c = 0 ∧ l = []) ∧ l.length ≤ c ∧ IntsAt W W.heap.size A l := by
  obtain ⟨A, c, e, h1, h2, h3⟩ := h.lay
  exact ⟨A, c, e, h1, h2, h3.at_⟩
/-- The slices of a house are of their types. -/
structure OwnH (W : World) (n : Nat) (L : HL) (h : House) : Prop where
  k : OwnsP W 66 n (.slice L.Ak h.ks.length L.ck) h.ks
  p : OwnsP W 68 n (.slice L.Ap h.ps.length L.cp) h.ps
  b : Ints W n (.slice L.Ab h.bs.length L.cb) h.bs
theorem OwnH.keepT {W W' : World} {n : Nat} {L : HL} {h : House} (H : OwnH W n L h) (k1 : KeepT 66 W W') (k2 : KeepT 68 W W') (k3 : KeepT 3 W W') : OwnH W' n L h := ⟨H.k.keepT k1, H.p.keepT k2, H.b.keepT k3⟩
theorem OwnH.below {W W' : World} {n : Nat} {L : HL} {h : House} (H : OwnH W n L h) (hb : Below W.heap.size W W') : OwnH W' n L h := H.keepT (.below hb) (.below hb) (.below hb)
theorem OwnH.mono {W : World} {n n' : Nat} {L : HL} {h : House} (H : OwnH W n L h) (hn : n' ≤ n) : OwnH W n' L h := ⟨H.k.mono hn, H.p.mono hn, H.b.mono hn⟩
theorem OwnH.house {W : World} {n : Nat} {L : HL} {h : House} (H : OwnH W n L h) : HouseAt W W.heap.size L h := ⟨(ownsP_at H.k).1, (ownsP_at H.p).1, (ints_at H.b).1.at_⟩
theorem OwnH.ok {W : World} {n : Nat} {L : HL} {h : House} (H : OwnH W n L h) : HLOK L h := ⟨(ownsP_at H.k).2, (ownsP_at H.p).2, (ints_at H.b).2.1⟩
theorem Copied.own {W : World} {n0 n1 n2 : Nat} {L : HL} {h : House} (H : Copied W n0 n1 n2 L h) : OwnH W n0 L h := ⟨H.k, H.p.mono H.n01, H.b.mono (Nat.le_trans H.n01 H.n12)⟩
/-- Rows of bids, each with the slice of its barrels. -/
def rowCells : List (Bid × Value) → List Value
  | [] => []
  | r :: rs => .int .i64 r.1.who :: r.2 :: .int .i64 r.1.pay :: rowCells rs
theorem rowCells_app : ∀ a b, rowCells (a ++ b) = rowCells a ++ rowCells b
  | [], b => rfl
  | x :: a, b => by simp only [List.cons_append, rowCells, rowCells_app a b]
theorem rowCells_at : ∀ (l : List (Bid × Value)) (i : Nat) (r : Bid × Value), l[i]? = some r → (rowCells l)[i * 3]? = some (.int .i64 r.1.who) ∧ (rowCells l)[i * 3 + 1]? = some r.2 ∧ (rowCells l)[i * 3 + 2]? = some (.int .i64 r.1.pay)
  | [], i, x, h => by simp at h
  | y :: ys, 0, x, h => by simp at h; subst h; exact ⟨rfl, rfl, rfl⟩
  | y :: ys, i + 1, x, h => by
    have := rowCells_at ys i x (by simpa using h)
    have e : (i + 1) * 3 = i * 3 + 1 + 1 + 1 := by omega
    rw [e]
    simp only [rowCells, List.getElem?_cons_succ]
    exact this
/-- A list within a bid: of the call's own, or of the caller's. -/
def InnOwn (W : World) (u : Value) (l : List Int) : Prop := Ints W 0 u l
def InnAt (n : Nat) (W : World) (u : Value) (l : List Int) : Prop := ∃ A c, u = .slice A l.length c ∧ (A = none → c = 0 ∧ l = []) ∧ IntsAt W n A l
/-- The bids are in a row of the call's own. -/
def OwnsQ (I : World → Value → List Int → Prop) (W : World) (base : Nat) (v : Value) (q : List Bid) : Prop :=
  ∃ rows : List (Bid × Value), rows.map (·.1) = q ∧ W.ownsRow base 44 3 v rows.length (rowCells rows) ∧ ∀ r ∈ rows, I W r.2 r.1.bar
theorem ownsQ_nil (I : World → Value → List Int → Prop) (W : World) (base : Nat) : OwnsQ I W base (.slice none 0 0) [] := ⟨[], rfl, World.ownsRow_nil W base 44 3, fun r h => by simp at h⟩
theorem OwnsQ.keepT {I : World → Value → List Int → Prop} {W W' : World} {base : Nat} {v : Value} {q : List Bid} (h : OwnsQ I W base v q) (hk : KeepT 44 W W') (hI : ∀ u l, I W u l → I W' u l) : OwnsQ I W' base v q := by
  obtain ⟨rows, e, h1, h2⟩ := h
  exact ⟨rows, e, row_keepT h1 hk, fun r hr => hI _ _ (h2 r hr)⟩
theorem OwnsQ.keepO {W W' : World} {base : Nat} {v : Value} {q : List Bid} (h : OwnsQ InnOwn W base v q) (hk : KeepT 44 W W') (h3 : KeepT 3 W W') : OwnsQ InnOwn W' base v q := h.keepT hk fun u l hu => Ints.keepT hu h3
theorem OwnsQ.belowO {W W' : World} {base : Nat} {v : Value} {q : List Bid} (h : OwnsQ InnOwn W base v q) (hb : Below W.heap.size W W') : OwnsQ InnOwn W' base v q := h.keepO (.below hb) (.below hb)
theorem OwnsQ.mono {I : World → Value → List Int → Prop} {W : World} {base base' : Nat} {v : Value} {q : List Bid} (h : OwnsQ I W base v q) (hb : base' ≤ base) : OwnsQ I W base' v q := by
  obtain ⟨rows, e, h1, h2⟩ := h
  refine ⟨rows, e, ⟨h1.1, ?_⟩, h2⟩
  rcases h1.2 with h3 | ⟨g, cap, cur, e3, hb2, h4⟩
  · exact .inl h3
  · exact .inr ⟨g, cap, cur, e3, Nat.le_trans hb hb2, h4⟩
theorem InnOwn.at_ {W : World} {u : Value} {l : List Int} (h : InnOwn W u l) : ∃ A c, u = .slice A l.length c ∧ (A = none → c = 0 ∧ l = []) ∧ IntsAt W W.heap.size A l := by
  obtain ⟨A, c, e, h1, _, h3⟩ := ints_slice h
  exact ⟨A, c, e, h1, h3⟩
theorem InnAt.at_ {n : Nat} {W : World} {u : Value} {l : List Int} (h : InnAt n W u l) (hn : n ≤ W.heap.size) : ∃ A c, u = .slice A l.length c ∧ (A = none → c = 0 ∧ l = []) ∧ IntsAt W W.heap.size A l := by
  obtain ⟨A, c, e, h1, h3⟩ := h
  exact ⟨A, c, e, h1, h3.keep hn fun _ _ _ => rfl⟩
theorem OwnsQ.lay {I : World → Value → List Int → Prop} {W : World} {base : Nat} {v : Value} {q : List Bid} (h : OwnsQ I W base v q) (hI : ∀ u l, I W u l → ∃ A c, u = .slice A l.length c ∧ (A = none → c = 0 ∧ l = []) ∧ IntsAt W W.heap.size A l) :
    ∃ A c, v = .slice A q.length c ∧ (A = none → c = 0 ∧ q = []) ∧ BidsAt W W.heap.size A q ∧ (∀ g, A = some g → base ≤ g.block) := by
  obtain ⟨rows, rfl, h1, h2⟩ := h
  have h' := h1
  rcases h1.2 with ⟨rfl, h0⟩ | ⟨g, cap, cur, rfl, hb, hg, h4, h5, h6, h7⟩
  · have : rows = [] := List.length_eq_zero_iff.1 h0
    subst this
    exact ⟨none, 0, rfl, fun _ => ⟨rfl, rfl⟩, .inl rfl, fun g e => by cases e⟩
  · refine ⟨some ⟨g, 0, none⟩, cap, by rw [List.length_map], (fun e => by cases e), .inr ⟨g, 0, rfl, heap_lt hg, fun i x hx => ?_⟩, fun g' e => by cases e; exact hb⟩
    rw [List.getElem?_map] at hx
    obtain ⟨r, hr, rfl⟩ := Option.map_eq_some_iff.1 hx
    obtain ⟨d1, d2, d3⟩ := rowCells_at rows i _ hr
    have c1 := World.ownsRow.cells h' (g := g) rfl _ _ d1
    have c2 := World.ownsRow.cells h' (g := g) rfl _ _ d2
    have c3 := World.ownsRow.cells h' (g := g) rfl _ _ d3
    rw [addr_add] at c1 c2 c3
    obtain ⟨A, c, e, k1, k2⟩ := hI _ _ (h2 r (List.mem_of_getElem? hr))
    rw [e] at c2
    exact ⟨c1, c3, A, c, c2, k1, k2⟩
theorem OwnsQ.layO {W : World} {base : Nat} {v : Value} {q : List Bid} (h : OwnsQ InnOwn W base v q) : ∃ A c, v = .slice A q.length c ∧ (A = none → c = 0 ∧ q = []) ∧ BidsAt W W.heap.size A q ∧ (∀ g, A = some g → base ≤ g.block) := h.lay fun _ _ hu => hu.at_
theorem info38' : (Tryz.prog.info? 44).map (fun i => (i.zero, i.size, i.bytes)) = some (some (.agg #[.int .i64 0, .slice none 0 0, .int .i64 0]), 3, 40) := by kernel_rfl
/-- 'append(bids, b)' at a step of a region that draws its order. -/
theorem step_appQ {ops : Array Oper} {o : Oper} {a : Act} {w : World} {K : Act → World → Prop} {Q : Exit → Act → World → Prop} {E : Prop} (hgd : o.guard = none) (s x : Operand)
    (ho : o.op = .call { callee := .builtin .append, args := #[s, x], argTypes := #[39, 39] }) (I : World → Value → List Int → Prop) (n₀ : Nat) (v : Value) (q : List Bid) (hs : a.eval s = v) (hown : OwnsQ I w n₀ v q)
    (g : Nat) (c : Nat) (k : Bid) (A' : Option Addr) (c' : Nat) (hx : a.eval x = .slice (some ⟨g, 0, none⟩) 1 c) (h0 : w.cell? ⟨g, 0, none⟩ = some (.int .i64 k.who)) (h1 : w.cell? ⟨g, 1, none⟩ = some (.slice A' k.bar.length c')) (h2 : w.cell? ⟨g, 2, none⟩ = some (.int .i64 k.pay)) (hl : q.length ≤ 1000) (hn : n₀ ≤ w.heap.size)
    (hI : ∀ w', Below n₀ w w' → KeepT 3 w w' → I w' (.slice A' k.bar.length c') k.bar ∧ ∀ u l, I w u l → I w' u l)
    (h : ∀ v' w', OwnsQ I w' n₀ v' (q ++ [k]) → Below n₀ w w' → (∀ t, t ≠ 44 → KeepT t w w') → K (a.put o.dst v') w') :
    if Region.wanted o (yielded ops a.tmps) = true then Oper.wp Tryz.prog o a w K Q else E := by
  have hw : Region.wanted o (yielded ops a.tmps) = true := by simp [Region.wanted, hgd]
  rw [if_pos hw]
  obtain ⟨i0, hi, hz0, hz1, hz2⟩ := info_parts info38'
  obtain ⟨rows, rfl, hown, hin⟩ := hown
  rw [List.length_map] at hl
  refine wp_append_own w s x 39 ho n₀ 44 i0 _ 3 40 Tryz.underlying39 hi hz0 hz1 hz2 rfl (by decide) v rows.length _ hs hown ⟨g, 0, none⟩ 1 c [.int .i64 k.who, .slice A' k.bar.length c', .int .i64 k.pay] hx rfl ?_ ?_ ?_ ?_ hn ?_
  · intro j u hj
    match j, hj with
    | 0, hj => simp at hj; subst hj; exact h0
    | 1, hj => simp at hj; subst hj; exact h1
    | 2, hj => simp at hj; subst hj; exact h2
  · intro u hu
    simp at hu
    rcases hu with rfl | rfl | rfl <;> rfl
  · unfold maxLen; omega
  · omega
  · intro v' w' g2 g3 _
    have hb := own_below hown g3 hn (Nat.le_refl _)
    have hk : ∀ t, t ≠ 44 → KeepT t w w' := fun t ht => KeepT.grown hown g3 (Ne.symm ht)
    obtain ⟨i1, i2⟩ := hI w' hb (hk 3 (by decide))
    refine h v' w' ⟨rows ++ [(k, .slice A' k.bar.length c')], by simp, ?_, fun r hr => ?_⟩ hb hk
    · rw [List.length_append, rowCells_app]
      exact g2
    · rcases List.mem_append.1 hr with hr | hr
      · exact i2 _ _ (hin r hr)
      · rw [List.mem_singleton] at hr
        subst hr
        exact i1
theorem load38 {W : World} {b : Nat} {x y z : Value} (h0 : W.cell? ⟨b, 0, none⟩ = some x) (h1 : W.cell? ⟨b, 1, none⟩ = some y) (h2 : W.cell? ⟨b, 2, none⟩ = some z) :
    (Instr.loadAt 44 (.pointer (some ⟨b, 0, none⟩))).run Tryz.prog W = .ok (.agg #[x, y, z]) W := by
  simp [go_sem, Instr.loadAt, Instr.sureAddr, *]
theorem set3_heap {W : World} {b : Nat} {a0 a1 a2 : Value} {t : TypeId} (h : W.heap[b]? = some (.cells #[a0, a1, a2] t (0, 0))) (x y z : Value) : (((W.setCell ⟨b, 0, none⟩ x).setCell ⟨b, 1, none⟩ y).setCell ⟨b, 2, none⟩ z).heap[b]? = some (.cells #[x, y, z] t (0, 0)) := by
  have h3 := heap_set z (o := 2) (heap_set y (o := 1) (heap_set x (o := 0) h))
  rw [h3]
  simp
theorem below_set3 {n : Nat} {w W : World} (h : Below n w W) {b : Nat} (hb : n ≤ b) (x y z : Value) : Below n w (((W.setCell ⟨b, 0, none⟩ x).setCell ⟨b, 1, none⟩ y).setCell ⟨b, 2, none⟩ z) :=
  ((h.setCell (p := ⟨b, 0, none⟩) hb x).setCell (p := ⟨b, 1, none⟩) hb y).setCell (p := ⟨b, 2, none⟩) hb z
theorem KeepT.set3 {t t' : TypeId} {W : World} {b : Nat} {arr : Array Value} (h : W.heap[b]? = some (.cells arr t' (0, 0))) (ht : t' ≠ t) (x y z : Value) : KeepT t W (((W.setCell ⟨b, 0, none⟩ x).setCell ⟨b, 1, none⟩ y).setCell ⟨b, 2, none⟩ z) :=
  ((KeepT.set h ht).trans (KeepT.set (heap_set x h) ht)).trans (KeepT.set (heap_set y (heap_set x h)) ht)
set_option maxRecDepth 100000 in
set_option maxHeartbeats 4000000 in
theorem copyBid_any (A : Option Addr) (c : Nat) (x : Bid) (hA : A = none → c = 0 ∧ x.bar = []) (hl : x.bar.length ≤ 1000) (w : World) (hI : IntsAt w w.heap.size A x.bar) :
    Calls Tryz.prog 87 #[.agg #[.int .i64 x.who, .slice A x.bar.length c, .int .i64 x.pay]] w fun e w' => (∃ v, e = .returned (.agg #[.int .i64 x.who, v, .int .i64 x.pay]) ∧ Ints w' w.heap.size v x.bar) ∧ Below w.heap.size w w' := by
  have hbx := (BBox.new w A c x)
  obtain ⟨W0, hW0⟩ : ∃ W0, (w.alloc (.cells #[.int .i64 x.who, .slice A x.bar.length c, .int .i64 x.pay] 44)).alloc (.cells #[.int .i64 0, .slice none 0 0, .int .i64 0] 44) = W0 := ⟨_, rfl⟩
  have hb0 : Below w.heap.size w W0 := by rw [← hW0]; exact hb0to (al_below _ _) (al_below _ _)
  have hx0 : BBox W0 w.heap.size A c x := hbx.of (by rw [← hW0]; exact Below.heap_alloc _ _ _ (by simp))
  have hz0 : W0.heap[w.heap.size + 1]? = some (.cells #[.int .i64 0, .slice none 0 0, .int .i64 0] 44 (0, 0)) := by rw [← hW0]; exact heap_new2 _ _ _
  have hz00 : w.heap.size + 2 ≤ W0.heap.size := heap_lt hz0
  have HW0 := Lib.hid hW0
  have HB0 := Lib.hid hb0
  have HX := Lib.hid hx0
  have HZ := Lib.hid hz0
  have HA := Lib.hid hA
  have HLL := Lib.hid hl
  have HI := Lib.hid (ints_later hI hb0)
  obtain ⟨c0, c1, c2⟩ := hx0.cells
  clear hbx hW0 hb0 hx0 hz0 hA hl hI
  go_enter Tryz.func87, Tryz.ntmps87
  go_upto_region 1 with (fail)
  have e := HW0.out
  rw [e]
  clear e
  go_region_held3 (fun w' => w'.cell? ⟨w.heap.size, 0, none⟩ = some (.int .i64 x.who) ∧ w'.cell? ⟨w.heap.size, 1, none⟩ = some (.slice A x.bar.length c) ∧ w'.cell? ⟨w.heap.size, 2, none⟩ = some (.int .i64 x.pay)) (first | go_keep)
    (first | (refine step_copyG (by rfl) _ _ (by rfl) W0.heap.size _ [] (by rfl) (by exact ints_made W0 _ (Nat.le_refl _)) A c x.bar x.bar.length rfl HA.out (by rfl) (ints_later HI.out (by first | exact al_below _ _ | exact rows_below1 _ _)) (by simp) HLL.out (by first | (simp; done) | (simp; omega)) ?_; intro v3 w5 h1 h2 h3; have hb5 : Below W0.heap.size W0 w5 := (by first | exact (rows_below1 _ _).trans h2 | exact (al_below _ _).trans h2); have B5 := Lib.hid hb5; have hz5 := (hb5.block _ (heap_lt HZ.out)).trans HZ.out; have HZ5 := Lib.hid hz5; have z0 := cell_of_heap (o := 0) hz5 rfl; have z1 := cell_of_heap (o := 1) hz5 rfl; have z2 := cell_of_heap (o := 2) hz5 rfl; have zf := frozen_of_heap hz5; obtain ⟨c0, c1, c2⟩ := (HX.out.of (hb5.block _ HX.out.lt)).cells; have H1 := Lib.hid h1; have zn1 : ¬ w.heap.size + 1 = w.heap.size := (by omega); have zn2 : ¬ w.heap.size = w.heap.size + 1 := (by omega); obtain ⟨A5, k5, rfl, -, -, -⟩ := (show Ints w5 W0.heap.size v3 x.bar from h1).lay; clear h1 h2 h3 hb5 hz5))
  all_goals
    go_wp2_with (fail)
    have e := set3_heap HZ5.out (.int .i64 x.who) (.slice A5 x.bar.length k5) (.int .i64 x.pay)
    refine bodyPost_ret (results_cell rfl rfl (load38 (cell_of_heap (o := 0) e rfl) (cell_of_heap (o := 1) e rfl) (cell_of_heap (o := 2) e rfl))) rfl ⟨⟨_, rfl, ?_⟩, ?_⟩
    · have hbs := HB0.out.size
      exact (Ints.mono H1.out hbs).keepT (KeepT.set3 HZ5.out (by decide) _ _ _)
    · exact below_set3 (hb0to HB0.out B5.out) (by omega) _ _ _

open Go.RowKit

/-! Copy 33. -/
/-- The slices of a fair are none, or lie somewhere. -/
structure FLOK (F : FL) (f : Fair) : Prop where
  h : HLOK F.L f.h
  p : F.Ap = none → F.cp = 0 ∧ f.pk = []
  q : F.Aq = none → F.cq = 0 ∧ f.q = []
/-- The copy at work: the box of a fair whose bids are still v. -/
def CBox (W : World) (z : Nat) (F : FL) (f : Fair) (v : Value) : Prop := W.heap[z]? = some (.cells #[.slice F.L.Ak f.h.ks.length F.L.ck, .int .i64 f.h.fl, .slice F.L.Ap f.h.ps.length F.L.cp, .slice F.L.Ab f.h.bs.length F.L.cb, .slice F.Ap f.pk.length F.cp, .int .i64 f.day, .int .i64 f.nb, v] 41 (0, 0))
theorem CBox.cells {W : World} {b : Nat} {F : FL} {f : Fair} {v : Value} (hb : CBox W b F f v) : W.cell? ⟨b, 0, none⟩ = some (.slice F.L.Ak f.h.ks.length F.L.ck) ∧ W.cell? ⟨b, 1, none⟩ = some (.int .i64 f.h.fl) ∧ W.cell? ⟨b, 2, none⟩ = some (.slice F.L.Ap f.h.ps.length F.L.cp) ∧ W.cell? ⟨b, 3, none⟩ = some (.slice F.L.Ab f.h.bs.length F.L.cb) ∧ W.cell? ⟨b, 4, none⟩ = some (.slice F.Ap f.pk.length F.cp) ∧ W.cell? ⟨b, 5, none⟩ = some (.int .i64 f.day) ∧ W.cell? ⟨b, 6, none⟩ = some (.int .i64 f.nb) ∧ W.cell? ⟨b, 7, none⟩ = some (v) := by
  simp [World.cell?, show W.heap[b]? = _ from hb]
theorem CBox.of {W W' : World} {b : Nat} {F : FL} {f : Fair} {v : Value} (hb : CBox W b F f v) (e : W'.heap[b]? = W.heap[b]?) : CBox W' b F f v := e.trans hb
theorem CBox.lt {W : World} {b : Nat} {F : FL} {f : Fair} {v : Value} (hb : CBox W b F f v) : b < W.heap.size := heap_lt hb
theorem CBox.set7 {W : World} {b : Nat} {F : FL} {f : Fair} {v : Value} (hb : CBox W b F f v) (u : Value) : CBox (W.setCell ⟨b, 7, none⟩ u) b F f u := by
  unfold CBox; rw [heap_set u hb]; simp
/-- What a copy holds but its bids. -/
structure CopF (W : World) (n : Nat) (F : FL) (f : Fair) : Prop where
  h : OwnH W n F.L f.h
  p : Ints W n (.slice F.Ap f.pk.length F.cp) f.pk
theorem CopF.keepT {W W' : World} {n : Nat} {F : FL} {f : Fair} (H : CopF W n F f) (k1 : KeepT 66 W W') (k2 : KeepT 68 W W') (k3 : KeepT 3 W W') : CopF W' n F f := ⟨H.h.keepT k1 k2 k3, H.p.keepT k3⟩
theorem CopF.below {W W' : World} {n : Nat} {F : FL} {f : Fair} (H : CopF W n F f) (hb : Below W.heap.size W W') : CopF W' n F f := H.keepT (.below hb) (.below hb) (.below hb)
theorem CopF.mono {W : World} {n n' : Nat} {F : FL} {f : Fair} (H : CopF W n F f) (hn : n' ≤ n) : CopF W n' F f := ⟨H.h.mono hn, H.p.mono hn⟩
theorem CopF.set {W : World} {n : Nat} {F : FL} {f : Fair} (H : CopF W n F f) {z o : Nat} {u : Value} {t : TypeId} {arr : Array Value} (hz : W.heap[z]? = some (.cells arr t (0, 0))) (h1 : t ≠ 66) (h2 : t ≠ 68) (h3 : t ≠ 3) : CopF (W.setCell ⟨z, o, none⟩ u) n F f :=
  H.keepT (.set hz h1) (.set hz h2) (.set hz h3)
theorem set8_heap {W : World} {b : Nat} {a0 a1 a2 a3 a4 a5 a6 a7 : Value} {t : TypeId} (h : W.heap[b]? = some (.cells #[a0, a1, a2, a3, a4, a5, a6, a7] t (0, 0))) (x0 x1 x2 x3 x4 x5 x6 x7 : Value) : ((((((((W.setCell ⟨b, 0, none⟩ x0).setCell ⟨b, 1, none⟩ x1).setCell ⟨b, 2, none⟩ x2).setCell ⟨b, 3, none⟩ x3).setCell ⟨b, 4, none⟩ x4).setCell ⟨b, 5, none⟩ x5).setCell ⟨b, 6, none⟩ x6).setCell ⟨b, 7, none⟩ x7).heap[b]? = some (.cells #[x0, x1, x2, x3, x4, x5, x6, x7] t (0, 0)) := by
  have h3 := heap_set x7 (o := 7) (heap_set x6 (o := 6) (heap_set x5 (o := 5) (heap_set x4 (o := 4) (heap_set x3 (o := 3) (heap_set x2 (o := 2) (heap_set x1 (o := 1) (heap_set x0 (o := 0) (h))))))))
  rw [h3]
  simp
theorem keepT_set8 {t t' : TypeId} {W : World} {b : Nat} {arr : Array Value} (h : W.heap[b]? = some (.cells arr t' (0, 0))) (ht : t' ≠ t) (x0 x1 x2 x3 x4 x5 x6 x7 : Value) : KeepT t W ((((((((W.setCell ⟨b, 0, none⟩ x0).setCell ⟨b, 1, none⟩ x1).setCell ⟨b, 2, none⟩ x2).setCell ⟨b, 3, none⟩ x3).setCell ⟨b, 4, none⟩ x4).setCell ⟨b, 5, none⟩ x5).setCell ⟨b, 6, none⟩ x6).setCell ⟨b, 7, none⟩ x7) := by
  have h0 := heap_set (o := 0) x0 h
  have h1 := heap_set (o := 1) x1 h0
  have h2 := heap_set (o := 2) x2 h1
  have h3 := heap_set (o := 3) x3 h2
  have h4 := heap_set (o := 4) x4 h3
  have h5 := heap_set (o := 5) x5 h4
  have h6 := heap_set (o := 6) x6 h5
  exact (((((((KeepT.set h ht).trans (KeepT.set h0 ht)).trans (KeepT.set h1 ht)).trans (KeepT.set h2 ht)).trans (KeepT.set h3 ht)).trans (KeepT.set h4 ht)).trans (KeepT.set h5 ht)).trans (KeepT.set h6 ht)
theorem below_set8 {n : Nat} {w W : World} (h : Below n w W) {b : Nat} (hb : n ≤ b) (x0 x1 x2 x3 x4 x5 x6 x7 : Value) : Below n w ((((((((W.setCell ⟨b, 0, none⟩ x0).setCell ⟨b, 1, none⟩ x1).setCell ⟨b, 2, none⟩ x2).setCell ⟨b, 3, none⟩ x3).setCell ⟨b, 4, none⟩ x4).setCell ⟨b, 5, none⟩ x5).setCell ⟨b, 6, none⟩ x6).setCell ⟨b, 7, none⟩ x7) :=
  (((((((h.setCell (p := ⟨b, 0, none⟩) hb x0).setCell (p := ⟨b, 1, none⟩) hb x1).setCell (p := ⟨b, 2, none⟩) hb x2).setCell (p := ⟨b, 3, none⟩) hb x3).setCell (p := ⟨b, 4, none⟩) hb x4).setCell (p := ⟨b, 5, none⟩) hb x5).setCell (p := ⟨b, 6, none⟩) hb x6).setCell (p := ⟨b, 7, none⟩) hb x7
/-- What the first lines of Copy leave. -/
def CpR (w0 : World) (f : Fair) (s : Value) (W : World) : Prop := ∃ (z : Nat) (F : FL), s = .pointer (some ⟨z, 0, none⟩) ∧ w0.heap.size ≤ z ∧ CBox W z F f (.slice none 0 0) ∧ CopF W w0.heap.size F f ∧ Below w0.heap.size w0 W
theorem cpR_put {w0 W : World} {f : Fair} {z : Nat} {L : HL} {A : Option Addr} {c : Nat} (hz : W.heap[z]? = some (.cells #[.slice none 0 0, .int .i64 0, .slice none 0 0, .slice none 0 0, .slice none 0 0, .int .i64 0, .int .i64 0, .slice none 0 0] 41 (0, 0))) (hn : w0.heap.size ≤ z) (hH : OwnH W w0.heap.size L f.h) (hP : Ints W w0.heap.size (.slice A f.pk.length c) f.pk) (hb : Below w0.heap.size w0 W) :
    CpR w0 f (.pointer (some ⟨z, 0, none⟩)) ((((((((W.setCell ⟨z, 0, none⟩ (.slice L.Ak f.h.ks.length L.ck)).setCell ⟨z, 1, none⟩ (.int .i64 f.h.fl)).setCell ⟨z, 2, none⟩ (.slice L.Ap f.h.ps.length L.cp)).setCell ⟨z, 3, none⟩ (.slice L.Ab f.h.bs.length L.cb)).setCell ⟨z, 4, none⟩ (.slice A f.pk.length c)).setCell ⟨z, 5, none⟩ (.int .i64 f.day)).setCell ⟨z, 6, none⟩ (.int .i64 f.nb)).setCell ⟨z, 7, none⟩ (.slice none 0 0)) :=
  ⟨z, ⟨L, A, c, none, 0⟩, rfl, hn, set8_heap hz _ _ _ _ _ _ _ _, (CopF.mk (F := ⟨L, A, c, none, 0⟩) hH hP).keepT (keepT_set8 hz (by decide) _ _ _ _ _ _ _ _) (keepT_set8 hz (by decide) _ _ _ _ _ _ _ _) (keepT_set8 hz (by decide) _ _ _ _ _ _ _ _), below_set8 hb hn _ _ _ _ _ _ _ _⟩
theorem cpR_new {w0 W : World} {f : Fair} {L : HL} {A : Option Addr} {c : Nat} (hH : OwnH W w0.heap.size L f.h) (hP : Ints W w0.heap.size (.slice A f.pk.length c) f.pk) (hb : Below w0.heap.size w0 W) :
    CpR w0 f (.pointer (some ⟨W.heap.size, 0, none⟩)) (W.alloc (.cells #[.slice L.Ak f.h.ks.length L.ck, .int .i64 f.h.fl, .slice L.Ap f.h.ps.length L.cp, .slice L.Ab f.h.bs.length L.cb, .slice A f.pk.length c, .int .i64 f.day, .int .i64 f.nb, .slice none 0 0] 41)) :=
  ⟨W.heap.size, ⟨L, A, c, none, 0⟩, rfl, hb.size, World.alloc_heap_new W _, (CopF.mk (F := ⟨L, A, c, none, 0⟩) hH hP).below (al_below _ _), hb0to hb (al_below _ _)⟩
theorem zkeep {X W : World} {z : Nat} {o : Obj} (hb : Below X.heap.size X W) (h : X.heap[z]? = some o) : W.heap[z]? = some o := (hb.block z (heap_lt h)).trans h
theorem keepT_step {n : Nat} {W W' : World} {v : Value} {l : List Int} (hv : Ints W n v l) (hg : W.grownBy W' v.ownBlock) {t : TypeId} (ht : t ≠ 3) : KeepT t W W' := KeepT.grown hv hg (Ne.symm ht)
theorem OwnH.grownLow {W W' : World} {n b : Nat} {L : HL} {h : House} (H : OwnH W n L h) (k1 : KeepT 66 W W') (k2 : KeepT 68 W W') (hg : W.grownBy W' (some b)) (hb : b < n) : OwnH W' n L h := ⟨H.k.keepT k1, H.p.keepT k2, Ints.grownLow H.b hg hb⟩
theorem load29 {W : World} {b : Nat} {x0 x1 x2 x3 x4 x5 x6 x7 : Value} (h0 : W.cell? ⟨b, 0, none⟩ = some x0) (h1 : W.cell? ⟨b, 1, none⟩ = some x1) (h2 : W.cell? ⟨b, 2, none⟩ = some x2) (h3 : W.cell? ⟨b, 3, none⟩ = some x3) (h4 : W.cell? ⟨b, 4, none⟩ = some x4) (h5 : W.cell? ⟨b, 5, none⟩ = some x5) (h6 : W.cell? ⟨b, 6, none⟩ = some x6) (h7 : W.cell? ⟨b, 7, none⟩ = some x7) :
    (Instr.loadAt 41 (.pointer (some ⟨b, 0, none⟩))).run Tryz.prog W = .ok (.agg #[x0, x1, x2, x3, x4, x5, x6, x7]) W := by
  simp [go_sem, Instr.loadAt, Instr.sureAddr, *]
theorem keepI {W W' : World} {base : Nat} {v : Value} {l : List Int} (hk : KeepT 3 W W') (h : Ints W base v l) : Ints W' base v l := h.keepT hk
theorem made2 (w : World) (o : Obj) (n : Nat) (hn : n ≤ w.heap.size) : Ints ((w.alloc o).alloc (.cells #[] 3)) n (.slice (some ⟨w.heap.size + 1, 0, none⟩) 0 0) [] := by
  have := ints_made (w.alloc o) n (by simp; omega)
  rwa [World.size_alloc] at this
set_option maxRecDepth 100000 in
set_option maxHeartbeats 4000000 in
theorem copy_line (F : FL) (f : Fair) (hn : FN f) (hok : FLOK F f) (w : World) (hF : FairAt w w.heap.size F f) :
    Calls Tryz.prog 67 #[F.enc f] w fun e w' => (∃ F', e = .returned (F'.enc f) ∧ CopF w' w.heap.size F' f ∧ OwnsQ InnOwn w' w.heap.size (.slice F'.Aq f.q.length F'.cq) f.q) ∧ Below w.heap.size w w' := by
  obtain ⟨W0, hW0⟩ : ∃ W0, (w.alloc (.cells #[.slice F.L.Ak f.h.ks.length F.L.ck, .int .i64 f.h.fl, .slice F.L.Ap f.h.ps.length F.L.cp, .slice F.L.Ab f.h.bs.length F.L.cb, .slice F.Ap f.pk.length F.cp, .int .i64 f.day, .int .i64 f.nb, .slice F.Aq f.q.length F.cq] 41)).alloc (.cells #[.slice none 0 0, .int .i64 0, .slice none 0 0, .slice none 0 0, .slice none 0 0, .int .i64 0, .int .i64 0, .slice none 0 0] 41) = W0 := ⟨_, rfl⟩
  have hb0 : Below w.heap.size w W0 := by rw [← hW0]; exact hb0to (al_below _ _) (al_below _ _)
  have hx0 : FBox W0 w.heap.size F f := (FBox.new w F f).of (by rw [← hW0]; exact Below.heap_alloc _ _ _ (by simp))
  have hr0 : W0.heap[w.heap.size + 1]? = some (.cells #[.slice none 0 0, .int .i64 0, .slice none 0 0, .slice none 0 0, .slice none 0 0, .int .i64 0, .int .i64 0, .slice none 0 0] 41) := by rw [← hW0]; exact heap_new2 _ _ _
  have hs0 : w.heap.size + 2 ≤ W0.heap.size := heap_lt hr0
  have HW0 := Lib.hid hW0
  have HBW := Lib.hid hb0
  have HB := Lib.hid hx0
  have HR := Lib.hid hr0
  have HP := Lib.hid hok.p
  have HLP := Lib.hid hn.p
  have HN := Lib.hid hn
  have HF := Lib.hid (hF.below hb0)
  have HC := Lib.hid (fun W (hb : Below W0.heap.size W0 W) => copy_any F.L f.h hn.h hok.h W (HF.out.below hb).h)
  obtain ⟨c0, c1, c2, c3, c4, c5, c6, c7⟩ := hx0.cells
  clear hW0 hb0 hx0 hr0 hn hok hF
  obtain ⟨L, Ap, cp, Aq, cq⟩ := F
  go_enter Tryz.func67, Tryz.ntmps67
  go_upto_region 1 with (fail)
  have e := HW0.out
  rw [e]
  clear e
  go_cut [3] (fun s wx => CpR W0 f s wx)
  case first =>
    go_region_held3 (fun w' => w'.cell? ⟨w.heap.size, 0, none⟩ = some (.slice L.Ak f.h.ks.length L.ck) ∧ w'.cell? ⟨w.heap.size, 1, none⟩ = some (.int .i64 f.h.fl) ∧ w'.cell? ⟨w.heap.size, 2, none⟩ = some (.slice L.Ap f.h.ps.length L.cp) ∧ w'.cell? ⟨w.heap.size, 3, none⟩ = some (.slice L.Ab f.h.bs.length L.cb) ∧ w'.cell? ⟨w.heap.size, 4, none⟩ = some (.slice Ap f.pk.length cp) ∧ w'.cell? ⟨w.heap.size, 5, none⟩ = some (.int .i64 f.day) ∧ w'.cell? ⟨w.heap.size, 6, none⟩ = some (.int .i64 f.nb) ∧ w'.cell? ⟨w.heap.size, 7, none⟩ = some (.slice Aq f.q.length cq)) (first | go_keep)
      (first
        | (go_at_call 86; refine (HC.out _ (by first | exact Below.refl _ _ | exact al_below _ _ | exact hb0to (al_below _ _) (al_below _ _) | exact drew_below _ | exact rows_below1 _ _ | exact hb0to (al_below _ _) (rows_below1 _ _) | exact hb0to (drew_below _) (al_below _ _))).mono ?_; rintro e w1 ⟨⟨L', k1, k2, rfl, hc1⟩, hb1⟩; have HO1 := Lib.hid hc1.own; have B1 : Hid (Below W0.heap.size W0 w1) := Lib.hid (by first | exact hb1 | exact hb0to (al_below _ _) hb1 | exact hb0to (hb0to (al_below _ _) (al_below _ _)) hb1 | exact hb0to (drew_below _) hb1 | exact hb0to (rows_below1 _ _) hb1 | exact hb0to (hb0to (al_below _ _) (rows_below1 _ _)) hb1); have s1 := B1.out.size; (first | (have HZ := Lib.hid (zkeep hb1 (heap_new1 W0 (.cells #[.slice none 0 0, .int .i64 0, .slice none 0 0, .slice none 0 0, .slice none 0 0, .int .i64 0, .int .i64 0, .slice none 0 0] 41)))) | (have HZ := Lib.hid (zkeep hb1 (heap_keep (heap_new1 W0 (.cells #[.slice none 0 0, .int .i64 0, .slice none 0 0, .slice none 0 0, .slice none 0 0, .int .i64 0, .int .i64 0, .slice none 0 0] 41))))) | (have HZ := Lib.hid (zkeep hb1 (heap_new2 W0 _ (.cells #[.slice none 0 0, .int .i64 0, .slice none 0 0, .slice none 0 0, .slice none 0 0, .int .i64 0, .int .i64 0, .slice none 0 0] 41)))) | skip); (first | (have HV := Lib.hid (keepI (KeepT.below hb1) (ints_made W0 W0.heap.size (Nat.le_refl _)))) | (have HV := Lib.hid (keepI (KeepT.below hb1) (made2 W0 (.cells #[.slice none 0 0, .int .i64 0, .slice none 0 0, .slice none 0 0, .slice none 0 0, .int .i64 0, .int .i64 0, .slice none 0 0] 41) W0.heap.size (Nat.le_refl _)))) | (have HV := Lib.hid (keepI (KeepT.below hb1) ((ints_made W0 W0.heap.size (Nat.le_refl _)).alloc (.cells #[.slice none 0 0, .int .i64 0, .slice none 0 0, .slice none 0 0, .slice none 0 0, .int .i64 0, .int .i64 0, .slice none 0 0] 41)))) | skip); obtain ⟨c0, c1, c2, c3, c4, c5, c6, c7⟩ := (HB.out.of (B1.out.block _ HB.out.lt)).cells; clear hc1 hb1)
        | (refine step_copyG (by rfl) _ _ (by rfl) w1.heap.size _ [] (by rfl) (by first | exact ints_made w1 _ (Nat.le_refl _) | exact made2 w1 _ _ (Nat.le_refl _) | exact (ints_made w1 _ (Nat.le_refl _)).alloc _) Ap cp f.pk f.pk.length rfl HP.out (by rfl) ((HF.out.below (hb0to B1.out (by first | exact Below.refl _ _ | exact al_below _ _ | exact hb0to (al_below _ _) (al_below _ _) | exact drew_below _ | exact rows_below1 _ _ | exact hb0to (al_below _ _) (rows_below1 _ _) | exact hb0to (drew_below _) (al_below _ _)))).p) (by simp) HLP.out (by first | (simp; done) | (simp; omega)) ?_; intro v3 w5 h1 h2 h3; have hb15 : Below w1.heap.size w1 w5 ∨ True := .inr trivial; have hb5 : Below w1.heap.size w1 w5 := Below.trans (by first | exact Below.refl _ _ | exact al_below _ _ | exact hb0to (al_below _ _) (al_below _ _) | exact drew_below _ | exact rows_below1 _ _ | exact hb0to (al_below _ _) (rows_below1 _ _) | exact hb0to (drew_below _) (al_below _ _)) h2; have HO5 := Lib.hid (HO1.out.below hb5); have B5 := Lib.hid (hb0to B1.out hb5); clear hb5; (first | (have hz5 := (keepT_step (n := w1.heap.size) (l := []) (by first | exact ints_made w1 _ (Nat.le_refl _) | exact made2 w1 _ _ (Nat.le_refl _) | exact (ints_made w1 _ (Nat.le_refl _)).alloc _) h3 (by decide : (41 : TypeId) ≠ 3)) _ _ (by first | exact zkeep (by first | exact Below.refl _ _ | exact al_below _ _ | exact hb0to (al_below _ _) (al_below _ _) | exact drew_below _ | exact rows_below1 _ _ | exact hb0to (al_below _ _) (rows_below1 _ _) | exact hb0to (drew_below _) (al_below _ _)) HZ.out | exact heap_keep (heap_new1 w1 (.cells #[.slice none 0 0, .int .i64 0, .slice none 0 0, .slice none 0 0, .slice none 0 0, .int .i64 0, .int .i64 0, .slice none 0 0] 41)) | exact heap_new2 w1 _ (.cells #[.slice none 0 0, .int .i64 0, .slice none 0 0, .slice none 0 0, .slice none 0 0, .int .i64 0, .int .i64 0, .slice none 0 0] 41)); have z0 := cell_of_heap (o := 0) hz5 rfl; have z1 := cell_of_heap (o := 1) hz5 rfl; have z2 := cell_of_heap (o := 2) hz5 rfl; have z3 := cell_of_heap (o := 3) hz5 rfl; have z4 := cell_of_heap (o := 4) hz5 rfl; have z5 := cell_of_heap (o := 5) hz5 rfl; have z6 := cell_of_heap (o := 6) hz5 rfl; have z7 := cell_of_heap (o := 7) hz5 rfl; have zf := frozen_of_heap hz5; have HZ5 := Lib.hid hz5; clear hz5) | skip); obtain ⟨A5, k5, rfl, -, -, -⟩ := (show Ints w5 w1.heap.size v3 f.pk from h1).lay; have H5 := Lib.hid h1; have s5 := B5.out.size; have n00 : ¬ W0.heap.size = w.heap.size := (by omega); have n01 : ¬ w.heap.size = W0.heap.size := (by omega); have n10 : ¬ W0.heap.size + 1 = w.heap.size := (by omega); have n11 : ¬ w.heap.size = W0.heap.size + 1 := (by omega); have n20 : ¬ w1.heap.size = w.heap.size := (by omega); have n21 : ¬ w.heap.size = w1.heap.size := (by omega); have n30 : ¬ w1.heap.size + 1 = w.heap.size := (by omega); have n31 : ¬ w.heap.size = w1.heap.size + 1 := (by omega); have n40 : ¬ w5.heap.size = w.heap.size := (by omega); have n41 : ¬ w.heap.size = w5.heap.size := (by omega); obtain ⟨c0, c1, c2, c3, c4, c5, c6, c7⟩ := (HB.out.of (B5.out.block _ HB.out.lt)).cells; clear h1 h2 h3 hb15)
        | (refine step_copyG (by rfl) _ _ (by rfl) W0.heap.size _ [] (by rfl) (by first | exact HV.out | exact HV.out.alloc _) Ap cp f.pk f.pk.length rfl HP.out (by rfl) ((HF.out.below (hb0to B1.out (by first | exact Below.refl _ _ | exact al_below _ _ | exact hb0to (al_below _ _) (al_below _ _) | exact drew_below _ | exact rows_below1 _ _ | exact hb0to (al_below _ _) (rows_below1 _ _) | exact hb0to (drew_below _) (al_below _ _)))).p) (by simp) HLP.out (by first | exact s1 | (simp; omega)) ?_; intro v3 w5 h1 h2 h3; have hb15 : Below w1.heap.size w1 w5 ∨ True := .inr trivial; have hb5 : Below W0.heap.size W0 w5 := Below.trans (by first | exact B1.out | exact hb0to B1.out (al_below _ _) | exact hb0to B1.out (rows_below1 _ _)) h2; have HO5 := Lib.hid ((HO1.out.below (by first | exact Below.refl _ _ | exact al_below _ _ | exact hb0to (al_below _ _) (al_below _ _) | exact drew_below _ | exact rows_below1 _ _ | exact hb0to (al_below _ _) (rows_below1 _ _) | exact hb0to (drew_below _) (al_below _ _))).grownLow (keepT_step (n := W0.heap.size) (l := []) (by first | exact HV.out | exact HV.out.alloc _) h3 (by decide)) (keepT_step (n := W0.heap.size) (l := []) (by first | exact HV.out | exact HV.out.alloc _) h3 (by decide)) h3 (by first | (simp; done) | exact heap_lt (heap_new1 W0 (.cells #[] 3)) | exact heap_lt (heap_new2 W0 _ (.cells #[] 3)) | exact heap_lt (heap_keep (heap_new1 W0 (.cells #[] 3))))); have B5 := Lib.hid hb5; clear hb5; (first | (have hz5 := (keepT_step (n := W0.heap.size) (l := []) (by first | exact HV.out | exact HV.out.alloc _) h3 (by decide : (41 : TypeId) ≠ 3)) _ _ (by first | exact HZ.out | exact heap_new1 w1 (.cells #[.slice none 0 0, .int .i64 0, .slice none 0 0, .slice none 0 0, .slice none 0 0, .int .i64 0, .int .i64 0, .slice none 0 0] 41)); have z0 := cell_of_heap (o := 0) hz5 rfl; have z1 := cell_of_heap (o := 1) hz5 rfl; have z2 := cell_of_heap (o := 2) hz5 rfl; have z3 := cell_of_heap (o := 3) hz5 rfl; have z4 := cell_of_heap (o := 4) hz5 rfl; have z5 := cell_of_heap (o := 5) hz5 rfl; have z6 := cell_of_heap (o := 6) hz5 rfl; have z7 := cell_of_heap (o := 7) hz5 rfl; have zf := frozen_of_heap hz5; have HZ5 := Lib.hid hz5; clear hz5) | skip); obtain ⟨A5, k5, rfl, -, -, -⟩ := (show Ints w5 W0.heap.size v3 f.pk from h1).lay; have H5 := Lib.hid h1; have s5 := B5.out.size; have n00 : ¬ W0.heap.size = w.heap.size := (by omega); have n01 : ¬ w.heap.size = W0.heap.size := (by omega); have n10 : ¬ W0.heap.size + 1 = w.heap.size := (by omega); have n11 : ¬ w.heap.size = W0.heap.size + 1 := (by omega); have n20 : ¬ w1.heap.size = w.heap.size := (by omega); have n21 : ¬ w.heap.size = w1.heap.size := (by omega); have n30 : ¬ w1.heap.size + 1 = w.heap.size := (by omega); have n31 : ¬ w.heap.size = w1.heap.size + 1 := (by omega); have n40 : ¬ w5.heap.size = w.heap.size := (by omega); have n41 : ¬ w.heap.size = w5.heap.size := (by omega); obtain ⟨c0, c1, c2, c3, c4, c5, c6, c7⟩ := (HB.out.of (B5.out.block _ HB.out.lt)).cells; clear h1 h2 h3 hb15))
    all_goals
      go_wp2_with (fail)
      go_meet
      first
        | (have hz9 := HZ5.out; exact cpR_put (L := L') (A := A5) (c := k5) hz9 (by omega) (HO5.out.mono (by first | omega | (simp; done) | (simp; omega))) (Ints.mono H5.out (by omega)) B5.out)
        | exact cpR_new (L := L') (A := A5) (c := k5) (HO5.out.mono (by first | omega | (simp; done) | (simp; omega))) (Ints.mono H5.out (by omega)) B5.out
  case rest =>
    obtain ⟨z, ⟨L', A', c', A9, c9⟩, rfl, hz, hcb, hcf, hb⟩ := hcut
    obtain ⟨wb, rfl⟩ : ∃ x : World, x = wc := ⟨_, rfl⟩
    clear c0 c1 c2 c3 c4 c5 c6 c7 HC HP HLP
    have HCB := Lib.hid hcb
    have HCF := Lib.hid hcf
    have HBB := Lib.hid hb
    have hzne : ¬ z = w.heap.size := by omega
    have hznf : ¬ w.heap.size = z := by omega
    have hzr : ¬ z = w.heap.size + 1 := by omega
    have hzs : ¬ w.heap.size + 1 = z := by omega
    clear hcb hcf hb
    go_wp2_with (fail)
    go_loopw [4] (fun i wr => ∃ k : Nat, k ≤ f.q.length ∧ i = .int .i64 k ∧ (∃ v, Hid (CBox wr z ⟨L', A', c', A9, c9⟩ f v) ∧ Hid (CopF wr W0.heap.size ⟨L', A', c', A9, c9⟩ f) ∧ Hid (OwnsQ InnOwn wr W0.heap.size v (f.q.take k))) ∧ Hid (Below W0.heap.size W0 wr)) (fun i _ => f.q.length - (intOf i).toNat)
    case atStart => exact ⟨0, Nat.zero_le _, rfl, ⟨_, HCB, HCF, Lib.hid (ownsQ_nil _ _ _)⟩, HBB⟩
    case round =>
      obtain ⟨k, hk, rfl, ⟨v, HO, HG, HQ⟩, HBr⟩ := hrel
      obtain ⟨c0, c1, c2, c3, c4, c5, c6, c7⟩ := (HB.out.of (HBr.out.block _ HB.out.lt)).cells
      obtain ⟨z0, z1, z2, z3, z4, z5, z6, z7⟩ := HO.out.cells
      have zf := frozen_of_heap HO.out
      have hq1000 := HN.out.q
      by_cases hlt : k < f.q.length
      · obtain ⟨x, hx⟩ : ∃ x, f.q[k]? = some x := ⟨_, List.getElem?_eq_getElem hlt⟩
        obtain ⟨bk, ok, A2, c2', rfl, hbk, d1, d2, d3, hA2, hI⟩ := HF.out.q.at_ hx
        have e1 := below_cell HBr.out d1
        have e2 := below_cell HBr.out d2
        have e3 := below_cell HBr.out d3
        have hbl := HN.out.b x (List.mem_of_getElem? hx)
        have HCP := Lib.hid (fun W (hb : Below wr.heap.size wr W) => copyBid_any A2 c2' x hA2 hbl W (ints_later (ints_later hI HBr.out) hb))
        have HTK := Lib.hid (take_snoc_next hx)
        have hql : (f.q.take k).length ≤ 1000 := by have := HN.out.q; rw [List.length_take]; omega
        have hbkz : ¬ bk = z := by omega
        have hbkw : ¬ z = bk := by omega
        have hwz : W0.heap.size ≤ wr.heap.size := HBr.out.size
        have hzl : z < wr.heap.size := HO.out.lt
        have HDs := Lib.hid (And.intro d1 (And.intro d2 d3))
        clear d1 d2 d3 hI hA2 hx c0 c1 c2 c3 c4 c5 c6 z0 z1 z2 z3 z4 z5 z6
        go_wp2_with (fail)
        go_region_law
          (first
            | (refine step_appQ (by rfl) (.tmp 25) (.tmp 32) (by rfl) InnOwn W0.heap.size v (f.q.take k) (by rfl) (HQ.out.belowO (by first | exact hb0to B1.out (al_below _ _) | exact hb0to B1.out (rows_below1 _ _))) w1.heap.size 1 x Au cu (by rfl) (by simp [go_sem]) (by simp [go_sem]) (by simp [go_sem]) hql (by simp; omega) (fun w' hb' hk' => ⟨Ints.keepT (Ints.keepT HU.out (KeepT.below (by first | exact al_below _ _ | exact rows_below1 _ _))) hk', fun u l hu => Ints.keepT hu hk'⟩) ?_; intro v5 w5 ho5 hb5 hk5; obtain ⟨A5, k5, rfl, -, -, -⟩ := ho5.layO; have B5 : Hid (Below W0.heap.size W0 w5) := Lib.hid (Below.trans (by first | exact hb0to (hb0to HBr.out B1.out) (al_below _ _) | exact hb0to (hb0to HBr.out B1.out) (rows_below1 _ _)) hb5); have BX : Hid (Below wr.heap.size wr _) := Lib.hid (by first | exact hb0to B1.out (al_below w1 (.cells #[.int .i64 x.who, .slice Au x.bar.length cu, .int .i64 x.pay] 44)) | exact hb0to B1.out (rows_below1 w1 (.cells #[.int .i64 x.who, .slice Au x.bar.length cu, .int .i64 x.pay] 44))); have HO5 := Lib.hid (show CBox w5 z ⟨L', A', c', A9, c9⟩ f v from hk5 41 (by decide) _ _ ((HO.out.of (BX.out.block _ HO.out.lt)))); have HG5 := Lib.hid ((HG.out.below BX.out).keepT (hk5 66 (by decide)) (hk5 68 (by decide)) (hk5 3 (by decide))); have HQ5 := Lib.hid ho5; have c7 := (HB.out.of (B5.out.block _ HB.out.lt)).cells.2.2.2.2.2.2.2; have z7 := HO5.out.cells.2.2.2.2.2.2.2; have zf := frozen_of_heap HO5.out; have e1 := below_cell B5.out HDs.out.1; have e2 := below_cell B5.out HDs.out.2.1; have e3 := below_cell B5.out HDs.out.2.2; clear ho5 hb5 hk5)
            | (go_simp; go_at_call 87; refine (HCP.out _ (by first | exact Below.refl _ _ | exact al_below _ _ | exact hb0to (al_below _ _) (al_below _ _) | exact drew_below _ | exact rows_below1 _ _ | exact hb0to (al_below _ _) (rows_below1 _ _) | exact hb0to (drew_below _) (al_below _ _))).mono ?_; rintro e w1 ⟨⟨u, rfl, hu⟩, hb1⟩; have B1 : Hid (Below wr.heap.size wr w1) := Lib.hid (by first | exact hb1 | exact hb0to (al_below _ _) hb1 | exact hb0to (hb0to (al_below _ _) (al_below _ _)) hb1 | exact hb0to (drew_below _) hb1 | exact hb0to (rows_below1 _ _) hb1 | exact hb0to (hb0to (al_below _ _) (rows_below1 _ _)) hb1); have HU := Lib.hid (Ints.mono hu (Nat.zero_le _)); obtain ⟨Au, cu, rfl, -, -, -⟩ := ints_slice hu; have c7 := (HB.out.of ((hb0to HBr.out B1.out).block _ HB.out.lt)).cells.2.2.2.2.2.2.2; have z7 := (HO.out.of (B1.out.block _ HO.out.lt)).cells.2.2.2.2.2.2.2; have e1 := below_cell (hb0to HBr.out B1.out) HDs.out.1; have e2 := below_cell (hb0to HBr.out B1.out) HDs.out.2.1; have e3 := below_cell (hb0to HBr.out B1.out) HDs.out.2.2; have s1 := B1.out.size; have zz1 : z < w1.heap.size := (by omega); have zz2 : ¬ z = w1.heap.size := (by omega); have zz3 : w.heap.size < w1.heap.size := (by omega); have zz4 : ¬ w.heap.size = w1.heap.size := (by omega); have zz5 : bk < w1.heap.size := (by omega); have zz6 : ¬ bk = w1.heap.size := (by omega); clear hu hb1))
        all_goals
          go_wp2_with (fail)
          have hlen : (f.q.take k ++ [x]).length = k + 1 := by rw [List.length_append, List.length_take]; simp; omega
          have hq5 := HQ5.out
          rw [hlen] at hq5
          go_roundw
          case rel => exact ⟨k + 1, by omega, by go_num, ⟨_, Lib.hid (HO5.out.set7 _), Lib.hid (HG5.out.set HO5.out (by decide) (by decide) (by decide)), Lib.hid (by rw [← HTK.out]; exact hq5.keepO (KeepT.set HO5.out (by decide)) (KeepT.set HO5.out (by decide)))⟩, Lib.hid (B5.out.setCell (p := ⟨z, 7, none⟩) hz _)⟩
          case measure => simp [intOf]; omega
      · obtain rfl : k = f.q.length := by omega
        have hq2 := HQ.out
        rw [List.take_length] at hq2
        obtain ⟨Aq2, cq2, rfl, -, -, -⟩ := hq2.layO
        have HQ2 := Lib.hid hq2
        have hr := (HBr.out.block _ (heap_lt HR.out)).trans HR.out
        have HRr := Lib.hid hr
        have r0 := cell_of_heap (o := 0) hr rfl; have r1 := cell_of_heap (o := 1) hr rfl; have r2 := cell_of_heap (o := 2) hr rfl; have r3 := cell_of_heap (o := 3) hr rfl; have r4 := cell_of_heap (o := 4) hr rfl; have r5 := cell_of_heap (o := 5) hr rfl; have r6 := cell_of_heap (o := 6) hr rfl; have r7 := cell_of_heap (o := 7) hr rfl
        have rf := frozen_of_heap hr
        clear hq2 hr
        go_wp2_with (fail)
        have e := set8_heap HRr.out (.slice L'.Ak f.h.ks.length L'.ck) (.int .i64 f.h.fl) (.slice L'.Ap f.h.ps.length L'.cp) (.slice L'.Ab f.h.bs.length L'.cb) (.slice A' f.pk.length c') (.int .i64 f.day) (.int .i64 f.nb) (.slice Aq2 f.q.length cq2)
        have hs1 := HBW.out.size
        refine bodyPost_ret (results_cell rfl rfl (load29 (cell_of_heap (o := 0) e rfl) (cell_of_heap (o := 1) e rfl) (cell_of_heap (o := 2) e rfl) (cell_of_heap (o := 3) e rfl) (cell_of_heap (o := 4) e rfl) (cell_of_heap (o := 5) e rfl) (cell_of_heap (o := 6) e rfl) (cell_of_heap (o := 7) e rfl))) rfl ⟨⟨⟨L', A', c', Aq2, cq2⟩, rfl, ?_, ?_⟩, ?_⟩
        · exact (CopF.mono (show CopF wr W0.heap.size ⟨L', A', c', Aq2, cq2⟩ f from ⟨HG.out.h, HG.out.p⟩) hs1).keepT (keepT_set8 HRr.out (by decide) _ _ _ _ _ _ _ _) (keepT_set8 HRr.out (by decide) _ _ _ _ _ _ _ _) (keepT_set8 HRr.out (by decide) _ _ _ _ _ _ _ _)
        · exact (OwnsQ.mono HQ2.out hs1).keepO (keepT_set8 HRr.out (by decide) _ _ _ _ _ _ _ _) (keepT_set8 HRr.out (by decide) _ _ _ _ _ _ _ _)
        · exact below_set8 (hb0to HBW.out HBr.out) (by omega) _ _ _ _ _ _ _ _

end Go.Proofs.YtmbcpmnigggbaabGreat
namespace Go.Proofs.YtmbcpmnigggbaabGreat
open Go.RowKit

/-! OnDay 28. -/
/-- A copy: what a function that copies returns. -/
def CopRet (f : Fair) (n : Nat) (w' : World) (e : Ending) : Prop := ∃ F', e = .returned (F'.enc f) ∧ CopF w' n F' f ∧ OwnsQ InnOwn w' n (.slice F'.Aq f.q.length F'.cq) f.q
theorem CopRet.fair {f : Fair} {n : Nat} {w' : World} {F' : FL} (h : CopF w' n F' f) (hq : OwnsQ InnOwn w' n (.slice F'.Aq f.q.length F'.cq) f.q) : FairAt w' w'.heap.size F' f ∧ FLOK F' f := by
  obtain ⟨A, c, e, h1, h2, h3⟩ := hq.layO
  injection e with e1 e2 e3
  have hp := ints_at h.p
  refine ⟨⟨h.h.house, hp.1.at_, ?_⟩, ⟨h.h.ok, hp.2.1, ?_⟩⟩
  · rw [e1]; exact h2
  · rw [e1, e3]; exact h1
def dayF (f : Fair) (d : Int) : Fair := { f with day := d }
set_option maxRecDepth 100000 in
set_option maxHeartbeats 4000000 in
theorem onDay_any (F : FL) (f : Fair) (hn : FN f) (hok : FLOK F f) (d : Int) (w : World) (hF : FairAt w w.heap.size F f) :
    Calls Tryz.prog 45 #[F.enc f, .int .i64 d] w fun e w' => CopRet (dayF f d) w.heap.size w' e ∧ Below w.heap.size w w' := by
  obtain ⟨W0, hW0⟩ : ∃ W0, (w.alloc (.cells #[.slice F.L.Ak f.h.ks.length F.L.ck, .int .i64 f.h.fl, .slice F.L.Ap f.h.ps.length F.L.cp, .slice F.L.Ab f.h.bs.length F.L.cb, .slice F.Ap f.pk.length F.cp, .int .i64 f.day, .int .i64 f.nb, .slice F.Aq f.q.length F.cq] 41)).alloc (.cells #[.slice none 0 0, .int .i64 0, .slice none 0 0, .slice none 0 0, .slice none 0 0, .int .i64 0, .int .i64 0, .slice none 0 0] 41) = W0 := ⟨_, rfl⟩
  have hb0 : Below w.heap.size w W0 := by rw [← hW0]; exact hb0to (al_below _ _) (al_below _ _)
  have hx0 : FBox W0 w.heap.size F f := (FBox.new w F f).of (by rw [← hW0]; exact Below.heap_alloc _ _ _ (by simp))
  have hr0 : W0.heap[w.heap.size + 1]? = some (.cells #[.slice none 0 0, .int .i64 0, .slice none 0 0, .slice none 0 0, .slice none 0 0, .int .i64 0, .int .i64 0, .slice none 0 0] 41) := by rw [← hW0]; exact heap_new2 _ _ _
  have hs0 : w.heap.size + 2 ≤ W0.heap.size := heap_lt hr0
  have HW0 := Lib.hid hW0
  have HBW := Lib.hid hb0
  have HB := Lib.hid hx0
  have HR := Lib.hid hr0
  have HN := Lib.hid hn
  have HF := Lib.hid (hF.below hb0)
  have HC := Lib.hid (copy_line F f hn hok W0 HF.out)
  obtain ⟨c0, c1, c2, c3, c4, c5, c6, c7⟩ := hx0.cells
  clear hW0 hb0 hx0 hr0 hn hok hF
  obtain ⟨L, Ap, cp, Aq, cq⟩ := F
  go_enter Tryz.func45, Tryz.ntmps45
  go_upto_region 1 with (fail)
  have e := HW0.out
  rw [e]
  clear e
  go_wp2_with (go_at_call 67; refine HC.out.mono ?_; rintro e w1 ⟨⟨⟨L', A', c', A9, c9⟩, rfl, hcf, hq⟩, hb1⟩; have B1 := Lib.hid hb1; have HCF := Lib.hid hcf; have HQ := Lib.hid hq; have hr := (hb1.block _ (heap_lt HR.out)).trans HR.out; have HRr := Lib.hid hr; have r0 := cell_of_heap (o := 0) hr rfl; have r1 := cell_of_heap (o := 1) hr rfl; have r2 := cell_of_heap (o := 2) hr rfl; have r3 := cell_of_heap (o := 3) hr rfl; have r4 := cell_of_heap (o := 4) hr rfl; have r5 := cell_of_heap (o := 5) hr rfl; have r6 := cell_of_heap (o := 6) hr rfl; have r7 := cell_of_heap (o := 7) hr rfl; have rf := frozen_of_heap hr; have s1 := B1.out.size; have n0 : ¬ w1.heap.size = w.heap.size + 1 := (by omega); have n1 : ¬ w.heap.size + 1 = w1.heap.size := (by omega); have n2 : w.heap.size + 1 < w1.heap.size := (by omega); clear hcf hq hb1 hr)
  have e := set8_heap HRr.out (.slice L'.Ak f.h.ks.length L'.ck) (.int .i64 f.h.fl) (.slice L'.Ap f.h.ps.length L'.cp) (.slice L'.Ab f.h.bs.length L'.cb) (.slice A' f.pk.length c') (.int .i64 d) (.int .i64 f.nb) (.slice A9 f.q.length c9)
  have e2 := heap_keep (o' := .cells #[.slice L'.Ak f.h.ks.length L'.ck, .int .i64 f.h.fl, .slice L'.Ap f.h.ps.length L'.cp, .slice L'.Ab f.h.bs.length L'.cb, .slice A' f.pk.length c', .int .i64 d, .int .i64 f.nb, .slice A9 f.q.length c9] 41) e
  have hs1 := HBW.out.size
  refine bodyPost_ret (results_cell rfl rfl (load29 (cell_of_heap (o := 0) e2 rfl) (cell_of_heap (o := 1) e2 rfl) (cell_of_heap (o := 2) e2 rfl) (cell_of_heap (o := 3) e2 rfl) (cell_of_heap (o := 4) e2 rfl) (cell_of_heap (o := 5) e2 rfl) (cell_of_heap (o := 6) e2 rfl) (cell_of_heap (o := 7) e2 rfl))) rfl ⟨⟨⟨L', A', c', A9, c9⟩, rfl, ?_, ?_⟩, ?_⟩
  · exact ((CopF.mono (show CopF w1 W0.heap.size ⟨L', A', c', A9, c9⟩ (dayF f d) from ⟨HCF.out.h, HCF.out.p⟩) hs1).keepT (keepT_set8 HRr.out (by decide) _ _ _ _ _ _ _ _) (keepT_set8 HRr.out (by decide) _ _ _ _ _ _ _ _) (keepT_set8 HRr.out (by decide) _ _ _ _ _ _ _ _)).below (al_below _ _)
  · exact ((OwnsQ.mono HQ.out hs1).keepO (keepT_set8 HRr.out (by decide) _ _ _ _ _ _ _ _) (keepT_set8 HRr.out (by decide) _ _ _ _ _ _ _ _)).belowO (al_below _ _)
  · exact hb0to (below_set8 (hb0to HBW.out B1.out) (by omega) _ _ _ _ _ _ _ _) (al_below _ _)

open Go.RowKit

theorem OwnsQ.at_ {W : World} {n c : Nat} {A : Option Addr} {q : List Bid} {i : Nat} {x : Bid} (h : OwnsQ InnOwn W n (.slice A q.length c) q) (hx : q[i]? = some x) :
    ∃ g A' c', A = some ⟨g, 0, none⟩ ∧ g < W.heap.size ∧ n ≤ g ∧ W.cell? ⟨g, i * 3, none⟩ = some (.int .i64 x.who) ∧ W.cell? ⟨g, i * 3 + 1, none⟩ = some (.slice A' x.bar.length c') ∧ W.cell? ⟨g, i * 3 + 2, none⟩ = some (.int .i64 x.pay) ∧ ∃ cur, W.heap[g]? = some (.cells cur 44 (0, 0)) := by
  obtain ⟨A8, c8, eA, -, hBA, hlo⟩ := h.layO
  injection eA with e1 e2 e3
  subst e1
  obtain ⟨rows, e, h1, _⟩ := h
  rcases h1.2 with ⟨e0, h0⟩ | ⟨g, cap, cur, e0, k1, k2, _⟩
  · have : rows = [] := List.length_eq_zero_iff.1 h0
    subst this
    simp at e
    subst e
    simp at hx
  · injection e0 with j1 j2 j3
    subst j1
    obtain ⟨bk, ok, A', c', eB, hbk, x1, x2, x3, _, _⟩ := hBA.at_ hx
    injection eB with eB
    injection eB with q1 q2 q3
    subst q1 q2
    rw [Nat.zero_add] at x1 x2 x3
    exact ⟨_, A', c', rfl, hbk, k1, x1, x2, x3, cur, k2⟩
end Go.Proofs.YtmbcpmnigggbaabGreat
namespace Go.Proofs.YtmbcpmnigggbaabGreat
open Go.RowKit
theorem run_app_where {w : World} {i : TypeInfo} (hi : Tryz.prog.info? 3 = some i) (hz : i.zero = some (.int .i64 0)) (hsize : i.size = 1) (hby : i.bytes = 8) (base ty : Nat) (v : Value) (n : Nat) (xs : List Value) (hown : w.ownsRow base 3 1 v n xs)
    (a : Addr) (c : Nat) (u : Value) (hu : w.cell? a = some u) (h1 : u.oneCell' = true) (h63 : n + 1 ≤ 1001) {v' : Value} {w' : World} (hr : (Builtin.append_ #[23, 23] ty #[v, .slice (some a) 1 c]).run Tryz.prog w = .ok v' w') :
    ∀ g, v'.ownBlock = some g → v.ownBlock = some g ∨ w.heap.size ≤ g := by
  have hnews : ∀ (j : Nat) x, ([u] : List Value)[j]? = some x → w.cell? (a.add j) = some x := fun j x hj => by
    match j, hj with
    | 0, hj => simp at hj; subst hj; simpa [Addr.add] using hu
  have hone : ∀ x ∈ ([u] : List Value), x.oneCell' = true := fun x hx => by simp at hx; subst hx; exact h1
  rcases hown.2 with ⟨rfl, rfl⟩ | ⟨g, cap, cur, rfl, hbg, hg, hnc, hcm, hcs, htake⟩
  · have hx : xs = [] := List.eq_nil_of_length_eq_zero (by simpa using hown.1)
    subst hx
    obtain ⟨v2, w2, hr2, h2, _, _⟩ := run_append_own (P := Tryz.prog) w w.heap.size 23 ty 3 i _ 1 8 Tryz.underlying23 hi hz hsize hby rfl (by decide) _ 0 [] (World.ownsRow_nil w w.heap.size 3 1) a 1 c [u] rfl hnews hone (by unfold maxLen; omega) (by omega) (Nat.le_refl _)
    rw [hr] at hr2
    cases hr2
    intro g hg
    rcases h2.2 with ⟨rfl, _⟩ | ⟨g', cap, cur, rfl, hb, _⟩
    · simp [Value.ownBlock] at hg
    · right
      simp only [Value.ownBlock, Option.some.injEq] at hg
      omega
  · by_cases hroom : n + 1 ≤ cap
    · have hr2 := run_append_room (P := Tryz.prog) w 23 ty 3 i Tryz.underlying23 hi g n cap cur hg a 1 c [u] (by rw [hsize]; rfl) hnews hone hroom (by rw [hsize, hcs]; simp; omega)
      rw [hr] at hr2
      cases hr2
      intro g' hg'
      exact .inl hg'
    · have holds : ∀ j u, xs[j]? = some u → w.cell? ((⟨g, 0, none⟩ : Addr).add j) = some u := hown.cells (g := g) rfl
      have hr2 := run_append_grow (P := Tryz.prog) w 23 ty 3 i _ Tryz.underlying23 hi hz ⟨g, 0, none⟩ n cap xs (by rw [hown.1, hsize]) holds a 1 c [u] (by rw [hsize]; rfl) hnews (by omega) (by omega) (growslice_fits (by omega) (by rw [hby]; omega))
      rw [hr] at hr2
      cases hr2
      intro g' hg'
      right
      simp only [Value.ownBlock, Option.some.injEq] at hg'
      omega
/-- 'out = append(out, x)', out the call's own; what grows, and where it lies then, is told. -/
theorem wpl_appD {ops : Array Oper} {rest : List Oper} {o : Oper} {a : Act} {w : World} {Q : Exit → Act → World → Prop} (hgd : o.guard = none) (s x : Operand)
    (ho : o.op = .call { callee := .builtin .append, args := #[s, x], argTypes := #[23, 23] }) (n₀ base : Nat) (v : Value) (l : List Int) (k : Int) (hs : a.eval s = v) (hown : Ints w base v l)
    (ad : Addr) (c : Nat) (hx : a.eval x = .slice (some ad) 1 c) (hc : w.cell? ad = some (.int .i64 k)) (hl : l.length ≤ 1000) (hbase : base ≤ w.heap.size) (hn : n₀ ≤ base)
    (h : ∀ v' w', Ints w' base v' (l ++ [k]) → Below n₀ w w' → w.grownBy w' v.ownBlock → (∀ g, v'.ownBlock = some g → v.ownBlock = some g ∨ w.heap.size ≤ g) → wpList Tryz.prog ops Q rest (a.put o.dst v') w') : wpList Tryz.prog ops Q (o :: rest) a w := by
  obtain ⟨i0, hi, hz0, hz1, hz2⟩ := info_parts info3'
  refine wpList_plain hgd fun K hK => ?_
  obtain ⟨v', w', hr, h2, h3, _⟩ := run_append_own (P := Tryz.prog) w base 23 o.type 3 i0 (.int .i64 0) 1 8 Tryz.underlying23 hi hz0 hz1 hz2 rfl (by decide) v l.length (l.map (.int .i64)) hown ad 1 c [.int .i64 k] rfl
    (fun j u hj => by
      match j, hj with
      | 0, hj => simp at hj; subst hj; simpa [Addr.add] using hc) (fun u hu => by simp at hu; subst hu; rfl) (by unfold maxLen; omega) (by omega) hbase
  have h5 := run_app_where hi hz0 hz1 hz2 base o.type v l.length _ hown ad c _ hc rfl (by omega) hr
  unfold Oper.wp execOp
  simp only [ho, resolve, invoke, builtin, Sem.run_bind, Sem.run_pure, Result.andThen_ok, List.map_toArray, List.map_cons, List.map_nil, hs, hx, hr]
  refine hK _ _ (h v' w' ?_ (own_below hown h3 (by omega) hn) h3 h5)
  unfold Ints
  rw [List.length_append, List.map_append]
  exact h2
theorem Ints.keepG {W W' : World} {base : Nat} {v u : Value} {l : List Int} (h : Ints W base v l) (hg : W.grownBy W' u.ownBlock) (hne : ∀ g, v.ownBlock = some g → u.ownBlock ≠ some g) : Ints W' base v l := by
  refine ⟨h.1, ?_⟩
  rcases h.2 with h2 | ⟨g, cap, cur, e, hb2, hgg, h4⟩
  · exact .inl h2
  · refine .inr ⟨g, cap, cur, e, hb2, (hg.block g (Array.getElem?_eq_some_iff.1 hgg).1 fun e2 => hne g (by rw [e]; rfl) e2.symm).trans hgg, h4⟩
theorem info97' : (Tryz.prog.info? 68).map (fun i => (i.zero, i.size, i.bytes)) = some (some (.agg #[.int .i64 0, .int .i64 0]), 2, 16) := by kernel_rfl
/-- 'out = append(out, pair)', out the call's own. -/
theorem wpl_appP {ops : Array Oper} {rest : List Oper} {o : Oper} {a : Act} {w : World} {Q : Exit → Act → World → Prop} (hgd : o.guard = none) (s x : Operand)
    (ho : o.op = .call { callee := .builtin .append, args := #[s, x], argTypes := #[36, 36] }) (n₀ : Nat) (v : Value) (l : List (Int × Int)) (y : Int × Int) (hs : a.eval s = v) (hown : OwnsP w 68 n₀ v l)
    (g c : Nat) (hx : a.eval x = .slice (some ⟨g, 0, none⟩) 1 c) (h0 : w.cell? ⟨g, 0, none⟩ = some (.int .i64 y.1)) (h1 : w.cell? ⟨g, 1, none⟩ = some (.int .i64 y.2)) (hl : l.length ≤ 1000) (hn : n₀ ≤ w.heap.size)
    (h : ∀ v' w', OwnsP w' 68 n₀ v' (l ++ [y]) → Below n₀ w w' → (∀ t, t ≠ 68 → KeepT t w w') → wpList Tryz.prog ops Q rest (a.put o.dst v') w') : wpList Tryz.prog ops Q (o :: rest) a w := by
  obtain ⟨i0, hi, hz0, hz1, hz2⟩ := info_parts info97'
  refine wpList_append_own w hgd s x 36 ho n₀ 68 i0 _ 2 16 Tryz.underlying36 hi hz0 hz1 hz2 rfl (by decide) v l.length _ hs hown ⟨g, 0, none⟩ 1 c [.int .i64 y.1, .int .i64 y.2] hx rfl ?_ ?_ ?_ ?_ hn ?_
  · intro j u hj
    match j, hj with
    | 0, hj => simp at hj; subst hj; exact h0
    | 1, hj => simp at hj; subst hj; exact h1
  · intro u hu
    simp at hu
    rcases hu with rfl | rfl <;> rfl
  · unfold maxLen; omega
  · omega
  · intro v' w' g2 g3 _
    refine h v' w' ?_ (own_below hown g3 hn (Nat.le_refl _)) fun t ht => KeepT.grown hown g3 (Ne.symm ht)
    unfold OwnsP
    rw [List.length_append, pairCells_app]
    exact g2
/-- A fair that is being laid: its box, and its three rows, which grow by turns. -/
structure EIn (w : World) (nb : Int) (Ap : Option Addr) (cp : Nat) (Ab : Option Addr) (cb : Nat) (Aq : Option Addr) (cq : Nat) (lp : List (Int × Int)) (lb lk : List Int) (W : World) : Prop where
  r : W.heap[w.heap.size]? = some (.cells #[.slice none 0 0, .int .i64 0, .slice none 0 0, .slice none 0 0, .slice none 0 0, .int .i64 0, .int .i64 0, .slice none 0 0] 41)
  x : W.heap[w.heap.size + 2]? = some (.cells #[.slice (some ⟨w.heap.size + 1, 0, none⟩) 1 1, .int .i64 0, .slice Ap lp.length cp, .slice Ab lb.length cb, .slice Aq lk.length cq, .int .i64 0, .int .i64 nb, .slice none 0 0] 41)
  ks : OwnsP W 66 w.heap.size (.slice (some ⟨w.heap.size + 1, 0, none⟩) 1 1) [(0, 0)]
  ps : OwnsP W 68 w.heap.size (.slice Ap lp.length cp) lp
  bs : Ints W w.heap.size (.slice Ab lb.length cb) lb
  pk : Ints W w.heap.size (.slice Aq lk.length cq) lk
  ne : ∀ g, (Value.slice Ab lb.length cb).ownBlock = some g → (Value.slice Aq lk.length cq).ownBlock ≠ some g
  B : Below w.heap.size w W
theorem ints_blk {W : World} {base : Nat} {v : Value} {l : List Int} (h : Ints W base v l) : ∀ g, v.ownBlock = some g → g < W.heap.size := fun g e => by
  rcases h.2 with ⟨rfl, _⟩ | ⟨g', cap, cur, rfl, _, hg, _⟩
  · simp [Value.ownBlock] at e
  · obtain rfl : g' = g := by simpa [Value.ownBlock] using e
    exact heap_lt hg
theorem EIn.alloc {w W : World} {nb : Int} {Ap : Option Addr} {cp : Nat} {Ab : Option Addr} {cb : Nat} {Aq : Option Addr} {cq : Nat} {lp : List (Int × Int)} {lb lk : List Int} (M : EIn w nb Ap cp Ab cb Aq cq lp lb lk W) (o : Obj) : EIn w nb Ap cp Ab cb Aq cq lp lb lk (W.alloc o) :=
  have k := fun t => KeepT.below (t := t) (al_below W o)
  ⟨heap_keep M.r, heap_keep M.x, M.ks.keepT (k _), M.ps.keepT (k _), M.bs.keepT (k _), M.pk.keepT (k _), M.ne, hb0to M.B (al_below W o)⟩
theorem EIn.drew {w W : World} {nb : Int} {Ap : Option Addr} {cp : Nat} {Ab : Option Addr} {cb : Nat} {Aq : Option Addr} {cq : Nat} {lp : List (Int × Int)} {lb lk : List Int} (M : EIn w nb Ap cp Ab cb Aq cq lp lb lk W) : EIn w nb Ap cp Ab cb Aq cq lp lb lk W.drew := ⟨M.r, M.x, M.ks, M.ps, M.bs, M.pk, M.ne, M.B.drew⟩
theorem EIn.new (w : World) (nb : Int) : EIn w nb none 0 none 0 none 0 [] [] [] (((w.alloc (.cells #[.slice none 0 0, .int .i64 0, .slice none 0 0, .slice none 0 0, .slice none 0 0, .int .i64 0, .int .i64 0, .slice none 0 0] 41)).alloc (.cells #[.int .i64 0, .int .i64 0] 66)).alloc (.cells #[.slice (some ⟨w.heap.size + 1, 0, none⟩) 1 1, .int .i64 0, .slice none 0 0, .slice none 0 0, .slice none 0 0, .int .i64 0, .int .i64 nb, .slice none 0 0] 41)) where
  r := heap_keep (heap_keep (heap_new1 _ _))
  x := by
    have := heap_new1 ((w.alloc (.cells #[.slice none 0 0, .int .i64 0, .slice none 0 0, .slice none 0 0, .slice none 0 0, .int .i64 0, .int .i64 0, .slice none 0 0] 41)).alloc (.cells #[.int .i64 0, .int .i64 0] 66)) (.cells #[.slice (some ⟨w.heap.size + 1, 0, none⟩) 1 1, .int .i64 0, .slice none 0 0, .slice none 0 0, .slice none 0 0, .int .i64 0, .int .i64 nb, .slice none 0 0] 41)
    simpa using this
  ks := by
    refine ⟨rfl, .inr ⟨w.heap.size + 1, 1, #[.int .i64 0, .int .i64 0], rfl, by omega, ?_, by simp, by unfold maxLen; omega, by simp, by simp [pairCells]⟩⟩
    have := heap_keep (o' := (.cells #[.slice (some ⟨w.heap.size + 1, 0, none⟩) 1 1, .int .i64 0, .slice none 0 0, .slice none 0 0, .slice none 0 0, .int .i64 0, .int .i64 nb, .slice none 0 0] 41)) (heap_new1 (w.alloc (.cells #[.slice none 0 0, .int .i64 0, .slice none 0 0, .slice none 0 0, .slice none 0 0, .int .i64 0, .int .i64 0, .slice none 0 0] 41)) (.cells #[.int .i64 0, .int .i64 0] 66))
    simpa using this
  ps := World.ownsRow_nil _ _ 68 2
  bs := ints_nil _ _
  pk := ints_nil _ _
  ne := fun g e => by simp [Value.ownBlock] at e
  B := hb0to (hb0to (al_below _ _) (al_below _ _)) (al_below _ _)
/-- One more barrel. -/
theorem EIn.addB {w W : World} {nb : Int} {Ap : Option Addr} {cp : Nat} {Ab : Option Addr} {cb : Nat} {Aq : Option Addr} {cq : Nat} {lp : List (Int × Int)} {lb lk : List Int} {w1 : World} {v' : Value} {y : Int} (M : EIn w nb Ap cp Ab cb Aq cq lp lb lk W) (h1 : Ints w1 w.heap.size v' (lb ++ [y])) (hb : Below w.heap.size W w1) (hg : W.grownBy w1 (Value.slice Ab lb.length cb).ownBlock) (hw : ∀ g, v'.ownBlock = some g → (Value.slice Ab lb.length cb).ownBlock = some g ∨ W.heap.size ≤ g) :
    w1.heap[w.heap.size + 2]? = some (.cells #[.slice (some ⟨w.heap.size + 1, 0, none⟩) 1 1, .int .i64 0, .slice Ap lp.length cp, .slice Ab lb.length cb, .slice Aq lk.length cq, .int .i64 0, .int .i64 nb, .slice none 0 0] 41) ∧ ∃ A' c', v' = .slice A' (lb.length + 1) c' ∧ EIn w nb Ap cp A' c' Aq cq lp (lb ++ [y]) lk (w1.setCell ⟨w.heap.size + 2, 3, none⟩ (.slice A' (lb.length + 1) c')) := by
  have hk : ∀ t, t ≠ 3 → KeepT t W w1 := fun t ht => KeepT.grown M.bs hg (Ne.symm ht)
  have hx := hk 41 (by decide) _ _ M.x
  have hs : ∀ t (u : Value), t ≠ 41 → KeepT t w1 (w1.setCell ⟨w.heap.size + 2, 3, none⟩ u) := fun t u ht => KeepT.set hx (Ne.symm ht)
  obtain ⟨A', c', rfl, -⟩ := h1.lay
  have e : (lb ++ [y]).length = lb.length + 1 := by simp
  rw [e] at h1 hw ⊢
  refine ⟨hx, A', c', rfl, ?_, ?_, ?_, ?_, ?_, ?_, ?_, ?_⟩
  · exact (set_other_heap (heap_lt (hk 41 (by decide) _ _ M.r)) (by omega)).trans (hk 41 (by decide) _ _ M.r)
  · rw [heap_set (o := 3) _ hx, e]
    rfl
  · exact (M.ks.keepT (hk _ (by decide))).keepT (hs _ _ (by decide))
  · exact (M.ps.keepT (hk _ (by decide))).keepT (hs _ _ (by decide))
  · rw [e]; exact h1.keepT (hs _ _ (by decide))
  · exact (M.pk.keepG hg (fun g eg eb => M.ne g eb eg)).keepT (hs _ _ (by decide))
  · intro g hg' hp
    rw [e] at hg'
    rcases hw g hg' with h | h
    · exact M.ne g h hp
    · have := ints_blk M.pk g hp
      omega
  · exact (M.B.trans hb).setCell (p := ⟨w.heap.size + 2, 3, none⟩) (by show w.heap.size ≤ w.heap.size + 2; omega) _
/-- One more barrel is in the packing. -/
theorem EIn.addK {w W : World} {nb : Int} {Ap : Option Addr} {cp : Nat} {Ab : Option Addr} {cb : Nat} {Aq : Option Addr} {cq : Nat} {lp : List (Int × Int)} {lb lk : List Int} {w1 : World} {v' : Value} {y : Int} (M : EIn w nb Ap cp Ab cb Aq cq lp lb lk W) (h1 : Ints w1 w.heap.size v' (lk ++ [y])) (hb : Below w.heap.size W w1) (hg : W.grownBy w1 (Value.slice Aq lk.length cq).ownBlock) (hw : ∀ g, v'.ownBlock = some g → (Value.slice Aq lk.length cq).ownBlock = some g ∨ W.heap.size ≤ g) :
    w1.heap[w.heap.size + 2]? = some (.cells #[.slice (some ⟨w.heap.size + 1, 0, none⟩) 1 1, .int .i64 0, .slice Ap lp.length cp, .slice Ab lb.length cb, .slice Aq lk.length cq, .int .i64 0, .int .i64 nb, .slice none 0 0] 41) ∧ ∃ A' c', v' = .slice A' (lk.length + 1) c' ∧ EIn w nb Ap cp Ab cb A' c' lp lb (lk ++ [y]) (w1.setCell ⟨w.heap.size + 2, 4, none⟩ (.slice A' (lk.length + 1) c')) := by
  have hk : ∀ t, t ≠ 3 → KeepT t W w1 := fun t ht => KeepT.grown M.pk hg (Ne.symm ht)
  have hx := hk 41 (by decide) _ _ M.x
  have hs : ∀ t (u : Value), t ≠ 41 → KeepT t w1 (w1.setCell ⟨w.heap.size + 2, 4, none⟩ u) := fun t u ht => KeepT.set hx (Ne.symm ht)
  obtain ⟨A', c', rfl, -⟩ := h1.lay
  have e : (lk ++ [y]).length = lk.length + 1 := by simp
  rw [e] at h1 hw ⊢
  refine ⟨hx, A', c', rfl, ?_, ?_, ?_, ?_, ?_, ?_, ?_, ?_⟩
  · exact (set_other_heap (heap_lt (hk 41 (by decide) _ _ M.r)) (by omega)).trans (hk 41 (by decide) _ _ M.r)
  · rw [heap_set (o := 4) _ hx, e]
    rfl
  · exact (M.ks.keepT (hk _ (by decide))).keepT (hs _ _ (by decide))
  · exact (M.ps.keepT (hk _ (by decide))).keepT (hs _ _ (by decide))
  · exact (M.bs.keepG hg (fun g eg eb => M.ne g eg eb)).keepT (hs _ _ (by decide))
  · rw [e]; exact h1.keepT (hs _ _ (by decide))
  · intro g hg' hp
    rw [e] at hp
    rcases hw g hp with h | h
    · exact M.ne g hg' h
    · have := ints_blk M.bs g hg'
      omega
  · exact (M.B.trans hb).setCell (p := ⟨w.heap.size + 2, 4, none⟩) (by show w.heap.size ≤ w.heap.size + 2; omega) _
/-- One more part. -/
theorem EIn.addP {w W : World} {nb : Int} {Ap : Option Addr} {cp : Nat} {Ab : Option Addr} {cb : Nat} {Aq : Option Addr} {cq : Nat} {lp : List (Int × Int)} {lb lk : List Int} {w1 : World} {v' : Value} {y : Int × Int} (M : EIn w nb Ap cp Ab cb Aq cq lp lb lk W) (h1 : OwnsP w1 68 w.heap.size v' (lp ++ [y])) (hb : Below w.heap.size W w1) (hk : ∀ t, t ≠ 68 → KeepT t W w1) :
    w1.heap[w.heap.size + 2]? = some (.cells #[.slice (some ⟨w.heap.size + 1, 0, none⟩) 1 1, .int .i64 0, .slice Ap lp.length cp, .slice Ab lb.length cb, .slice Aq lk.length cq, .int .i64 0, .int .i64 nb, .slice none 0 0] 41) ∧ ∃ A' c', v' = .slice A' (lp.length + 1) c' ∧ EIn w nb A' c' Ab cb Aq cq (lp ++ [y]) lb lk (w1.setCell ⟨w.heap.size + 2, 2, none⟩ (.slice A' (lp.length + 1) c')) := by
  have hx := hk 41 (by decide) _ _ M.x
  have hs : ∀ t (u : Value), t ≠ 41 → KeepT t w1 (w1.setCell ⟨w.heap.size + 2, 2, none⟩ u) := fun t u ht => KeepT.set hx (Ne.symm ht)
  obtain ⟨A', c', rfl, -⟩ := h1.lay
  have e : (lp ++ [y]).length = lp.length + 1 := by simp
  rw [e] at h1 ⊢
  refine ⟨hx, A', c', rfl, ?_, ?_, ?_, ?_, ?_, ?_, M.ne, ?_⟩
  · exact (set_other_heap (heap_lt (hk 41 (by decide) _ _ M.r)) (by omega)).trans (hk 41 (by decide) _ _ M.r)
  · rw [heap_set (o := 2) _ hx, e]
    rfl
  · exact (M.ks.keepT (hk _ (by decide))).keepT (hs _ _ (by decide))
  · rw [e]; exact h1.keepT (hs _ _ (by decide))
  · exact (M.bs.keepT (hk _ (by decide))).keepT (hs _ _ (by decide))
  · exact (M.pk.keepT (hk _ (by decide))).keepT (hs _ _ (by decide))
  · exact (M.B.trans hb).setCell (p := ⟨w.heap.size + 2, 2, none⟩) (by show w.heap.size ≤ w.heap.size + 2; omega) _

end Go.Proofs.YtmbcpmnigggbaabGreat
namespace Go.Proofs.YtmbcpmnigggbaabGreat
open Go.RowKit
/-- A fair with so many barrels, each with one part, and so many buyers, and no bids yet. -/
def emptyF (P : Nat) (nb : Int) : Fair := ⟨⟨[(0, 0)], 0, List.replicate P (0, 0), List.replicate P 0⟩, intsN (List.range P), 0, nb, []⟩
set_option maxRecDepth 100000 in
set_option maxHeartbeats 4000000 in
theorem emptyFair_any (P : Nat) (hP : P ≤ 900) (nb : Int) (w : World) :
    Calls Tryz.prog 9 #[.int .i64 P, .int .i64 nb] w fun e w' => (∃ L A c, e = .returned (FL.enc ⟨L, A, c, none, 0⟩ (emptyF P nb)) ∧ CopF w' w.heap.size ⟨L, A, c, none, 0⟩ (emptyF P nb)) ∧ Below w.heap.size w w' := by
  have M0 := Lib.hid (EIn.new w nb)
  go_enter Tryz.func9, Tryz.ntmps9
  go_wp2
  go_loopw [6] (fun i wr => ∃ (k : Nat) (Ap : Option Addr) (cp : Nat) (Ab : Option Addr) (cb : Nat) (Aq : Option Addr) (cq : Nat), k ≤ P ∧ i = .int .i64 k ∧ Hid (EIn w nb Ap cp Ab cb Aq cq (List.replicate k (0, 0)) (List.replicate k 0) (intsN (List.range k)) wr)) (fun i _ => P - (intOf i).toNat)
  case atStart => exact ⟨0, none, 0, none, 0, none, 0, Nat.zero_le _, rfl, M0⟩
  case round =>
    obtain ⟨k, Ap, cp, Ab, cb, Aq, cq, hk, rfl, M⟩ := hrel
    have hx := M.out.x
    simp only [List.length_replicate, intsN_len, List.length_range] at hx
    have c0 : wr.cell? ⟨w.heap.size + 2, 0, none⟩ = some (.slice (some ⟨w.heap.size + 1, 0, none⟩) 1 1) := cell_of_heap (o := 0) hx rfl
    have c1 : wr.cell? ⟨w.heap.size + 2, 1, none⟩ = some (.int .i64 0) := cell_of_heap (o := 1) hx rfl
    have c2 : wr.cell? ⟨w.heap.size + 2, 2, none⟩ = some (.slice Ap k cp) := cell_of_heap (o := 2) hx rfl
    have c3 : wr.cell? ⟨w.heap.size + 2, 3, none⟩ = some (.slice Ab k cb) := cell_of_heap (o := 3) hx rfl
    have c4 : wr.cell? ⟨w.heap.size + 2, 4, none⟩ = some (.slice Aq k cq) := cell_of_heap (o := 4) hx rfl
    have c5 : wr.cell? ⟨w.heap.size + 2, 5, none⟩ = some (.int .i64 0) := cell_of_heap (o := 5) hx rfl
    have c6 : wr.cell? ⟨w.heap.size + 2, 6, none⟩ = some (.int .i64 nb) := cell_of_heap (o := 6) hx rfl
    have c7 : wr.cell? ⟨w.heap.size + 2, 7, none⟩ = some (.slice none 0 0) := cell_of_heap (o := 7) hx rfl
    have cf := frozen_of_heap hx
    by_cases hlt : k < P
    · clear hx
      have HB0 := Lib.hid (show Ints (wr.alloc (.cells #[.int .i64 0] 3)) w.heap.size (.slice Ab k cb) (List.replicate k 0) by
        have h := (M.out.alloc (.cells #[.int .i64 0] 3)).bs
        rwa [List.length_replicate] at h)
      go_upto_region 6 with (refine wpl_appD (by rfl) _ _ (by rfl) w.heap.size w.heap.size _ (List.replicate k 0) 0 (by rfl) HB0.out ⟨wr.heap.size, 0, none⟩ 1 (by rfl) (by simp [go_sem]) (by simp; omega) (by have := M.out.B.size; simp; omega) (Nat.le_refl _) ?_; intro v1 w1 h1 hb hg hw; obtain ⟨hx1, A1, d1, e1, M1⟩ := (M.out.alloc (.cells #[.int .i64 0] 3)).addB h1 hb (by rw [List.length_replicate]; exact hg) (by rw [List.length_replicate]; exact hw); simp only [List.length_replicate, intsN_len, List.length_range] at e1 M1 hx1; subst e1; have HM := Lib.hid M1; have g3 := cell_of_heap (o := 3) hx1 rfl; have gf := frozen_of_heap hx1; clear h1 hb hg hw M1 hx1)
      obtain ⟨W2, hW2⟩ : ∃ x, w1.setCell ⟨w.heap.size + 2, 3, none⟩ (.slice A1 (k + 1) d1) = x := ⟨_, rfl⟩
      have M2 := HM.out
      rw [hW2] at M2 ⊢
      have HM2 := Lib.hid M2
      have hx := M2.x
      simp only [List.length_replicate, intsN_len, List.length_range] at hx
      simp only [List.length_append, List.length_replicate, List.length_singleton] at hx
      clear c0 c1 c2 c3 c4 c5 c6 c7 cf g3 gf M2 HM HB0 hW2
      have c0 : W2.cell? ⟨w.heap.size + 2, 0, none⟩ = some (.slice (some ⟨w.heap.size + 1, 0, none⟩) 1 1) := cell_of_heap (o := 0) hx rfl
      have c1 : W2.cell? ⟨w.heap.size + 2, 1, none⟩ = some (.int .i64 0) := cell_of_heap (o := 1) hx rfl
      have c2 : W2.cell? ⟨w.heap.size + 2, 2, none⟩ = some (.slice Ap k cp) := cell_of_heap (o := 2) hx rfl
      have c3 : W2.cell? ⟨w.heap.size + 2, 3, none⟩ = some (.slice A1 (k + 1) d1) := cell_of_heap (o := 3) hx rfl
      have c4 : W2.cell? ⟨w.heap.size + 2, 4, none⟩ = some (.slice Aq k cq) := cell_of_heap (o := 4) hx rfl
      have c5 : W2.cell? ⟨w.heap.size + 2, 5, none⟩ = some (.int .i64 0) := cell_of_heap (o := 5) hx rfl
      have c6 : W2.cell? ⟨w.heap.size + 2, 6, none⟩ = some (.int .i64 nb) := cell_of_heap (o := 6) hx rfl
      have c7 : W2.cell? ⟨w.heap.size + 2, 7, none⟩ = some (.slice none 0 0) := cell_of_heap (o := 7) hx rfl
      have cf := frozen_of_heap hx
      have HP0 := Lib.hid (show OwnsP (W2.alloc (.cells #[.int .i64 0, .int .i64 0] 68)) 68 w.heap.size (.slice Ap k cp) (List.replicate k (0, 0)) by
        have h := (HM2.out.alloc (.cells #[.int .i64 0, .int .i64 0] 68)).ps
        rwa [List.length_replicate] at h)
      clear hx
      go_upto_region 7 with (refine wpl_appP (by rfl) _ _ (by rfl) w.heap.size _ (List.replicate k (0, 0)) (0, 0) (by rfl) HP0.out W2.heap.size 1 (by rfl) (by simp [go_sem]) (by simp [go_sem]) (by simp; omega) (by have := HM2.out.B.size; simp; omega) ?_; intro v1 w3 h1 hb hk; obtain ⟨hx1, A2, d2, e1, M1⟩ := (HM2.out.alloc (.cells #[.int .i64 0, .int .i64 0] 68)).addP h1 hb hk; simp only [List.length_replicate, intsN_len, List.length_range] at e1 M1 hx1; subst e1; have HM3 := Lib.hid M1; have g3 := cell_of_heap (o := 2) hx1 rfl; have gf := frozen_of_heap hx1; clear h1 hb hk M1 hx1)
      obtain ⟨W4, hW4⟩ : ∃ x, w3.setCell ⟨w.heap.size + 2, 2, none⟩ (.slice A2 (k + 1) d2) = x := ⟨_, rfl⟩
      have M4 := HM3.out
      rw [hW4] at M4 ⊢
      have HM4 := Lib.hid M4
      have hx := M4.x
      simp only [List.length_append, List.length_replicate, List.length_singleton, intsN_len, List.length_range] at hx
      clear c0 c1 c2 c3 c4 c5 c6 c7 cf g3 gf M4 HM3 HP0 hW4
      have c0 : W4.cell? ⟨w.heap.size + 2, 0, none⟩ = some (.slice (some ⟨w.heap.size + 1, 0, none⟩) 1 1) := cell_of_heap (o := 0) hx rfl
      have c1 : W4.cell? ⟨w.heap.size + 2, 1, none⟩ = some (.int .i64 0) := cell_of_heap (o := 1) hx rfl
      have c2 : W4.cell? ⟨w.heap.size + 2, 2, none⟩ = some (.slice A2 (k + 1) d2) := cell_of_heap (o := 2) hx rfl
      have c3 : W4.cell? ⟨w.heap.size + 2, 3, none⟩ = some (.slice A1 (k + 1) d1) := cell_of_heap (o := 3) hx rfl
      have c4 : W4.cell? ⟨w.heap.size + 2, 4, none⟩ = some (.slice Aq k cq) := cell_of_heap (o := 4) hx rfl
      have c5 : W4.cell? ⟨w.heap.size + 2, 5, none⟩ = some (.int .i64 0) := cell_of_heap (o := 5) hx rfl
      have c6 : W4.cell? ⟨w.heap.size + 2, 6, none⟩ = some (.int .i64 nb) := cell_of_heap (o := 6) hx rfl
      have c7 : W4.cell? ⟨w.heap.size + 2, 7, none⟩ = some (.slice none 0 0) := cell_of_heap (o := 7) hx rfl
      have cf := frozen_of_heap hx
      have HK0 := Lib.hid (show Ints (W4.alloc (.cells #[.int .i64 (k : Int)] 3)) w.heap.size (.slice Aq k cq) (intsN (List.range k)) by
        have h := (HM4.out.alloc (.cells #[.int .i64 (k : Int)] 3)).pk
        rwa [intsN_len, List.length_range] at h)
      clear hx
      go_wp2_with (refine wpl_appD (by rfl) _ _ (by rfl) w.heap.size w.heap.size _ (intsN (List.range k)) (k : Int) (by rfl) HK0.out ⟨W4.heap.size, 0, none⟩ 1 (by rfl) (by simp [go_sem]) (by rw [intsN_len, List.length_range]; omega) (by have := HM4.out.B.size; simp; omega) (Nat.le_refl _) ?_; intro v1 w5 h1 hb hg hw; obtain ⟨hx1, A3, d3, e1, M1⟩ := (HM4.out.alloc (.cells #[.int .i64 (k : Int)] 3)).addK h1 hb (by rw [intsN_len, List.length_range]; exact hg) (by rw [intsN_len, List.length_range]; exact hw); simp only [List.length_replicate, intsN_len, List.length_range] at e1 M1 hx1; subst e1; have HM5 := Lib.hid M1; have g3 := cell_of_heap (o := 4) hx1 rfl; have gf := frozen_of_heap hx1; clear h1 hb hg hw M1 hx1)
      go_roundw
      case rel =>
        refine ⟨k + 1, A2, d2, A1, d1, A3, d3, by omega, by go_num, Lib.hid ?_⟩
        have h := HM5.out
        rw [show List.replicate k (0 : Int) ++ [0] = List.replicate (k + 1) 0 from List.replicate_succ'.symm, show List.replicate k ((0 : Int), (0 : Int)) ++ [(0, 0)] = List.replicate (k + 1) (0, 0) from List.replicate_succ'.symm, show intsN (List.range k) ++ [(k : Int)] = intsN (List.range (k + 1)) by simp [intsN, List.range_succ]] at h
        exact h
      case measure => simp [intOf]; omega
    · obtain rfl : k = P := by omega
      have hr := M.out.r
      have hs1 := M.out.B.size
      have r0 := cell_of_heap (o := 0) hr rfl
      have r1 := cell_of_heap (o := 1) hr rfl
      have r2 := cell_of_heap (o := 2) hr rfl
      have r3 := cell_of_heap (o := 3) hr rfl
      have r4 := cell_of_heap (o := 4) hr rfl
      have r5 := cell_of_heap (o := 5) hr rfl
      have r6 := cell_of_heap (o := 6) hr rfl
      have r7 := cell_of_heap (o := 7) hr rfl
      have rf := frozen_of_heap hr
      have HRr := Lib.hid hr
      clear hr hx
      go_wp2
      have e := set8_heap HRr.out (.slice (some ⟨w.heap.size + 1, 0, none⟩) 1 1) (.int .i64 0) (.slice Ap k cp) (.slice Ab k cb) (.slice Aq k cq) (.int .i64 0) (.int .i64 nb) (.slice none 0 0)
      have hl : (emptyF k nb).h.ps.length = k := by simp [emptyF]
      have hl2 : (emptyF k nb).h.bs.length = k := by simp [emptyF]
      have hl3 : (emptyF k nb).pk.length = k := by simp [emptyF, intsN_len]
      refine bodyPost_ret (results_cell rfl rfl (load29 (cell_of_heap (o := 0) e rfl) (cell_of_heap (o := 1) e rfl) (cell_of_heap (o := 2) e rfl) (cell_of_heap (o := 3) e rfl) (cell_of_heap (o := 4) e rfl) (cell_of_heap (o := 5) e rfl) (cell_of_heap (o := 6) e rfl) (cell_of_heap (o := 7) e rfl))) rfl ⟨⟨⟨some ⟨w.heap.size + 1, 0, none⟩, 1, Ap, cp, Ab, cb⟩, Aq, cq, ?_, ?_⟩, ?_⟩
      · unfold FL.enc
        simp only [hl, hl2, hl3]
        rfl
      · have k1 : ∀ t, t ≠ 41 → KeepT t wr _ := fun t ht => keepT_set8 HRr.out (Ne.symm ht) (.slice (some ⟨w.heap.size + 1, 0, none⟩) 1 1) (.int .i64 0) (.slice Ap k cp) (.slice Ab k cb) (.slice Aq k cq) (.int .i64 0) (.int .i64 nb) (.slice none 0 0)
        exact ⟨⟨M.out.ks.keepT (k1 _ (by decide)), M.out.ps.keepT (k1 _ (by decide)), M.out.bs.keepT (k1 _ (by decide))⟩, M.out.pk.keepT (k1 _ (by decide))⟩
      · exact below_set8 M.out.B (Nat.le_refl _) _ _ _ _ _ _ _ _

end Go.Proofs.YtmbcpmnigggbaabGreat
namespace Go.Proofs.YtmbcpmnigggbaabGreat
open Go.RowKit

/-- What is known: a map of the call's own, from what is ready to what the best sales bring. -/
def KnownM (W : World) (b n : Nat) (g : Nat → Int) : Prop :=
  ∃ D : DataW Unit, W.ownsMap Tryz.prog 87 (plainElem Tryz.prog 3) b n D ∧ Maps.IsMap D ∧ ∀ u : Nat, u < 16 → Maps.has D (.int .i64 (u : Int)) = true → D.atKey (.int .i64 (u : Int)) (.lit (.int .i64 0)) = .lit (.int .i64 (g u))
theorem KnownM.grown {W W' : World} {b n : Nat} {g : Nat → Int} {row : Option Nat} (h : KnownM W b n g) (hg : W.grownBy W' row) (hr : some b ≠ row) : KnownM W' b n g := by
  obtain ⟨D, h1, h2, h3⟩ := h
  exact ⟨D, h1.kept hg hr, h2, h3⟩
theorem KnownM.lt {W : World} {b n : Nat} {g : Nat → Int} (h : KnownM W b n g) : b < W.heap.size := by obtain ⟨D, h1, _⟩ := h; exact h1.lt
theorem KnownM.below {W W' : World} {b n : Nat} {g : Nat → Int} (h : KnownM W b n g) (hb : Below W.heap.size W W') : KnownM W' b n g :=
  h.grown (row := none) ⟨hb.os, hb.tape, hb.output, hb.size, fun i hi _ => hb.block i hi⟩ (by simp)
theorem KnownM.set {W : World} {b n k : Nat} {g : Nat → Int} (h : KnownM W b n g) (hne : b ≠ k) (o : Nat) (v : Value) : KnownM (W.setCell ⟨k, o, none⟩ v) b n g := by
  obtain ⟨D, h1, h2, h3⟩ := h
  exact ⟨D, h1.setCell hne v, h2, h3⟩
theorem OBox.notMap {W : World} {b : Nat} {F : FL} {f : Fair} {v : Value} {u mb : Nat} (h : OBox W b F f v u) (hm : ∃ es ck, W.heap[mb]? = some (.map es ck)) : b ≠ mb := fun e => by
  obtain ⟨es, ck, hm⟩ := hm
  subst e
  rw [show W.heap[b]? = _ from h] at hm
  cases hm
theorem LotsAt.kept {W W' : World} {B B' : Nat} {A : Option Addr} {q : List Bid} (h : LotsAt W B A q) (hB : B ≤ B') (hk : ∀ g o v, A = some g → W.cell? ⟨g.block, o, none⟩ = some v → W'.cell? ⟨g.block, o, none⟩ = some v) : LotsAt W' B' A q := by
  rcases h with h | ⟨b, off, e, hb, h⟩
  · exact .inl h
  · refine .inr ⟨b, off, e, by omega, fun i x hx => ?_⟩
    obtain ⟨m, hm, h1, h2, h3⟩ := h i x hx
    exact ⟨m, hm, hk _ _ _ e h1, hk _ _ _ e h2, hk _ _ _ e h3⟩
/-- What is ready is written anew. -/
theorem OpenAt.set {W : World} {b : Nat} {F : FL} {f : Fair} {rd rd' : List Int} (h : OpenAt W b F f rd) {u : Nat} (hu : MaskOf rd' u) : OpenAt (W.setCell ⟨b, 9, none⟩ (.int .i64 (u : Int))) b F f rd' := by
  obtain ⟨A, c, u0, h1, h2, h3⟩ := h.ex
  have hz : (W.setCell ⟨b, 9, none⟩ (.int .i64 (u : Int))).heap.size = W.heap.size := by simp [World.setCell]
  have hne := h.ne A c u0 h1
  refine ⟨⟨A, c, u, h1.set9 u, h2.kept (Nat.le_of_eq hz.symm) fun g o v e hc => ?_, hu⟩, fun A' c' u' hO g e => ?_⟩
  · rw [World.cell?_of_block (set_other_heap (cell_lt hc) (hne g e))]; exact hc
  · have e2 := (h1.set9 u).uniq hO
    cases e2
    exact hne g e
theorem OpenAt.grown {W W' : World} {b mb : Nat} {F : FL} {f : Fair} {rd : List Int} (h : OpenAt W b F f rd) (hg : W.grownBy W' (some mb)) (hm : ∃ es ck, W.heap[mb]? = some (.map es ck)) : OpenAt W' b F f rd := by
  obtain ⟨A, c, u0, h1, h2, h3⟩ := h.ex
  have hb := h1.notMap hm
  have hO : W'.heap[b]? = W.heap[b]? := hg.block b h1.lt (fun e => hb (Option.some.inj e))
  refine ⟨⟨A, c, u0, h1.of hO, h2.kept hg.size fun g o v e hc => ?_, h3⟩, fun A' c' u' hO' => h.ne A' c' u' (hO'.of hO.symm)⟩
  have hgm : g.block ≠ mb := fun e2 => by
    obtain ⟨es, ck, hm⟩ := hm
    rw [← e2] at hm
    unfold World.cell? at hc
    simp only [hm] at hc
    cases hc
  exact (World.cell?_of_block (a := ⟨g.block, o, none⟩) (hg.block g.block (cell_lt (a := ⟨g.block, o, none⟩) hc) (fun e => hgm (Option.some.inj e)))).trans hc
section
variable {w : World} {ops : Array Oper} {rest : List Oper} {o : Oper} {a : Act} {Q : Exit → Act → World → Prop}
end
open Go.RowKit

end Go.Proofs.YtmbcpmnigggbaabGreat
