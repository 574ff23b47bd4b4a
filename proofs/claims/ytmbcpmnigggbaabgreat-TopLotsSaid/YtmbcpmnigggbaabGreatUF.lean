import Derived.Laws.AppendOwn
import Derived.Laws.AppendOwnNone
import Derived.Maps.AppendAt
import Derived.OwnWalk
import Derived.Test.YtmbcpmnigggbaabGreatSG
import Derived.Deep.RegionHeld3
import Derived.IntWalk
import Derived.Deep.DeepCutAuto
namespace Go.Proofs.YtmbcpmnigggbaabGreat
open Go.RowKit
/-! Appending: numbers, pairs of numbers, and lists of numbers, in memory of the call's own. -/
theorem own_below {W W' : World} {base e size : Nat} {v : Value} {n : Nat} {xs : List Value} {n₀ : Nat} (h : W.ownsRow base e size v n xs) (hg : W.grownBy W' v.ownBlock) (hn : n₀ ≤ W.heap.size) (hb : n₀ ≤ base) : Below n₀ W W' := by
  refine (Below.refl n₀ W).grown hg hn fun j ej => ?_
  rcases h.2 with ⟨rfl, _⟩ | ⟨g, cap, cur, rfl, hb2, _, _⟩
  · simp [Value.ownBlock] at ej
  · obtain rfl : g = j := by simpa [Value.ownBlock] using ej
    omega
theorem info3' : (Tryz.prog.info? 3).map (fun i => (i.zero, i.size, i.bytes)) = some (some (.int .i64 0), 1, 8) := by kernel_rfl
/-- The slice v owns the numbers l, in a row of its own (from base on). -/
def Ints (W : World) (base : Nat) (v : Value) (l : List Int) : Prop := W.ownsRow base 3 1 v l.length (l.map (Value.int .i64))
theorem ints_nil (W : World) (base : Nat) : Ints W base (.slice none 0 0) [] := World.ownsRow_nil W base 3 1
theorem ints_made (w : World) (n₀ : Nat) (hn : n₀ ≤ w.heap.size) : Ints (w.alloc (.cells #[] 3)) n₀ (.slice (some ⟨w.heap.size, 0, none⟩) 0 0) [] :=
  World.ownsRow_made w #[] 0 hn (by unfold maxLen; omega) rfl
/-- What a slice of numbers reads as: with its block. -/
def IntsIn (W : World) (lo hi : Nat) (A : Option Addr) (l : List Int) : Prop :=
  l = [] ∨ ∃ b off, A = some ⟨b, off, none⟩ ∧ lo ≤ b ∧ b < hi ∧ ∀ i x, l[i]? = some x → W.cell? ⟨b, off + i, none⟩ = some (.int .i64 x)
theorem IntsIn.at_ {W : World} {lo hi : Nat} {A : Option Addr} {l : List Int} (h : IntsIn W lo hi A l) : IntsAt W hi A l := by
  rcases h with h | ⟨b, off, h1, _, h2, h3⟩
  · exact .inl h
  · exact .inr ⟨b, off, h1, h2, h3⟩
theorem IntsIn.keep {W W' : World} {lo hi lo' hi' : Nat} {A : Option Addr} {l : List Int} (h : IntsIn W lo hi A l) (h1 : lo' ≤ lo) (h2 : hi ≤ hi') (hk : ∀ b o, lo ≤ b → b < hi → W'.cell? ⟨b, o, none⟩ = W.cell? ⟨b, o, none⟩) : IntsIn W' lo' hi' A l := by
  rcases h with h | ⟨b, off, e, h3, h4, h5⟩
  · exact .inl h
  · exact .inr ⟨b, off, e, by omega, by omega, fun i x hx => by rw [hk _ _ h3 h4]; exact h5 i x hx⟩
theorem IntsIn.below {W W' : World} {lo hi n : Nat} {A : Option Addr} {l : List Int} (h : IntsIn W lo hi A l) (hb : Below n W W') (hn : hi ≤ n) : IntsIn W' lo hi A l :=
  h.keep (Nat.le_refl _) (Nat.le_refl _) fun b o _ hlt => hb.cell (p := ⟨b, o, none⟩) (by show b < n; omega)
theorem Ints.lay {W : World} {base : Nat} {v : Value} {l : List Int} (h : Ints W base v l) : ∃ A c, v = .slice A l.length c ∧ (A = none → c = 0 ∧ l = []) ∧ l.length ≤ c ∧ IntsIn W base W.heap.size A l := by
  rcases h.2 with ⟨rfl, h0⟩ | ⟨g, cap, cur, rfl, hb, hg, h4, h5, h6, h7⟩
  · have : l = [] := List.length_eq_zero_iff.1 h0
    exact ⟨none, 0, by rw [h0], fun _ => ⟨rfl, this⟩, by omega, .inl this⟩
  · refine ⟨some ⟨g, 0, none⟩, cap, rfl, fun h => (by cases h), h4, .inr ⟨g, 0, rfl, hb, (Array.getElem?_eq_some_iff.1 hg).1, fun i x hx => ?_⟩⟩
    have hc := World.ownsRow.cells h (g := g) rfl i (.int .i64 x) (by rw [List.getElem?_map, hx]; rfl)
    rw [addr_add] at hc; exact hc
theorem Ints.below_ {W W' : World} {base n : Nat} {v : Value} {l : List Int} (h : Ints W base v l) (hb : Below n W W') (hn : W.heap.size ≤ n) : Ints W' base v l := by
  refine ⟨h.1, ?_⟩
  rcases h.2 with h2 | ⟨g, cap, cur, e, hb2, hg, h4⟩
  · exact .inl h2
  · exact .inr ⟨g, cap, cur, e, hb2, (hb.block g (Nat.lt_of_lt_of_le (Array.getElem?_eq_some_iff.1 hg).1 hn)).trans hg, h4⟩
theorem Ints.mono {W : World} {base base' : Nat} {v : Value} {l : List Int} (h : Ints W base v l) (hb : base' ≤ base) : Ints W base' v l := by
  refine ⟨h.1, ?_⟩
  rcases h.2 with h2 | ⟨g, cap, cur, e, hb2, hg, h4⟩
  · exact .inl h2
  · exact .inr ⟨g, cap, cur, e, by omega, hg, h4⟩
theorem Ints.alloc {W : World} {base : Nat} {v : Value} {l : List Int} (h : Ints W base v l) (o : Obj) : Ints (W.alloc o) base v l := World.ownsRow.alloc h o

/-- 'out = append(out, x)', out the call's own. -/
theorem wpl_app {ops : Array Oper} {rest : List Oper} {o : Oper} {a : Act} {w : World} {Q : Exit → Act → World → Prop} (hgd : o.guard = none) (s x : Operand)
    (ho : o.op = .call { callee := .builtin .append, args := #[s, x], argTypes := #[23, 23] }) (n₀ base : Nat) (v : Value) (l : List Int) (k : Int) (hs : a.eval s = v) (hown : Ints w base v l)
    (ad : Addr) (c : Nat) (hx : a.eval x = .slice (some ad) 1 c) (hc : w.cell? ad = some (.int .i64 k)) (hl : l.length ≤ 1000) (hbase : base ≤ w.heap.size) (hn : n₀ ≤ base)
    (h : ∀ v' w', Ints w' base v' (l ++ [k]) → Below n₀ w w' → wpList Tryz.prog ops Q rest (a.put o.dst v') w') : wpList Tryz.prog ops Q (o :: rest) a w := by
  obtain ⟨i0, hi, hz0, hz1, hz2⟩ := info_parts info3'
  refine wpList_append_own w hgd s x 23 ho base 3 i0 (.int .i64 0) 1 8 Tryz.underlying23 hi hz0 hz1 hz2 rfl (by decide) v l.length (l.map (.int .i64)) hs hown ad 1 c [.int .i64 k] hx rfl ?_ ?_ ?_ ?_ hbase ?_
  · intro j u hj
    match j, hj with
    | 0, hj => simp at hj; subst hj; simpa [Addr.add] using hc
  · intro u hu; simp at hu; subst hu; rfl
  · unfold maxLen; omega
  · omega
  · intro v' w' h2 h3 _
    refine h v' w' ?_ (own_below hown h3 (by omega) hn)
    unfold Ints
    rw [List.length_append, List.map_append]
    exact h2

theorem ints_news {w : World} {hi : Nat} {ad : Addr} {l : List Int} (hI : IntsAt w hi (some ad) l) : ∀ j u, (l.map (Value.int .i64))[j]? = some u → w.cell? (ad.add j) = some u := by
  intro j u hj
  rcases hI with rfl | ⟨b, off, e, _, hc⟩
  · simp at hj
  · cases e
    rw [List.getElem?_map] at hj
    cases hx : l[j]? with
    | none => rw [hx] at hj; simp at hj
    | some y =>
      rw [hx] at hj
      simp at hj
      subst hj
      rw [addr_add]
      exact hc j y hx
theorem ints_one (l : List Int) : ∀ u ∈ l.map (Value.int .i64), u.oneCell' = true := by
  intro u hu
  obtain ⟨y, _, rfl⟩ := List.mem_map.1 hu
  rfl
/-- 'append(out, xs...)', out the call's own. -/
theorem wpl_copyI {ops : Array Oper} {rest : List Oper} {o : Oper} {a : Act} {w : World} {Q : Exit → Act → World → Prop} (hgd : o.guard = none) (s x : Operand)
    (ho : o.op = .call { callee := .builtin .append, args := #[s, x], argTypes := #[23, 23] }) (n₀ : Nat) (v : Value) (l0 : List Int) (hs : a.eval s = v) (hown : Ints w n₀ v l0)
    (A : Option Addr) (c : Nat) (l : List Int) (hA : A = none → c = 0 ∧ l = []) (hx : a.eval x = .slice A l.length c) (hI : IntsAt w w.heap.size A l) (hl0 : l0.length ≤ 1000) (hl : l.length ≤ 1000) (hn : n₀ ≤ w.heap.size)
    (h : ∀ v' w', Ints w' n₀ v' (l0 ++ l) → Below n₀ w w' → wpList Tryz.prog ops Q rest (a.put o.dst v') w') : wpList Tryz.prog ops Q (o :: rest) a w := by
  obtain ⟨i0, hi, hz0, hz1, hz2⟩ := info_parts info3'
  cases A with
  | none =>
    obtain ⟨rfl, rfl⟩ := hA rfl
    refine wpList_append_own_none hgd s x 23 ho n₀ 3 i0 1 Tryz.underlying23 hi v l0.length _ hs hown hx (h v w ?_ (Below.refl _ _))
    rw [List.append_nil]; exact hown
  | some ad =>
    refine wpList_append_own w hgd s x 23 ho n₀ 3 i0 (.int .i64 0) 1 8 Tryz.underlying23 hi hz0 hz1 hz2 rfl (by decide) v l0.length _ hs hown ad l.length c (l.map (.int .i64)) hx (by simp) (ints_news hI) (ints_one l) ?_ ?_ hn ?_
    · unfold maxLen; omega
    · omega
    · intro v' w' h2 h3 _
      refine h v' w' ?_ (own_below hown h3 hn (Nat.le_refl _))
      unfold Ints
      rw [List.length_append, List.map_append]
      exact h2
/-! Pairs. -/
def pairCells : List (Int × Int) → List Value
  | [] => []
  | x :: xs => .int .i64 x.1 :: .int .i64 x.2 :: pairCells xs
theorem pairCells_len : ∀ (ns : List (Int × Int)), (pairCells ns).length = ns.length * 2
  | [] => rfl
  | x :: xs => by simp only [pairCells, List.length_cons, pairCells_len xs]; omega
theorem pairCells_one : ∀ (ns : List (Int × Int)), ∀ u ∈ pairCells ns, u.oneCell' = true
  | [], _, h => by simp [pairCells] at h
  | x :: xs, u, h => by
    simp only [pairCells, List.mem_cons] at h
    rcases h with rfl | rfl | h
    · rfl
    · rfl
    · exact pairCells_one xs u h
theorem pairCells_at : ∀ (ns : List (Int × Int)) (i : Nat) (x : Int × Int), ns[i]? = some x → (pairCells ns)[i * 2]? = some (.int .i64 x.1) ∧ (pairCells ns)[i * 2 + 1]? = some (.int .i64 x.2)
  | [], i, x, h => by simp at h
  | y :: ys, 0, x, h => by
    simp at h; subst h; exact ⟨rfl, rfl⟩
  | y :: ys, i + 1, x, h => by
    have := pairCells_at ys i x (by simpa using h)
    have e : (i + 1) * 2 = i * 2 + 1 + 1 := by omega
    rw [e]
    simp only [pairCells, List.getElem?_cons_succ]
    exact this
theorem pairCells_app : ∀ (a b : List (Int × Int)), pairCells (a ++ b) = pairCells a ++ pairCells b
  | [], b => rfl
  | x :: a, b => by simp only [List.cons_append, pairCells, pairCells_app a b]
theorem pairs_news {W : World} {B : Nat} {ad : Addr} {ns : List (Int × Int)} (h : PairsAt W B (some ad) ns) : ∀ j u, (pairCells ns)[j]? = some u → W.cell? (ad.add j) = some u := by
  intro j u hj
  have hlt := (List.getElem?_eq_some_iff.1 hj).1
  rw [pairCells_len] at hlt
  have hi : j / 2 < ns.length := by omega
  obtain ⟨b', off', e, _, c1, c2⟩ := h.at_ (List.getElem?_eq_getElem hi)
  cases e
  obtain ⟨d1, d2⟩ := pairCells_at ns _ _ (List.getElem?_eq_getElem hi)
  have : j = j / 2 * 2 ∨ j = j / 2 * 2 + 1 := by omega
  rcases this with e | e
  · rw [e] at hj ⊢; rw [d1] at hj; cases hj; rw [addr_add]; exact c1
  · rw [e] at hj ⊢; rw [d2] at hj; cases hj; rw [addr_add]; exact c2
/-- The slice v owns the pairs. -/
def OwnsP (W : World) (t : TypeId) (base : Nat) (v : Value) (ns : List (Int × Int)) : Prop := W.ownsRow base t 2 v ns.length (pairCells ns)
theorem OwnsP.lay {W : World} {t : TypeId} {base : Nat} {v : Value} {ns : List (Int × Int)} (h : OwnsP W t base v ns) : ∃ A c, v = .slice A ns.length c ∧ (A = none → c = 0 ∧ ns = []) ∧ PairsAt W W.heap.size A ns := by
  rcases h.2 with ⟨rfl, h0⟩ | ⟨g, cap, cur, rfl, hb, hg, h4, h5, h6, h7⟩
  · have : ns = [] := List.length_eq_zero_iff.1 h0
    exact ⟨none, 0, by rw [h0], fun _ => ⟨rfl, this⟩, .inl this⟩
  · refine ⟨some ⟨g, 0, none⟩, cap, rfl, fun h => (by cases h), .inr ⟨g, 0, rfl, (Array.getElem?_eq_some_iff.1 hg).1, fun i x hx => ?_⟩⟩
    obtain ⟨d1, d2⟩ := pairCells_at ns i x hx
    have c1 := World.ownsRow.cells h (g := g) rfl _ _ d1
    have c2 := World.ownsRow.cells h (g := g) rfl _ _ d2
    rw [addr_add] at c1 c2
    exact ⟨c1, c2⟩
theorem OwnsP.below_ {W W' : World} {t : TypeId} {base n : Nat} {v : Value} {l : List (Int × Int)} (h : OwnsP W t base v l) (hb : Below n W W') (hn : W.heap.size ≤ n) : OwnsP W' t base v l := by
  refine ⟨h.1, ?_⟩
  rcases h.2 with h2 | ⟨g, cap, cur, e, hb2, hg, h4⟩
  · exact .inl h2
  · exact .inr ⟨g, cap, cur, e, hb2, (hb.block g (Nat.lt_of_lt_of_le (Array.getElem?_eq_some_iff.1 hg).1 hn)).trans hg, h4⟩
/-- 'append(out, xs...)', pairs. -/
theorem wpl_copyP2 {ops : Array Oper} {rest : List Oper} {o : Oper} {a : Act} {w : World} {Q : Exit → Act → World → Prop} (hgd : o.guard = none) (s x : Operand) (st et : TypeId) {it : TypeInfo}
    (hst : Tryz.prog.underlying st = some (.slice et)) (hi : Tryz.prog.info? et = some it) (hz0 : it.zero = some (.agg #[.int .i64 0, .int .i64 0])) (hz1 : it.size = 2) (hz2 : it.bytes = 16)
    (ho : o.op = .call { callee := .builtin .append, args := #[s, x], argTypes := #[st, st] }) (n₀ : Nat) (v : Value) (l0 : List (Int × Int)) (hs : a.eval s = v) (hown : OwnsP w et n₀ v l0)
    (A : Option Addr) (c : Nat) (ns : List (Int × Int)) (hA : A = none → c = 0 ∧ ns = []) (hx : a.eval x = .slice A ns.length c) (hN : PairsAt w w.heap.size A ns) (hl0 : l0.length ≤ 1000) (hl : ns.length ≤ 1000) (hn : n₀ ≤ w.heap.size)
    (h : ∀ v' w', OwnsP w' et n₀ v' (l0 ++ ns) → Below n₀ w w' → wpList Tryz.prog ops Q rest (a.put o.dst v') w') : wpList Tryz.prog ops Q (o :: rest) a w := by
  cases A with
  | none =>
    obtain ⟨rfl, rfl⟩ := hA rfl
    refine wpList_append_own_none hgd s x st ho n₀ et it 2 hst hi v l0.length _ hs hown hx (h v w ?_ (Below.refl _ _))
    rw [List.append_nil]; exact hown
  | some ad =>
    refine wpList_append_own w hgd s x st ho n₀ et it _ 2 16 hst hi hz0 hz1 hz2 rfl (by decide) v l0.length _ hs hown ad ns.length c (pairCells ns) hx (pairCells_len ns) (pairs_news hN) (pairCells_one ns) ?_ ?_ hn ?_
    · unfold maxLen; omega
    · omega
    · intro v' w' h2 h3 _
      refine h v' w' ?_ (own_below hown h3 hn (Nat.le_refl _))
      unfold OwnsP
      rw [List.length_append, pairCells_app]
      exact h2
theorem ownsP_made (w : World) (t : TypeId) (n₀ : Nat) (hn : n₀ ≤ w.heap.size) : OwnsP (w.alloc (.cells #[] t)) t n₀ (.slice (some ⟨w.heap.size, 0, none⟩) 0 0) [] :=
  World.ownsRow_made w #[] 0 hn (by unfold maxLen; omega) rfl

/-! Lists of lists. -/
/-- The slice at A holds the lists; each lies in a block from lo on. -/
def RowsIn (W : World) (lo hi : Nat) (A : Option Addr) (rs : List (List Int)) : Prop :=
  rs = [] ∨ ∃ b off, A = some ⟨b, off, none⟩ ∧ lo ≤ b ∧ b < hi ∧ ∀ i r, rs[i]? = some r → ∃ A' c', W.cell? ⟨b, off + i, none⟩ = some (.slice A' r.length c') ∧ (A' = none → c' = 0 ∧ r = []) ∧ IntsIn W lo hi A' r
theorem RowsIn.keep {W W' : World} {lo hi lo' hi' : Nat} {A : Option Addr} {l : List (List Int)} (h : RowsIn W lo hi A l) (h1 : lo' ≤ lo) (h2 : hi ≤ hi') (hk : ∀ b o, lo ≤ b → b < hi → W'.cell? ⟨b, o, none⟩ = W.cell? ⟨b, o, none⟩) : RowsIn W' lo' hi' A l := by
  rcases h with h | ⟨b, off, e, h3, h4, h5⟩
  · exact .inl h
  · refine .inr ⟨b, off, e, by omega, by omega, fun i x hx => ?_⟩
    obtain ⟨A', c', g1, g2, g3⟩ := h5 i x hx
    exact ⟨A', c', by rw [hk _ _ h3 h4]; exact g1, g2, g3.keep h1 h2 hk⟩
theorem RowsIn.below {W W' : World} {lo hi n : Nat} {A : Option Addr} {l : List (List Int)} (h : RowsIn W lo hi A l) (hb : Below n W W') (hn : hi ≤ n) : RowsIn W' lo hi A l :=
  h.keep (Nat.le_refl _) (Nat.le_refl _) fun b o _ hlt => hb.cell (p := ⟨b, o, none⟩) (by show b < n; omega)
theorem RowsIn.at_ {W : World} {lo hi : Nat} {A : Option Addr} {rs : List (List Int)} (h : RowsIn W lo hi A rs) {k : Nat} {r : List Int} (hr : rs[k]? = some r) : ∃ b off A' c', A = some ⟨b, off, none⟩ ∧ b < hi ∧ W.cell? ⟨b, off + k, none⟩ = some (.slice A' r.length c') ∧ (A' = none → c' = 0 ∧ r = []) ∧ IntsIn W lo hi A' r := by
  rcases h with h | ⟨b, off, e, h3, h4, h5⟩
  · subst h; simp at hr
  · obtain ⟨A', c', g1, g2, g3⟩ := h5 k r hr
    exact ⟨b, off, A', c', e, h4, g1, g2, g3⟩
/-- The cells of a slice of lists. -/
def RowV (W : World) (lo hi : Nat) (no : Option Nat) (u : Value) (r : List Int) : Prop := ∃ A' c', u = .slice A' r.length c' ∧ (A' = none → c' = 0 ∧ r = []) ∧ (r = [] ∨ ∃ b off, A' = some ⟨b, off, none⟩ ∧ lo ≤ b ∧ b < hi ∧ some b ≠ no ∧ ∀ i x, r[i]? = some x → W.cell? ⟨b, off + i, none⟩ = some (.int .i64 x))
/-- The slice v owns a row of lists, each of which lies elsewhere, in a block from lo on. -/
def OwnsR (W : World) (lo base : Nat) (v : Value) (rs : List (List Int)) : Prop :=
  ∃ vs : List Value, W.ownsRow base 23 1 v rs.length vs ∧ ∀ (i : Nat) (r : List Int), rs[i]? = some r → ∃ u, vs[i]? = some u ∧ RowV W lo W.heap.size v.ownBlock u r
theorem OwnsR.lay {W : World} {lo base : Nat} {v : Value} {rs : List (List Int)} (h : OwnsR W lo base v rs) (hlo : lo ≤ base) : ∃ A c, v = .slice A rs.length c ∧ (A = none → c = 0 ∧ rs = []) ∧ RowsIn W lo W.heap.size A rs := by
  obtain ⟨vs, h, hv⟩ := h
  have hh := h
  rcases hh.2 with ⟨rfl, h0⟩ | ⟨g, cap, cur, rfl, hb, hg, h4, h5, h6, h7⟩
  · have : rs = [] := List.length_eq_zero_iff.1 h0
    exact ⟨none, 0, by rw [h0], fun _ => ⟨rfl, this⟩, .inl this⟩
  · refine ⟨some ⟨g, 0, none⟩, cap, rfl, fun h => (by cases h), .inr ⟨g, 0, rfl, by omega, (Array.getElem?_eq_some_iff.1 hg).1, fun i r hr => ?_⟩⟩
    obtain ⟨u, hu, A', c', rfl, hA', hr'⟩ := hv i r hr
    have hc := World.ownsRow.cells h (g := g) rfl i _ hu
    rw [addr_add] at hc
    refine ⟨A', c', hc, hA', ?_⟩
    rcases hr' with hr' | ⟨b, off, e, q1, q2, q3, q4⟩
    · exact .inl hr'
    · exact .inr ⟨b, off, e, q1, q2, q4⟩
theorem OwnsR.below_ {W W' : World} {lo base n : Nat} {v : Value} {l : List (List Int)} (h : OwnsR W lo base v l) (hb : Below n W W') (hn : W.heap.size ≤ n) : OwnsR W' lo base v l := by
  obtain ⟨vs, h, hv⟩ := h
  refine ⟨vs, ⟨h.1, ?_⟩, fun i r hr => ?_⟩
  · rcases h.2 with h2 | ⟨g, cap, cur, e, hb2, hg, h4⟩
    · exact .inl h2
    · exact .inr ⟨g, cap, cur, e, hb2, (hb.block g (Nat.lt_of_lt_of_le (Array.getElem?_eq_some_iff.1 hg).1 hn)).trans hg, h4⟩
  · obtain ⟨u, hu, A', c', rfl, hA', hr'⟩ := hv i r hr
    refine ⟨_, hu, A', c', rfl, hA', ?_⟩
    rcases hr' with hr' | ⟨b, off, e, q1, q2, q3, q4⟩
    · exact .inl hr'
    · exact .inr ⟨b, off, e, q1, Nat.lt_of_lt_of_le q2 hb.size, q3, fun i x hx => (hb.cell (p := ⟨b, off + i, none⟩) (Nat.lt_of_lt_of_le q2 hn)).trans (q4 i x hx)⟩
theorem OwnsR.alloc {W : World} {lo base : Nat} {v : Value} {l : List (List Int)} (h : OwnsR W lo base v l) (o : Obj) : OwnsR (W.alloc o) lo base v l := h.below_ ((Below.refl _ W).alloc (Nat.le_refl _) o) (Nat.le_refl _)
/-! Appends at a step of a region that draws its order: what else is kept is told. -/
/-- 'append(out, xs...)'. -/
theorem step_copyG {ops : Array Oper} {o : Oper} {a : Act} {w : World} {K : Act → World → Prop} {Q : Exit → Act → World → Prop} {E : Prop} (hgd : o.guard = none) (s x : Operand)
    (ho : o.op = .call { callee := .builtin .append, args := #[s, x], argTypes := #[23, 23] }) (n₀ : Nat) (v : Value) (l0 : List Int) (hs : a.eval s = v) (hown : Ints w n₀ v l0)
    (A : Option Addr) (c : Nat) (l : List Int) (m : Nat) (hm : l.length = m) (hA : A = none → c = 0 ∧ l = []) (hx : a.eval x = .slice A m c) (hI : IntsAt w w.heap.size A l) (hl0 : l0.length ≤ 1000) (hl : m ≤ 1000) (hn : n₀ ≤ w.heap.size)
    (h : ∀ v' w', Ints w' n₀ v' (l0 ++ l) → Below n₀ w w' → w.grownBy w' v.ownBlock → K (a.put o.dst v') w') :
    if Region.wanted o (yielded ops a.tmps) = true then Oper.wp Tryz.prog o a w K Q else E := by
  subst hm
  have hw : Region.wanted o (yielded ops a.tmps) = true := by simp [Region.wanted, hgd]
  rw [if_pos hw]
  obtain ⟨i0, hi, hz0, hz1, hz2⟩ := info_parts info3'
  cases A with
  | none =>
    obtain ⟨rfl, rfl⟩ := hA rfl
    have hrun := run_append_owned_none (P := Tryz.prog) (w := w) n₀ 23 o.type 3 i0 1 Tryz.underlying23 hi v l0.length _ hown
    have hk := h v w (by rw [List.append_nil]; exact hown) (Below.refl _ _) ⟨rfl, rfl, rfl, Nat.le_refl _, fun _ _ _ => rfl⟩
    unfold Oper.wp
    simp [execOp, ho, resolve, invoke, builtin, hs, hx, hrun, Result.andThen]
    exact hk
  | some ad =>
    refine wp_append_own w s x 23 ho n₀ 3 i0 (.int .i64 0) 1 8 Tryz.underlying23 hi hz0 hz1 hz2 rfl (by decide) v l0.length _ hs hown ad l.length c (l.map (.int .i64)) hx (by simp) (ints_news hI) (ints_one l) ?_ ?_ hn ?_
    · unfold maxLen; omega
    · omega
    · intro v' w' h2 h3 _
      refine h v' w' ?_ (own_below hown h3 hn (Nat.le_refl _)) h3
      unfold Ints
      rw [List.length_append, List.map_append]
      exact h2
end Go.Proofs.YtmbcpmnigggbaabGreat
namespace Go.Proofs.YtmbcpmnigggbaabGreat
open Go.RowKit
theorem take_snoc_next {α : Type} {l : List α} {k : Nat} {x : α} (h : l[k]? = some x) : l.take k ++ [x] = l.take (k + 1) := by
  obtain ⟨hk2, e⟩ := List.getElem?_eq_some_iff.1 h
  subst e
  rw [← List.take_succ_eq_append_getElem hk2]
/-! The specification: what is valid, sums, parts of a barrel. -/
theorem below_drewN {B : Nat} {W W' : World} (h : Below B W W') (m : Nat) : Below B W (W'.drewN m) := ⟨h.os, h.tape, h.output, h.size, h.block⟩
theorem HBox.drewN {W : World} {b : Nat} {L : HL} {h : House} (H : HBox W b L h) (m : Nat) : HBox (W.drewN m) b L h := H
theorem within1_any (n lo hi : Int) (w : World) : Calls Tryz.prog 41 #[.int .i64 n, .int .i64 lo, .int .i64 hi] w fun e w' => e = .returned (.bool (inR n lo hi)) ∧ w = w' := by
  by_cases h : lo ≤ n <;> by_cases h2 : n ≤ hi
  all_goals
    have e : inR n lo hi = (decide (lo ≤ n) && decide (n ≤ hi)) := rfl
    have E := Lib.hid e
    clear e
    go_enter Tryz.func41, Tryz.ntmps41
    go_wp2
    go_ret
    exact ⟨by rw [E.out]; simp <;> omega, rfl⟩
theorem within_any (n lo hi : Int) (w : World) : Calls Tryz.prog 48 #[.int .i64 n, .int .i64 lo, .int .i64 hi] w fun e w' => e = .returned (.bool (inR n lo hi)) ∧ w = w' := by
  go_enter Tryz.func48, Tryz.ntmps48
  go_wp2_with (go_at_call 41; refine (within1_any _ _ _ _).mono ?_; rintro e w' ⟨rfl, rfl⟩)
  go_ret
  exact ⟨rfl, rfl⟩
theorem rIsBarrel_any (L : HL) (h : House) (k : Int) (w : World) (hn : h.bs.length ≤ 1000) : Calls Tryz.prog 49 #[L.enc h, .int .i64 k] w fun e w' => e = .returned (.bool (inR k 0 (h.bs.length - 1))) ∧ Below w.heap.size w w' := by
  go_enter Tryz.func49, Tryz.ntmps49
  go_wp2_with (go_at_call 48; refine (within_any _ _ _ _).mono ?_; rintro e w' ⟨rfl, rfl⟩)
  go_ret
  exact ⟨rfl, (Below.refl _ _).alloc (Nat.le_refl _) _⟩
/-- One part more of a list. -/
theorem take_step {l : List Int} {k : Nat} {x : Int} (h : l[k]? = some x) : l.take (k + 1) = l.take k ++ [x] := (take_snoc_next h).symm
theorem caskIn_take {h : House} (hv : HOK h) {l : List Int} (hp : PartsOK h l) {k : Nat} (hk : k ≤ l.length) : (caskIn h (l.take k)).upto k := by
  have := caskIn_upto hv (l.take k) (fun i hi => hp i (List.mem_of_mem_take hi))
  rwa [show (l.take k).length = k by simp; omega] at this
set_option maxRecDepth 100000 in
set_option maxHeartbeats 4000000 in
theorem pounds_any (L : HL) (h : House) (hv : HOK h) (l : List Int) (hl : l.length ≤ 100) (hp : PartsOK h l) (A : Option Addr) (c : Nat) (w : World) (hH : HouseAt w w.heap.size L h) (hI : IntsAt w w.heap.size A l) :
    Calls Tryz.prog 71 #[L.enc h, .slice A l.length c] w fun e w' => e = .returned (.int .i64 (caskIn h l).p) ∧ Below w.heap.size w w' := by
  have HH := Lib.hid hH
  have HI := Lib.hid hI
  have HV := Lib.hid hv
  have HP := Lib.hid hp
  have hpl6 := hv.pl
  clear hH hI hv hp
  go_enter Tryz.func71, Tryz.ntmps71
  go_wp2
  go_loopw [5, 6] (fun n i wr => ∃ k : Nat, k ≤ l.length ∧ i = .int .i64 k ∧ n = .int .i64 (caskIn h (l.take k)).p ∧ Below w.heap.size w wr ∧ HBox wr w.heap.size L h) (fun _ i _ => l.length - (intOf i).toNat)
  case atStart => exact ⟨0, Nat.zero_le _, rfl, rfl, (Below.refl _ _).alloc (Nat.le_refl _) _, HBox.new w L h⟩
  case round =>
    obtain ⟨k, hk, rfl, rfl, hb, hB⟩ := hrel
    obtain ⟨g0, g1, g2, g3⟩ := hB.cells
    have hup := caskIn_take HV.out HP.out hk
    have hu0 := hup.p0
    have hu1 := hup.p1
    by_cases hlt : k < l.length
    · obtain ⟨x, hx⟩ : ∃ x, l[k]? = some x := ⟨_, List.getElem?_eq_getElem hlt⟩
      obtain ⟨b1, o1, rfl, b1lt, d1⟩ := HI.out.at_ hx
      have e1 := below_cell hb d1
      obtain ⟨x0, x1⟩ := HP.out x (List.mem_of_getElem? hx)
      obtain ⟨xn, rfl⟩ : ∃ xn : Nat, x = (xn : Int) := ⟨x.toNat, by omega⟩
      have hxn : xn < h.ps.length := by omega
      obtain ⟨kk, p1, p2, p3, ⟨p4, p5⟩, _⟩ := HV.out.part hxn
      obtain ⟨b2, o2, e2, _, q1, q2⟩ := HH.out.p.at_ p1
      have f2 := below_cell hb q2
      have HX := Lib.hid (take_step hx)
      have hki : (k : Int) < l.length := by omega
      have hk0 : (0 : Int) ≤ (k : Int) := by omega
      have hxi : (xn : Int) < h.ps.length := by omega
      have hx0 : (0 : Int) ≤ (xn : Int) := by omega
      have hnx : (caskIn h (l.take (k + 1))).p = (caskIn h (l.take k)).p + (partOf h xn).2 := by rw [HX.out, caskIn_snoc]; simp [layAt, layC]
      have HNX := Lib.hid hnx
      rw [e2] at g2
      clear hx p1 p2 p3 q1 d1 hnx
      go_wp2
      go_quiet (fail)
      go_wp2
      go_roundw
      case rel => exact ⟨k + 1, by omega, by go_num, by rw [HNX.out], below_drewN hb _, hB.drewN _⟩
      case measure => simp [intOf]; omega
    · obtain rfl : k = l.length := by omega
      have HL' : Hid ((caskIn h (l.take l.length)).p = (caskIn h l).p) := Lib.hid (by rw [List.take_length])
      go_wp2
      go_ret
      exact ⟨by rw [← HL'.out]; rfl, hb⟩
theorem salt_eq {h : House} {l : List Int} (hl : l ≠ []) : saltC h.fl (caskIn h l) = h.fl + ((caskIn h l).p * (caskIn h l).s + 9) / 10 := by
  have : ¬ (caskIn h l).n = 0 := by
    rw [cask_n]
    have := List.length_pos_iff.2 hl
    omega
  rw [saltC, if_neg this]
theorem salt_nil {h : House} : saltC h.fl (caskIn h []) = 0 := by simp [saltC, caskIn, c0]
set_option maxRecDepth 100000 in
set_option maxHeartbeats 4000000 in
theorem saltOf_any (L : HL) (h : House) (hv : HOK h) (l : List Int) (hl : l.length ≤ 100) (hp : PartsOK h l) (A : Option Addr) (c : Nat) (w : World) (hH : HouseAt w w.heap.size L h) (hI : IntsAt w w.heap.size A l) :
    Calls Tryz.prog 72 #[L.enc h, .slice A l.length c] w fun e w' => e = .returned (.int .i64 (saltC h.fl (caskIn h l))) ∧ Below w.heap.size w w' := by
  have HH := Lib.hid hH
  have HI := Lib.hid hI
  have HV := Lib.hid hv
  have HP := Lib.hid hp
  have hpl6 := hv.pl
  have hf0 := hv.f0
  have hf1 := hv.f1
  clear hH hI hv hp
  rcases Nat.eq_zero_or_pos l.length with hz | hz
  · have hd : ((l.length : Int) == 0) = true := beq_iff_eq.2 (by omega)
    have HZ := Lib.hid hz
    clear hz
    go_enter Tryz.func72, Tryz.ntmps72
    go_wp2
    go_ret
    have : l = [] := List.eq_nil_of_length_eq_zero HZ.out
    exact ⟨by subst this; rw [salt_nil]; rfl, (Below.refl _ _).alloc (Nat.le_refl _) _⟩
  · have hd : ((l.length : Int) == 0) = false := beq_eq_false_iff_ne.2 (by omega)
    have hne : Hid (l ≠ []) := Lib.hid (List.length_pos_iff.1 hz)
    go_enter Tryz.func72, Tryz.ntmps72
    go_wp2
    go_loopw [5, 6] (fun n i wr => ∃ k : Nat, k ≤ l.length ∧ i = .int .i64 k ∧ n = .int .i64 (caskIn h (l.take k)).s ∧ Below w.heap.size w wr ∧ HBox wr w.heap.size L h) (fun _ i _ => l.length - (intOf i).toNat)
    case atStart => exact ⟨0, Nat.zero_le _, rfl, rfl, (Below.refl _ _).alloc (Nat.le_refl _) _, HBox.new w L h⟩
    case round =>
      obtain ⟨k, hk, rfl, rfl, hb, hB⟩ := hrel
      obtain ⟨g0, g1, g2, g3⟩ := hB.cells
      have hup := caskIn_take HV.out HP.out hk
      have hu0 := hup.s0
      have hu1 := hup.s1
      by_cases hlt : k < l.length
      · obtain ⟨x, hx⟩ : ∃ x, l[k]? = some x := ⟨_, List.getElem?_eq_getElem hlt⟩
        obtain ⟨b1, o1, rfl, b1lt, d1⟩ := HI.out.at_ hx
        have e1 := below_cell hb d1
        obtain ⟨x0, x1⟩ := HP.out x (List.mem_of_getElem? hx)
        obtain ⟨xn, rfl⟩ : ∃ xn : Nat, x = (xn : Int) := ⟨x.toNat, by omega⟩
        have hxn : xn < h.ps.length := by omega
        obtain ⟨kk, p1, p2, p3, ⟨p4, p5⟩, k0, k1, _⟩ := HV.out.part hxn
        obtain ⟨b2, o2, e2, _, q1, q2⟩ := HH.out.p.at_ p1
        obtain ⟨b3, o3, e3, _, r1, r2⟩ := HH.out.k.at_ p3
        rw [p2] at q1
        have f1 := below_cell hb q1
        have f3 := below_cell hb r1
        have hkk : kk < h.ks.length := (List.getElem?_eq_some_iff.1 p3).1
        have HX := Lib.hid (take_step hx)
        have hki : (k : Int) < l.length := by omega
        have hk0 : (0 : Int) ≤ (k : Int) := by omega
        have hxi : (xn : Int) < h.ps.length := by omega
        have hx0 : (0 : Int) ≤ (xn : Int) := by omega
        have hkki : (kk : Int) < h.ks.length := by omega
        have hkk0 : (0 : Int) ≤ (kk : Int) := by omega
        have hnx : (caskIn h (l.take (k + 1))).s = max (caskIn h (l.take k)).s (kindOf h (partOf h xn)).1 := by rw [HX.out, caskIn_snoc]; simp [layAt, layC]
        have HNX := Lib.hid hnx
        rw [e2] at g2
        rw [e3] at g0
        clear hx p1 p2 p3 q1 q2 r1 r2 d1 hnx e2 e3
        go_wp2
        go_quiet (fail)
        go_wp2
        go_roundw
        case rel => exact ⟨k + 1, by omega, by go_num, by rw [HNX.out]; congr 1; simp only [Int.max_def]; split <;> split <;> omega, below_drewN hb _, hB.drewN _⟩
        case measure => simp [intOf]; omega
      · obtain rfl : k = l.length := by omega
        have HL' : Hid (caskIn h (l.take l.length) = caskIn h l) := Lib.hid (by rw [List.take_length])
        rw [HL'.out] at hu0 hu1 ⊢
        have hup2 := caskIn_upto HV.out l HP.out
        have hp0 := hup2.p0
        have hp1 := hup2.p1
        have hps : 0 ≤ (caskIn h l).p * (caskIn h l).s := Int.mul_nonneg hp0 hu0
        have hps2 : (caskIn h l).p * (caskIn h l).s ≤ 10000 * 9 := Int.mul_le_mul (by omega) hu1 hu0 (by omega)
        have e0 := extB_cell g0
        have e1 := extB_cell g1
        have e2 := extB_cell g2
        have e3 := extB_cell g3
        clear hup hup2
        go_wp2
        refine wp_region_extW (by kernel_rfl) (by kernel_rfl) ?_
        repeat (go_big_quiet_step ((go_at_call 71; exact ext_call (pounds_any L h HV.out l hl HP.out A c _ (extB_house (HH.out.below hb) (Nat.le_refl _)) (HI.out.keep (Nat.le_trans hb.size (extB_below wr _).size) fun b o hlt => by exact ((extB_below wr _).cell (p := ⟨b, o, none⟩) (by have := hb.size; show b < wr.heap.size; omega)).trans (hb.cell (p := ⟨b, o, none⟩) hlt))))))
        refine wpQuiet_nil ?_
        rintro _ ⟨x1, rfl⟩
        have hb8 := extB_below wr x1
        clear e0 e1 e2 e3
        go_wp2
        go_ret
        exact ⟨by rw [salt_eq hne.out]; rfl, hb0to hb hb8⟩
/-! The specification: In, fits, IsPacking, sums over all barrels. -/
theorem ints_later {w W : World} {A : Option Addr} {l : List Int} (hI : IntsAt w w.heap.size A l) (hb : Below w.heap.size w W) : IntsAt W W.heap.size A l := hI.keep hb.size fun b o hlt => hb.cell (p := ⟨b, o, none⟩) hlt
def RowRet (l : List Int) (B : Nat) (w' : World) (e : Ending) : Prop := ∃ v, e = .returned v ∧ Ints w' B v l
theorem inTo_yes {pack : List Int} {b : Int} {k : Nat} (h : barrelOf pack k = b) : inTo pack b (k + 1) = inTo pack b k ++ [(k : Int)] := if_pos h
theorem inTo_no {pack : List Int} {b : Int} {k : Nat} (h : barrelOf pack k ≠ b) : inTo pack b (k + 1) = inTo pack b k := if_neg h
set_option maxRecDepth 100000 in
set_option maxHeartbeats 4000000 in
theorem in_any (pack : List Int) (hl : pack.length ≤ 1000) (b : Int) (A : Option Addr) (c : Nat) (w : World) (hI : IntsAt w w.heap.size A pack) :
    Calls Tryz.prog 70 #[.slice A pack.length c, .int .i64 b] w fun e w' => RowRet (inOf pack b) w.heap.size w' e ∧ Below w.heap.size w w' := by
  have HI := Lib.hid hI
  clear hI
  go_enter Tryz.func70, Tryz.ntmps70
  go_wp2
  go_loopw [5, 6] (fun v i wr => ∃ k : Nat, k ≤ pack.length ∧ i = .int .i64 k ∧ Ints wr w.heap.size v (inTo pack b k) ∧ Below w.heap.size w wr) (fun _ i _ => pack.length - (intOf i).toNat)
  case atStart => exact ⟨0, Nat.zero_le _, rfl, ints_nil _ _, Below.refl _ _⟩
  case round =>
    obtain ⟨k, hk, rfl, hown, hb⟩ := hrel
    have hsz := hb.size
    by_cases hlt : k < pack.length
    · obtain ⟨x, hx⟩ : ∃ x, pack[k]? = some x := ⟨_, List.getElem?_eq_getElem hlt⟩
      obtain ⟨b1, o1, rfl, b1lt, d1⟩ := HI.out.at_ hx
      have e1 := below_cell hb d1
      have hbo : barrelOf pack k = x := by simp [barrelOf, List.getD, hx]
      have hil := inTo_len pack b k
      by_cases hxb : x = b
      · have hd : (x == b) = true := by simpa using hxb
        have HY := Lib.hid (inTo_yes (hbo.trans hxb))
        clear hxb hbo hx d1
        go_wp2_with (refine wpl_app rfl (.tmp 19) (.tmp 21) rfl w.heap.size w.heap.size _ (inTo pack b k) k rfl (hown.alloc _) ⟨wr.heap.size, 0, none⟩ 1 rfl (by simp [go_sem]) (by omega) (by simp; omega) (Nat.le_refl _) ?_; intro v' w' hown' hb')
        go_roundw
        case rel => exact ⟨k + 1, by omega, by go_num, by rw [HY.out]; exact hown', hb.trans (((Below.refl _ _).alloc hsz _).trans hb')⟩
        case measure => simp [intOf]; omega
      · have hd : (x == b) = false := by simpa using hxb
        have HY := Lib.hid (inTo_no (pack := pack) (b := b) (k := k) (by rw [hbo]; exact hxb))
        clear hxb hbo hx d1
        go_wp2
        go_roundw
        case rel => exact ⟨k + 1, by omega, by go_num, by rw [HY.out]; exact hown, hb⟩
        case measure => simp [intOf]; omega
    · obtain rfl : k = pack.length := by omega
      go_wp2
      go_ret
      exact ⟨⟨_, rfl, hown⟩, hb⟩
theorem fitsR_no {h : House} {pack : List Int} {b : Nat} (hb : b < h.bs.length) (hn : ¬ needC h (inOf pack b) ≤ h.bs.getD b 0) : fitsR h pack = false := by
  rw [fitsR, List.all_eq_false]; exact ⟨b, List.mem_range.2 hb, by simpa using hn⟩
set_option maxRecDepth 100000 in
set_option maxHeartbeats 4000000 in
theorem rfits_any (L : HL) (h : House) (hv : HOK h) (pack : List Int) (hl : pack.length ≤ h.ps.length) (A : Option Addr) (c : Nat) (w : World) (hH : HouseAt w w.heap.size L h) (hI : IntsAt w w.heap.size A pack) :
    Calls Tryz.prog 50 #[L.enc h, .slice A pack.length c] w fun e w' => e = .returned (.bool (fitsR h pack)) ∧ Below w.heap.size w w' := by
  have HH := Lib.hid hH
  have HI := Lib.hid hI
  have HV := Lib.hid hv
  have hpl6 := hv.pl
  have hbl4 := hv.bl
  have hf0 := hv.f0
  have hf1 := hv.f1
  clear hH hI hv
  obtain ⟨Ak, ck, Ap, cp, Ab, cb⟩ := L
  go_enter Tryz.func50, Tryz.ntmps50
  go_wp2
  go_loopw [5] (fun i wr => ∃ k : Nat, k ≤ h.bs.length ∧ i = .int .i64 k ∧ Hid (∀ b, b < k → needC h (inOf pack b) ≤ h.bs.getD b 0) ∧ Below w.heap.size w wr ∧ HBox wr w.heap.size ⟨Ak, ck, Ap, cp, Ab, cb⟩ h) (fun i _ => h.bs.length - (intOf i).toNat)
  case atStart => exact ⟨0, Nat.zero_le _, rfl, Lib.hid (fun b hb => by omega), (Below.refl _ _).alloc (Nat.le_refl _) _, HBox.new w ⟨Ak, ck, Ap, cp, Ab, cb⟩ h⟩
  case round =>
    obtain ⟨k, hk, rfl, hall, hb, hB⟩ := hrel
    have hsz := hb.size
    obtain ⟨g0, g1, g2, g3⟩ := hB.cells
    by_cases hlt : k < h.bs.length
    · obtain ⟨x, hx⟩ : ∃ x, h.bs[k]? = some x := ⟨_, List.getElem?_eq_getElem hlt⟩
      obtain ⟨b1, o1, rfl, b1lt, d1⟩ := HH.out.b.at_ hx
      have hgx : h.bs.getD k 0 = x := by simp [List.getD, hx]
      have HGX := Lib.hid hgx
      have hpo : PartsOK h (inOf pack k) := inTo_parts hl
      have HPO := Lib.hid hpo
      have hil : (inOf pack k).length ≤ pack.length := inTo_len _ _ _
      have HC := Lib.hid (fun A' c' W (hW : Below w.heap.size w W) (hI' : IntsAt W W.heap.size A' (inOf pack k)) => pounds_any _ h HV.out (inOf pack k) (by omega) hpo A' c' W (HH.out.below hW) hI')
      have HS := Lib.hid (fun A' c' W (hW : Below w.heap.size w W) (hI' : IntsAt W W.heap.size A' (inOf pack k)) => saltOf_any _ h HV.out (inOf pack k) (by omega) hpo A' c' W (HH.out.below hW) hI')
      have hup := (caskIn_upto HV.out _ hpo).ok (by omega)
      have hp0 := hup.p0
      have hp1 := hup.p1
      have hsb := saltC_bd hup ⟨hf0, hf1⟩
      have hki : (k : Int) < h.bs.length := by omega
      have hk0 : (0 : Int) ≤ (k : Int) := by omega
      have hnc : needC h (inOf pack k) = (caskIn h (inOf pack k)).p + saltC h.fl (caskIn h (inOf pack k)) := rfl
      have HNC := Lib.hid hnc
      clear hx hgx hpo hnc hup
      by_cases hov : x < (caskIn h (inOf pack k)).p + saltC h.fl (caskIn h (inOf pack k))
      all_goals
        go_wp2_with (go_at_call 70; refine (in_any pack (by omega) k A c _ (ints_later HI.out hb)).mono ?_; rintro e w2 ⟨⟨v, rfl, hown⟩, hb2⟩; obtain ⟨A2, c2, rfl, -, -, hI2⟩ := hown.lay; have x0 := extB_cell (below_cell hb2 g0); have x1 := extB_cell (below_cell hb2 g1); have x2 := extB_cell (below_cell hb2 g2); have x3 := extB_cell (below_cell hb2 g3); have d2 := extB_cell (below_cell hb2 (below_cell hb d1)))
        have hI3 := Lib.hid (fun x => (ints_later (hI2.at_.keep (Nat.le_refl _) (fun _ _ _ => rfl)) (extB_below w2 x) : IntsAt (extB w2 x) (extB w2 x).heap.size A2 (inOf pack k)))
        have hbe := Lib.hid (fun x => (hb0to hb (hb0to hb2 (extB_below w2 x)) : Below w.heap.size w (extB w2 x)))
        clear hI2 hown
        refine wp_region_extW (by kernel_rfl) (by kernel_rfl) ?_
        repeat (go_big_quiet_step (first
          | (go_at_call 71; exact ext_call (HC.out A2 c2 _ (hbe.out _) (hI3.out _)))
          | (go_at_call 72; exact ext_call (HS.out A2 c2 _ (hbe.out _) (hI3.out _)))))
        refine wpQuiet_nil ?_
        rintro _ ⟨y1, rfl⟩
        have hb3 := hbe.out y1
        clear x0 x1 x2 x3 d2
      · have hno := fitsR_no (h := h) (pack := pack) (b := k) hlt (by rw [HNC.out, HGX.out]; omega)
        have HNO := Lib.hid hno
        clear hno
        go_wp2
        go_ret
        exact ⟨by rw [HNO.out]; rfl, hb3⟩
      · go_wp2
        go_roundw
        case rel => exact ⟨k + 1, by omega, by go_num, Lib.hid (fun b hbk => by by_cases e : b = k; subst e; rw [HNC.out, HGX.out]; omega; exact hall.out b (by omega)), hb3, hB.of (((extB_below w2 y1).block _ (Nat.lt_of_lt_of_le hB.lt hb2.size)).trans (hb2.block _ hB.lt))⟩
        case measure => simp [intOf]; omega
    · obtain rfl : k = h.bs.length := by omega
      go_wp2
      go_ret
      have : fitsR h pack = true := fitsR_true.2 hall.out
      exact ⟨by rw [this]; rfl, hb⟩
/-! Plain: a packing's casks, by the lists of their parts. -/
def InRange (lo : Int) (nb : Nat) (p : List Int) : Prop := ∀ x ∈ p, lo ≤ x ∧ x < nb
theorem barrel_range {p : List Int} {nb : Nat} (h : InRange (-1) nb p) (hnb : nb ≤ 5) : ∀ j, -1 ≤ barrelOf p j ∧ barrelOf p j ≤ 4 := fun j => by
  unfold barrelOf
  cases hj : p[j]? with
  | none => simp [List.getD, hj]
  | some x =>
    have := h x (List.mem_of_getElem? hj)
    simp only [List.getD, hj, Option.getD_some]
    omega
theorem InRange.low {lo : Int} {nb : Nat} {p : List Int} (h : InRange lo nb p) (hlo : -1 ≤ lo) : InRange (-1) nb p := fun x hx => by have := h x hx; omega
theorem caskOf_packed {h : House} {p : List Int} (hl : p.length = h.ps.length) {nb : Nat} (hr : InRange (-1) nb p) (hnb : nb ≤ 5) {b : Nat} (hb : b < 5) : caskOf (packedC h p) b = caskIn h (inOf p b) := by
  unfold caskOf packedC inOf
  rw [← hl]
  exact casksTo_at h p b hb p.length (fun j _ => barrel_range hr hnb j)
theorem fits_packed {h : House} (hv : HOK h) {p : List Int} (hl : p.length = h.ps.length) {nb : Nat} (hr : InRange (-1) nb p) (hnb : nb ≤ 5) : fitsC h (packedC h p) = fitsR h p := by
  unfold fitsC fitsR
  rw [Bool.eq_iff_iff]
  simp only [List.all_eq_true, List.mem_range]
  have hbl := hv.bl
  have : ∀ b, b < h.bs.length → (roomOK h (packedC h p) b = true ↔ decide (needC h (inOf p b) ≤ h.bs.getD b 0) = true) := fun b hb => by
    rw [roomOK, caskOf_packed hl hr hnb (by omega)]
    rfl
  exact ⟨fun h1 b hb => (this b hb).1 (h1 b hb), fun h1 b hb => (this b hb).2 (h1 b hb)⟩
end Go.Proofs.YtmbcpmnigggbaabGreat
namespace Go.Proofs.YtmbcpmnigggbaabGreat
open Go.RowKit
set_option maxRecDepth 100000 in
set_option maxHeartbeats 4000000 in
theorem rcheck_no (L : HL) (h : House) (hn : h.ks.length ≤ 1000 ∧ h.ps.length ≤ 1000 ∧ h.bs.length ≤ 1000) (hv : bigOK h = false) (w : World) :
    Calls Tryz.prog 26 #[L.enc h] w fun e w' => e = .returned (.int .i64 (ckH h)) ∧ Below w.heap.size w w' := by
  obtain ⟨n1, n2, n3⟩ := hn
  have hv2 : ckH h = 80 := ckH_no (by simp [validH, hv])
  rw [hv2]
  clear hv2
  have hbw : Below w.heap.size w (w.alloc (.cells #[.slice L.Ak h.ks.length L.ck, .int .i64 h.fl, .slice L.Ap h.ps.length L.cp, .slice L.Ab h.bs.length L.cb] 38)) := (Below.refl _ _).alloc (Nat.le_refl _) _
  obtain ⟨Ak, ck, Ap, cp, Ab, cb⟩ := L
  by_cases k1 : h.ks.length ≤ 3
  · cases f1 : inR h.fl 0 9
    · clear hv
      go_enter Tryz.func26, Tryz.ntmps26
      go_wp2_with (go_at_call 48; refine (within_any _ _ _ _).mono ?_; rintro e w' ⟨rfl, rfl⟩)
      go_ret
      exact ⟨rfl, hbw⟩
    · by_cases p1 : h.ps.length ≤ 6
      · have b1 : 4 < h.bs.length := by
          have : ¬ h.bs.length ≤ 4 := fun hb => by simp [bigOK, k1, f1, p1, hb] at hv
          omega
        clear hv
        go_enter Tryz.func26, Tryz.ntmps26
        go_wp2_with (go_at_call 48; refine (within_any _ _ _ _).mono ?_; rintro e w' ⟨rfl, rfl⟩)
        go_ret
        exact ⟨rfl, hbw⟩
      · have p2 : 6 < h.ps.length := by omega
        clear hv p1
        go_enter Tryz.func26, Tryz.ntmps26
        go_wp2_with (go_at_call 48; refine (within_any _ _ _ _).mono ?_; rintro e w' ⟨rfl, rfl⟩)
        go_ret
        exact ⟨rfl, hbw⟩
  · have k2 : 3 < h.ks.length := by omega
    clear hv k1
    go_enter Tryz.func26, Tryz.ntmps26
    go_wp2_with (go_at_call 48; refine (within_any _ _ _ _).mono ?_; rintro e w' ⟨rfl, rfl⟩)
    go_ret
    exact ⟨rfl, hbw⟩
set_option maxRecDepth 100000 in
set_option maxHeartbeats 4000000 in
theorem rcheck_yes (L : HL) (h : House) (hv : bigOK h = true) (w : World) (hH : HouseAt w w.heap.size L h) :
    Calls Tryz.prog 26 #[L.enc h] w fun e w' => e = .returned (.int .i64 (ckH h)) ∧ Below w.heap.size w w' := by
  have hv' := hv
  simp only [bigOK, Bool.and_eq_true, decide_eq_true_eq] at hv'
  obtain ⟨k1, f1, p1, b1⟩ := hv'
  have HV := Lib.hid hv
  have HH := Lib.hid hH
  clear hv hH
  obtain ⟨Ak, ck, Ap, cp, Ab, cb⟩ := L
  go_enter Tryz.func26, Tryz.ntmps26
  go_wp2_with (go_at_call 48; refine (within_any _ _ _ _).mono ?_; rintro e w' ⟨rfl, rfl⟩)
  clear f1
  go_loopw [3] (fun i wr => ∃ k : Nat, k ≤ h.ks.length ∧ i = .int .i64 k ∧ Hid (∀ j x, j < k → h.ks[j]? = some x → kindOK x = true) ∧ Below w.heap.size w wr ∧ HBox wr w.heap.size ⟨Ak, ck, Ap, cp, Ab, cb⟩ h) (fun i _ => h.ks.length - (intOf i).toNat)
  case atStart => exact ⟨0, Nat.zero_le _, rfl, Lib.hid (fun j x hj => by omega), (Below.refl _ _).alloc (Nat.le_refl _) _, HBox.new w ⟨Ak, ck, Ap, cp, Ab, cb⟩ h⟩
  case round =>
    obtain ⟨k, hk, rfl, hok, hb, hB⟩ := hrel
    have hsz := hb.size
    obtain ⟨g0, g1, g2, g3⟩ := hB.cells
    by_cases hlt : k < h.ks.length
    · obtain ⟨x, hx⟩ : ∃ x, h.ks[k]? = some x := ⟨_, List.getElem?_eq_getElem hlt⟩
      obtain ⟨bk, ok, rfl, hbk, d1, d2⟩ := HH.out.k.at_ hx
      have e1 := below_cell hb d1
      have e2 := below_cell hb d2
      have HX := Lib.hid hx
      clear hx d1 d2
      cases h1 : inR x.1 0 9
      · have hno : Hid (kindOK x = false) := Lib.hid (by rw [kindOK, h1]; rfl)
        go_wp2_with (go_at_call 48; refine (within_any _ _ _ _).mono ?_; rintro e w' ⟨rfl, rfl⟩)
        go_ret
        exact ⟨by rw [ckH_no (by simp [validH, allTo_bad HX.out hno.out])]; rfl, hb⟩
      · cases h2 : inR x.2 0 20
        · have hno : Hid (kindOK x = false) := Lib.hid (by rw [kindOK, h1, h2]; rfl)
          go_wp2_with (go_at_call 48; refine (within_any _ _ _ _).mono ?_; rintro e w' ⟨rfl, rfl⟩)
          go_ret
          exact ⟨by rw [ckH_no (by simp [validH, allTo_bad HX.out hno.out])]; rfl, hb⟩
        · have hyes : Hid (kindOK x = true) := Lib.hid (by rw [kindOK, h1, h2]; rfl)
          go_wp2_with (go_at_call 48; refine (within_any _ _ _ _).mono ?_; rintro e w' ⟨rfl, rfl⟩)
          go_roundw
          case rel => exact ⟨k + 1, by omega, by go_num, Lib.hid (allTo_step hok.out HX.out hyes.out), hb, hB⟩
          case measure => simp [intOf]; omega
    · obtain rfl : k = h.ks.length := by omega
      have hkall : Hid (h.ks.all kindOK = true) := Lib.hid (allTo_good hok.out)
      clear hok hlt hk
      go_wp2
      clear g0 g1 g2 g3
      obtain ⟨wo, rfl⟩ : ∃ wo : World, wo = wr := ⟨_, rfl⟩
      go_loopw [4] (fun i wr => ∃ k : Nat, k ≤ h.ps.length ∧ i = .int .i64 k ∧ Hid (∀ j x, j < k → h.ps[j]? = some x → partOK h.ks.length x = true) ∧ Below w.heap.size w wr ∧ HBox wr w.heap.size ⟨Ak, ck, Ap, cp, Ab, cb⟩ h) (fun i _ => h.ps.length - (intOf i).toNat)
      case atStart => exact ⟨0, Nat.zero_le _, rfl, Lib.hid (fun j x hj => by omega), hb, hB⟩
      case round =>
        clear hb hB hsz
        obtain ⟨k, hk, rfl, hok, hb, hB⟩ := hrel
        have hsz := hb.size
        obtain ⟨g0, g1, g2, g3⟩ := hB.cells
        by_cases hlt : k < h.ps.length
        · obtain ⟨x, hx⟩ : ∃ x, h.ps[k]? = some x := ⟨_, List.getElem?_eq_getElem hlt⟩
          obtain ⟨bk, ok, rfl, hbk, d1, d2⟩ := HH.out.p.at_ hx
          have e1 := extB_cell (below_cell hb d1)
          have e2 := extB_cell (below_cell hb d2)
          have x0 := extB_cell g0
          have x2 := extB_cell g2
          have hki : (k : Int) < h.ps.length := by omega
          have hk0 : (0 : Int) ≤ (k : Int) := by omega
          have hwr : IntKind.i64.wrap ((h.ks.length : Int) - 1) = (h.ks.length : Int) - 1 := IntWalk.i64_in _ (by omega)
          have HX := Lib.hid hx
          clear hx d1 d2
          cases h1 : inR x.1 0 (h.ks.length - 1)
          · have hno : Hid (partOK h.ks.length x = false) := Lib.hid (by rw [partOK, h1]; rfl)
            go_wp2
            refine wp_region_extW (by kernel_rfl) (by kernel_rfl) ?_
            repeat (go_big_quiet_step ((go_at_call 48; exact ext_same (within_any _ _ _ _))))
            refine wpQuiet_nil ?_
            rintro _ ⟨x1, rfl⟩
            have hb3 := hb0to hb (extB_below wr x1)
            clear x0 x2 e1 e2
            go_wp2
            go_ret
            exact ⟨by rw [ckH_no (by simp [validH, allTo_bad HX.out hno.out])]; rfl, hb3⟩
          · cases h2 : inR x.2 0 40
            · have hno : Hid (partOK h.ks.length x = false) := Lib.hid (by rw [partOK, h1, h2]; rfl)
              go_wp2
              refine wp_region_extW (by kernel_rfl) (by kernel_rfl) ?_
              repeat (go_big_quiet_step ((go_at_call 48; exact ext_same (within_any _ _ _ _))))
              refine wpQuiet_nil ?_
              rintro _ ⟨x1, rfl⟩
              have hb3 := hb0to hb (extB_below wr x1)
              clear x0 x2 e1 e2
              go_wp2
              go_ret
              exact ⟨by rw [ckH_no (by simp [validH, allTo_bad HX.out hno.out])]; rfl, hb3⟩
            · have hyes : Hid (partOK h.ks.length x = true) := Lib.hid (by rw [partOK, h1, h2]; rfl)
              go_wp2
              refine wp_region_extW (by kernel_rfl) (by kernel_rfl) ?_
              repeat (go_big_quiet_step ((go_at_call 48; exact ext_same (within_any _ _ _ _))))
              refine wpQuiet_nil ?_
              rintro _ ⟨x1, rfl⟩
              have hb2 := extB_below wr x1
              clear x0 x2 e1 e2
              go_wp2
              go_roundw
              case rel => exact ⟨k + 1, by omega, by go_num, Lib.hid (allTo_step hok.out HX.out hyes.out), hb0to hb hb2, hB.of (hb2.block _ hB.lt)⟩
              case measure => simp [intOf]; omega
        · obtain rfl : k = h.ps.length := by omega
          have hpall : Hid (h.ps.all (partOK h.ks.length) = true) := Lib.hid (allTo_good hok.out)
          clear hok hlt hk
          go_wp2
          clear g0 g1 g2 g3
          obtain ⟨wo, rfl⟩ : ∃ wo : World, wo = wr := ⟨_, rfl⟩
          go_loopw [5] (fun i wr => ∃ k : Nat, k ≤ h.bs.length ∧ i = .int .i64 k ∧ Hid (∀ (j : Nat) (x : Int), j < k → h.bs[j]? = some x → inR x 0 99 = true) ∧ Below w.heap.size w wr ∧ HBox wr w.heap.size ⟨Ak, ck, Ap, cp, Ab, cb⟩ h) (fun i _ => h.bs.length - (intOf i).toNat)
          case atStart => exact ⟨0, Nat.zero_le _, rfl, Lib.hid (fun j x hj => by omega), hb, hB⟩
          case round =>
            clear hb hB hsz
            obtain ⟨k, hk, rfl, hok, hb, hB⟩ := hrel
            have hsz := hb.size
            obtain ⟨g0, g1, g2, g3⟩ := hB.cells
            by_cases hlt : k < h.bs.length
            · obtain ⟨x, hx⟩ : ∃ x, h.bs[k]? = some x := ⟨_, List.getElem?_eq_getElem hlt⟩
              obtain ⟨bk, ok, rfl, hbk, d1⟩ := HH.out.b.at_ hx
              have e1 := below_cell hb d1
              have HX := Lib.hid hx
              clear hx d1
              cases h1 : inR x 0 99
              · have hno : Hid ((h.bs.all fun b => inR b 0 99) = false) := Lib.hid (by rw [List.all_eq_false]; exact ⟨x, List.mem_of_getElem? HX.out, by simp [h1]⟩)
                go_wp2_with (go_at_call 48; refine (within_any _ _ _ _).mono ?_; rintro e w' ⟨rfl, rfl⟩)
                go_ret
                exact ⟨by rw [ckH_no (by rw [validH_parts HV.out hkall.out hpall.out]; exact hno.out)]; rfl, hb⟩
              · have H1 := Lib.hid h1
                go_wp2_with (go_at_call 48; refine (within_any _ _ _ _).mono ?_; rintro e w' ⟨rfl, rfl⟩)
                go_roundw
                case rel => exact ⟨k + 1, by omega, by go_num, Lib.hid (fun j y hj hy => by by_cases e : j = k; subst e; rw [HX.out] at hy; cases hy; exact H1.out; exact hok.out j y (by omega) hy), hb, hB⟩
                case measure => simp [intOf]; omega
            · obtain rfl : k = h.bs.length := by omega
              have hball : Hid ((h.bs.all fun b => inR b 0 99) = true) := Lib.hid (by
                rw [List.all_eq_true]
                intro x hx
                obtain ⟨j, hj⟩ := List.getElem?_of_mem hx
                exact hok.out j x (List.getElem?_eq_some_iff.1 hj).1 hj)
              go_wp2
              go_ret
              exact ⟨by rw [ckH_yes (by rw [validH_parts HV.out hkall.out hpall.out]; exact hball.out)]; rfl, hb⟩
theorem rcheck_any (L : HL) (h : House) (hn : h.ks.length ≤ 1000 ∧ h.ps.length ≤ 1000 ∧ h.bs.length ≤ 1000) (w : World) (hH : HouseAt w w.heap.size L h) :
    Calls Tryz.prog 26 #[L.enc h] w fun e w' => e = .returned (.int .i64 (ckH h)) ∧ Below w.heap.size w w' := by
  cases hv : bigOK h
  · exact rcheck_no L h hn hv w
  · exact rcheck_yes L h hv w hH
end Go.Proofs.YtmbcpmnigggbaabGreat
namespace Go.Proofs.YtmbcpmnigggbaabGreat
open Go.RowKit
set_option maxRecDepth 100000 in
set_option maxHeartbeats 4000000 in
theorem rising_any (l : List Int) (hl : l.length ≤ 1000) (n : Int) (A : Option Addr) (c : Nat) (w : World) (hI : IntsAt w w.heap.size A l) :
    Calls Tryz.prog 19 #[.slice A l.length c, .int .i64 0, .int .i64 (n - 1)] w fun e w' => e = .returned (.bool (riseB l n)) ∧ Below w.heap.size w w' := by
  have HI := Lib.hid hI
  clear hI
  go_enter Tryz.func19, Tryz.ntmps19
  go_wp2
  go_loopw [7] (fun i wr => ∃ k : Nat, k ≤ l.length ∧ i = .int .i64 k ∧ Hid (∀ j, j < k → riseOK l n j = true) ∧ Below w.heap.size w wr) (fun i _ => l.length - (intOf i).toNat)
  case atStart => exact ⟨0, Nat.zero_le _, rfl, Lib.hid (fun j hj => by omega), Below.refl _ _⟩
  case round =>
    obtain ⟨k, hk', rfl, hok, hb⟩ := hrel
    have hsz := hb.size
    by_cases hlt : k < l.length
    · obtain ⟨x, hx⟩ : ∃ x, l[k]? = some x := ⟨_, List.getElem?_eq_getElem hlt⟩
      have hgx : l.getD k 0 = x := by simp [List.getD, hx]
      have hI := HI.out
      obtain ⟨b1, o1, rfl, b1lt, d1⟩ := HI.out.at_ hx
      have e1 := extB_cell (below_cell hb d1)
      have hki : (k : Int) < l.length := by omega
      have hk0' : (0 : Int) ≤ (k : Int) := by omega
      cases hr : inR x 0 (n - 1)
      · have hno : Hid (riseOK l n k = false) := Lib.hid (by rw [riseOK, hgx, hr]; rfl)
        clear hx hgx hI d1
        go_wp2
        refine wp_region_extW (by kernel_rfl) (by kernel_rfl) ?_
        repeat (go_big_quiet_step ((go_at_call 41; exact ext_same (within1_any _ _ _ _))))
        refine wpQuiet_nil ?_
        rintro _ ⟨x1, rfl⟩
        have hb3 := hb0to hb (extB_below wr x1)
        clear e1
        go_wp2
        go_ret
        exact ⟨by rw [riseB_no hlt hno.out]; rfl, hb3⟩
      · rcases Nat.eq_zero_or_pos k with rfl | hk0
        · have hyes : Hid (riseOK l n 0 = true) := Lib.hid (by rw [riseOK, hgx, hr]; rfl)
          simp only [Nat.add_zero] at e1
          clear hx hgx hI d1
          go_wp2
          refine wp_region_extW (by kernel_rfl) (by kernel_rfl) ?_
          repeat (go_big_quiet_step ((go_at_call 41; exact ext_same (within1_any _ _ _ _))))
          refine wpQuiet_nil ?_
          rintro _ ⟨x1, rfl⟩
          have hb3 := hb0to hb (extB_below wr x1)
          clear e1
          go_wp2
          go_roundw
          case rel => exact ⟨1, by omega, by go_num, Lib.hid (fun j hj => by obtain rfl : j = 0 := (by omega); exact hyes.out), hb3⟩
          case measure => simp [intOf]; omega
        · obtain ⟨y, hy⟩ : ∃ y, l[k - 1]? = some y := ⟨_, List.getElem?_eq_getElem (by omega)⟩
          have hgy : l.getD (k - 1) 0 = y := by simp [List.getD, hy]
          obtain ⟨b1', o1', e', _, d2⟩ := hI.at_ hy
          cases e'
          have hd0 : decide (0 < k) = true := by simp; omega
          have ht3 : (1 : Int) ≤ (k : Int) := by omega
          have ht2 : (0 : Int) ≤ (k : Int) - 1 := by omega
          have ht4 : (k : Int) - 1 < l.length := by omega
          have ec : IntKind.i64.wrap ((k : Int) - 1) = ((k - 1 : Nat) : Int) := by rw [IntWalk.i64_in _ (by omega)]; omega
          have e2 := extB_cell (below_cell hb d2)
          have hk1 : ((k - 1 : Nat) : Int) < l.length := by omega
          have hk2 : k - 1 < l.length := by omega
          by_cases hxy : x ≤ y
          · have hdx : decide (x ≤ y) = true := by simpa using hxy
            have hno : Hid (riseOK l n k = false) := Lib.hid (by rw [riseOK, hgx, hgy, hr]; simp; omega)
            clear hx hgx hy hgy hI d1 d2
            go_wp2
            refine wp_region_extW (by kernel_rfl) (by kernel_rfl) ?_
            repeat (go_big_quiet_step ((go_at_call 41; exact ext_same (within1_any _ _ _ _))))
            refine wpQuiet_nil ?_
            rintro _ ⟨x1, rfl⟩
            have hb3 := hb0to hb (extB_below wr x1)
            clear e1 e2
            go_wp2
            go_ret
            exact ⟨by rw [riseB_no hlt hno.out]; rfl, hb3⟩
          · have hdx : decide (x ≤ y) = false := by simpa using hxy
            have hyes : Hid (riseOK l n k = true) := Lib.hid (by rw [riseOK, hgx, hgy, hr]; simp; omega)
            clear hx hgx hy hgy hI d1 d2
            go_wp2
            refine wp_region_extW (by kernel_rfl) (by kernel_rfl) ?_
            repeat (go_big_quiet_step ((go_at_call 41; exact ext_same (within1_any _ _ _ _))))
            refine wpQuiet_nil ?_
            rintro _ ⟨x1, rfl⟩
            have hb3 := hb0to hb (extB_below wr x1)
            clear e1 e2
            go_wp2
            go_roundw
            case rel => exact ⟨k + 1, by omega, by go_num, Lib.hid (fun j hj => by by_cases e : j = k; exact e ▸ hyes.out; exact hok.out j (by omega)), hb3⟩
            case measure => simp [intOf]; omega
    · obtain rfl : k = l.length := by omega
      have hrise := riseB_yes hok.out
      have HR := Lib.hid hrise
      clear hrise
      go_wp2
      go_ret
      exact ⟨by rw [HR.out]; rfl, hb⟩
theorem all_range {pack : List Int} {nb : Nat} (h : pack.all (fun b => inR b 0 ((nb : Int) - 1)) = true) : InRange 0 nb pack := fun x hx => by
  have := inR_true.1 (List.all_eq_true.1 h x hx)
  omega
theorem goodB_parts {h : House} {pack : List Int} (hg : goodB h pack = true) : pack.length = h.ps.length ∧ InRange 0 h.bs.length pack ∧ fitsC h (packedC h pack) = true := by
  simp only [goodB, Bool.and_eq_true, decide_eq_true_eq] at hg
  exact ⟨hg.1, all_range hg.2.1, hg.2.2⟩
theorem goodB_eq {h : House} (hv : HOK h) {pack : List Int} (hl : pack.length = h.ps.length) (hr : pack.all (fun b => inR b 0 ((h.bs.length : Int) - 1)) = true) : goodB h pack = fitsR h pack := by
  rw [goodB, hr, decide_eq_true hl, fits_packed hv hl ((all_range hr).low (by omega)) (by have := hv.bl; omega)]
  rfl
set_option maxRecDepth 100000 in
set_option maxHeartbeats 4000000 in
theorem isPacking_any (L : HL) (h : House) (hv : HOK h) (pack : List Int) (hl : pack.length ≤ 1000) (A : Option Addr) (c : Nat) (w : World) (hH : HouseAt w w.heap.size L h) (hI : IntsAt w w.heap.size A pack) :
    Calls Tryz.prog 27 #[L.enc h, .slice A pack.length c] w fun e w' => e = .returned (.bool (goodB h pack)) ∧ Below w.heap.size w w' := by
  have HH := Lib.hid hH
  have HI := Lib.hid hI
  have HV := Lib.hid hv
  have hpl6 := hv.pl
  have hbl4 := hv.bl
  clear hH hI hv
  by_cases hlen : pack.length = h.ps.length
  · have hd : ((pack.length : Int) != (h.ps.length : Int)) = false := by simp; omega
    have HLEN := Lib.hid hlen
    clear hlen
    go_enter Tryz.func27, Tryz.ntmps27
    go_wp2
    go_loopw [5] (fun i wr => ∃ k : Nat, k ≤ pack.length ∧ i = .int .i64 k ∧ Hid (∀ (j : Nat) (x : Int), j < k → pack[j]? = some x → inR x 0 (h.bs.length - 1) = true) ∧ Below w.heap.size w wr ∧ HBox wr w.heap.size L h) (fun i _ => pack.length - (intOf i).toNat)
    case atStart => exact ⟨0, Nat.zero_le _, rfl, Lib.hid (fun j x hj => by omega), (Below.refl _ _).alloc (Nat.le_refl _) _, HBox.new w L h⟩
    case round =>
      obtain ⟨k, hk, rfl, hok, hb, hB⟩ := hrel
      have hsz := hb.size
      obtain ⟨g0, g1, g2, g3⟩ := hB.cells
      by_cases hlt : k < pack.length
      · obtain ⟨x, hx⟩ : ∃ x, pack[k]? = some x := ⟨_, List.getElem?_eq_getElem hlt⟩
        obtain ⟨b1, o1, rfl, b1lt, d1⟩ := HI.out.at_ hx
        have e5 := extB_cell (below_cell hb d1)
        have e0 := extB_cell g0
        have e1 := extB_cell g1
        have e2 := extB_cell g2
        have e3 := extB_cell g3
        have hki : (k : Int) < pack.length := by omega
        have hk0 : (0 : Int) ≤ (k : Int) := by omega
        have HX := Lib.hid hx
        clear hx d1
        cases hr : inR x 0 (h.bs.length - 1)
        · have hno : Hid ((pack.all fun b => inR b 0 (h.bs.length - 1)) = false) := Lib.hid (by rw [List.all_eq_false]; exact ⟨x, List.mem_of_getElem? HX.out, by simp [hr]⟩)
          go_wp2
          refine wp_region_extW (by kernel_rfl) (by kernel_rfl) ?_
          repeat (go_big_quiet_step ((go_at_call 49; exact ext_call (rIsBarrel_any L h _ _ (by omega)))))
          refine wpQuiet_nil ?_
          rintro _ ⟨x1, rfl⟩
          have hb3 := hb0to hb (extB_below wr x1)
          clear e0 e1 e2 e3 e5
          go_wp2
          go_ret
          exact ⟨by rw [goodB, hno.out]; simp, hb3⟩
        · have HR := Lib.hid hr
          go_wp2
          refine wp_region_extW (by kernel_rfl) (by kernel_rfl) ?_
          repeat (go_big_quiet_step ((go_at_call 49; exact ext_call (rIsBarrel_any L h _ _ (by omega)))))
          refine wpQuiet_nil ?_
          rintro _ ⟨x1, rfl⟩
          have hb2 := extB_below wr x1
          clear e0 e1 e2 e3 e5
          go_wp2
          go_roundw
          case rel => exact ⟨k + 1, by omega, by go_num, Lib.hid (fun j y hj hy => by by_cases e : j = k; subst e; rw [HX.out] at hy; cases hy; exact HR.out; exact hok.out j y (by omega) hy), hb0to hb hb2, hB.of (hb2.block _ hB.lt)⟩
          case measure => simp [intOf]; omega
      · obtain rfl : k = pack.length := by omega
        have hall : (pack.all fun b => inR b 0 (h.bs.length - 1)) = true := by
          rw [List.all_eq_true]
          intro x hx
          obtain ⟨j, hj⟩ := List.getElem?_of_mem hx
          exact hok.out j x (List.getElem?_eq_some_iff.1 hj).1 hj
        have HG := Lib.hid (goodB_eq HV.out HLEN.out hall)
        clear hall hok
        go_wp2_with (go_at_call 50; refine (rfits_any L h HV.out pack (Nat.le_of_eq HLEN.out) A c _ (HH.out.below hb) (ints_later HI.out hb)).mono ?_; rintro e w3 ⟨rfl, hb3⟩)
        go_ret
        exact ⟨by rw [HG.out]; rfl, hb0to hb hb3⟩
  · have hd : ((pack.length : Int) != (h.ps.length : Int)) = true := by simp; omega
    have HLEN := Lib.hid hlen
    clear hlen
    go_enter Tryz.func27, Tryz.ntmps27
    go_wp2
    go_ret
    exact ⟨by rw [goodB, decide_eq_false HLEN.out]; rfl, (Below.refl _ _).alloc (Nat.le_refl _) _⟩
end Go.Proofs.YtmbcpmnigggbaabGreat
namespace Go.Proofs.YtmbcpmnigggbaabGreat
open Go.RowKit
theorem hbox_other {W : World} {B b o : Nat} {L : HL} {h : House} {u : Value} (hb : HBox W B L h) (hne : B ≠ b) : HBox (W.setCell ⟨b, o, none⟩ u) B L h := hb.of (((KpB.refl (fun k => k = b) W.heap.size W).set o u (.inl rfl)).block B hb.lt hne)
/-! Copies of a house. -/
structure HLOK (L : HL) (h : House) : Prop where
  k : L.Ak = none → L.ck = 0 ∧ h.ks = []
  p : L.Ap = none → L.cp = 0 ∧ h.ps = []
  b : L.Ab = none → L.cb = 0 ∧ h.bs = []
/-- The slices of a house are the call's own, each in a block of its own. -/
structure Copied (W : World) (n0 n1 n2 : Nat) (L : HL) (h : House) : Prop where
  k : OwnsP W 66 n0 (.slice L.Ak h.ks.length L.ck) h.ks
  k1 : ∀ g, (Value.slice L.Ak h.ks.length L.ck).ownBlock = some g → g < n1
  p : OwnsP W 68 n1 (.slice L.Ap h.ps.length L.cp) h.ps
  p1 : ∀ g, (Value.slice L.Ap h.ps.length L.cp).ownBlock = some g → g < n2
  b : Ints W n2 (.slice L.Ab h.bs.length L.cb) h.bs
  n01 : n0 ≤ n1
  n12 : n1 ≤ n2
theorem ownsP_at {W : World} {t : TypeId} {base : Nat} {A : Option Addr} {n c : Nat} {ns : List (Int × Int)} (h : OwnsP W t base (.slice A n c) ns) : PairsAt W W.heap.size A ns ∧ (A = none → c = 0 ∧ ns = []) := by
  obtain ⟨A', c', e, h1, h2⟩ := h.lay
  cases e
  exact ⟨h2, h1⟩
theorem ints_at {W : World} {base : Nat} {A : Option Addr} {n c : Nat} {l : List Int} (h : Ints W base (.slice A n c) l) : IntsIn W base W.heap.size A l ∧ (A = none → c = 0 ∧ l = []) ∧ l.length ≤ c := by
  obtain ⟨A', c', e, h1, h2, h3⟩ := h.lay
  cases e
  exact ⟨h3, h1, h2⟩
theorem Copied.house {W : World} {n0 n1 n2 : Nat} {L : HL} {h : House} (H : Copied W n0 n1 n2 L h) : HouseAt W W.heap.size L h := ⟨(ownsP_at H.k).1, (ownsP_at H.p).1, (ints_at H.b).1.at_⟩
theorem Copied.ok {W : World} {n0 n1 n2 : Nat} {L : HL} {h : House} (H : Copied W n0 n1 n2 L h) : HLOK L h := ⟨(ownsP_at H.k).2, (ownsP_at H.p).2, (ints_at H.b).2.1⟩
theorem Copied.cap {W : World} {n0 n1 n2 : Nat} {L : HL} {h : House} (H : Copied W n0 n1 n2 L h) : h.bs.length ≤ L.cb ∧ (L.Ab = none → L.cb = 0) := ⟨(ints_at H.b).2.2, fun e => ((ints_at H.b).2.1 e).1⟩
theorem Copied.below {W W' : World} {n0 n1 n2 : Nat} {L : HL} {h : House} (H : Copied W n0 n1 n2 L h) (hb : Below W.heap.size W W') : Copied W' n0 n1 n2 L h :=
  ⟨H.k.below_ hb (Nat.le_refl _), H.k1, H.p.below_ hb (Nat.le_refl _), H.p1, H.b.below_ hb (Nat.le_refl _), H.n01, H.n12⟩
theorem info88 : (Tryz.prog.info? 66).map (fun i => (i.zero, i.size, i.bytes)) = some (some (.agg #[.int .i64 0, .int .i64 0]), 2, 16) := by kernel_rfl
theorem info38 : (Tryz.prog.info? 68).map (fun i => (i.zero, i.size, i.bytes)) = some (some (.agg #[.int .i64 0, .int .i64 0]), 2, 16) := by kernel_rfl
/-- Copy's memory. -/
structure CpSt (W : World) (s : Nat) (L : HL) (h : House) (a b c : Value) : Prop where
  x : HBox W s L h
  y : W.heap[s + 1]? = some (.cells #[.slice none 0 0, .int .i64 0, .slice none 0 0, .slice none 0 0] 38 (0, 0))
  z : W.heap[s + 1 + 1]? = some (.cells #[a, .int .i64 h.fl, b, c] 38 (0, 0))
theorem CpSt.kp {W W' : World} {s : Nat} {L : HL} {h : House} {a b c : Value} (H : CpSt W s L h a b c) {n : Nat} (hb : Below n W W') (hn : s + 3 ≤ n) : CpSt W' s L h a b c :=
  ⟨H.x.of (hb.block _ (by omega)), (hb.block _ (by omega)).trans H.y, (hb.block _ (by omega)).trans H.z⟩
theorem CpSt.zc {W : World} {s : Nat} {L : HL} {h : House} {a b c : Value} (H : CpSt W s L h a b c) : W.cell? ⟨s + 1 + 1, 0, none⟩ = some a ∧ W.cell? ⟨s + 1 + 1, 1, none⟩ = some (.int .i64 h.fl) ∧ W.cell? ⟨s + 1 + 1, 2, none⟩ = some b ∧ W.cell? ⟨s + 1 + 1, 3, none⟩ = some c := by
  simp [World.cell?, H.z]
theorem CpSt.fz {W : World} {s : Nat} {L : HL} {h : House} {a b c : Value} (H : CpSt W s L h a b c) : ∀ o, W.frozen? ⟨s + 1 + 1, o, none⟩ = false := fun o => by simp [World.frozen?, H.z]
theorem CpSt.yc {W : World} {s : Nat} {L : HL} {h : House} {a b c : Value} (H : CpSt W s L h a b c) : W.cell? ⟨s + 1, 0, none⟩ = some (.slice none 0 0) ∧ W.cell? ⟨s + 1, 1, none⟩ = some (.int .i64 0) ∧ W.cell? ⟨s + 1, 2, none⟩ = some (.slice none 0 0) ∧ W.cell? ⟨s + 1, 3, none⟩ = some (.slice none 0 0) := by
  simp [World.cell?, H.y]
theorem CpSt.fy {W : World} {s : Nat} {L : HL} {h : House} {a b c : Value} (H : CpSt W s L h a b c) : ∀ o, W.frozen? ⟨s + 1, o, none⟩ = false := fun o => by simp [World.frozen?, H.y]
theorem CpSt.lt {W : World} {s : Nat} {L : HL} {h : House} {a b c : Value} (H : CpSt W s L h a b c) : s + 3 ≤ W.heap.size := by have := heap_lt H.z; omega
theorem CpSt.set {W : World} {s : Nat} {L : HL} {h : House} {a b c : Value} (H : CpSt W s L h a b c) (o : Nat) (v : Value) : HBox (W.setCell ⟨s + 1 + 1, o, none⟩ v) s L h ∧ (W.setCell ⟨s + 1 + 1, o, none⟩ v).heap[s + 1]? = some (.cells #[.slice none 0 0, .int .i64 0, .slice none 0 0, .slice none 0 0] 38 (0, 0)) ∧
    (W.setCell ⟨s + 1 + 1, o, none⟩ v).heap[s + 1 + 1]? = some (.cells (#[a, .int .i64 h.fl, b, c].setIfInBounds o v) 38 (0, 0)) :=
  ⟨hbox_other H.x (by omega), (((KpB.refl (fun k => k = s + 1 + 1) W.heap.size W).set o v (.inl rfl)).block _ (heap_lt H.y) (by omega)).trans H.y, heap_set v H.z⟩
theorem CpSt.set0 {W : World} {s : Nat} {L : HL} {h : House} {a b c : Value} (H : CpSt W s L h a b c) (v : Value) : CpSt (W.setCell ⟨s + 1 + 1, 0, none⟩ v) s L h v b c := by obtain ⟨h1, h2, h3⟩ := H.set 0 v; exact ⟨h1, h2, h3⟩
theorem CpSt.set2 {W : World} {s : Nat} {L : HL} {h : House} {a b c : Value} (H : CpSt W s L h a b c) (v : Value) : CpSt (W.setCell ⟨s + 1 + 1, 2, none⟩ v) s L h a v c := by obtain ⟨h1, h2, h3⟩ := H.set 2 v; exact ⟨h1, h2, h3⟩
theorem CpSt.set3 {W : World} {s : Nat} {L : HL} {h : House} {a b c : Value} (H : CpSt W s L h a b c) (v : Value) : CpSt (W.setCell ⟨s + 1 + 1, 3, none⟩ v) s L h a b v := by obtain ⟨h1, h2, h3⟩ := H.set 3 v; exact ⟨h1, h2, h3⟩
theorem CpSt.new (w : World) (L : HL) (h : House) : CpSt (((w.alloc (.cells #[.slice L.Ak h.ks.length L.ck, .int .i64 h.fl, .slice L.Ap h.ps.length L.cp, .slice L.Ab h.bs.length L.cb] 38)).alloc (.cells #[.slice none 0 0, .int .i64 0, .slice none 0 0, .slice none 0 0] 38)).alloc (.cells #[.slice L.Ak h.ks.length L.ck, .int .i64 h.fl, .slice L.Ap h.ps.length L.cp, .slice L.Ab h.bs.length L.cb] 38)) w.heap.size L h (.slice L.Ak h.ks.length L.ck) (.slice L.Ap h.ps.length L.cp) (.slice L.Ab h.bs.length L.cb) := by
  have c0 := HBox.new w L h
  have c1 := World.alloc_heap_new (w.alloc (.cells #[.slice L.Ak h.ks.length L.ck, .int .i64 h.fl, .slice L.Ap h.ps.length L.cp, .slice L.Ab h.bs.length L.cb] 38)) (.cells #[.slice none 0 0, .int .i64 0, .slice none 0 0, .slice none 0 0] 38)
  have c2 := World.alloc_heap_new ((w.alloc (.cells #[.slice L.Ak h.ks.length L.ck, .int .i64 h.fl, .slice L.Ap h.ps.length L.cp, .slice L.Ab h.bs.length L.cb] 38)).alloc (.cells #[.slice none 0 0, .int .i64 0, .slice none 0 0, .slice none 0 0] 38)) (.cells #[.slice L.Ak h.ks.length L.ck, .int .i64 h.fl, .slice L.Ap h.ps.length L.cp, .slice L.Ab h.bs.length L.cb] 38)
  simp only [World.size_alloc] at c1 c2
  exact ⟨(c0.of (Below.heap_alloc _ _ _ (by simp))).of (Below.heap_alloc _ _ _ (by simp; omega)), (Below.heap_alloc _ _ _ (by simp)).trans c1, c2⟩
def CopyRet (h : House) (B : Nat) (w' : World) (e : Ending) : Prop := ∃ L n1 n2, e = .returned (HL.enc L h) ∧ Copied w' B n1 n2 L h
theorem OwnsP.set_other {W : World} {t : TypeId} {base s o : Nat} {u v : Value} {l : List (Int × Int)} (h : OwnsP W t base v l) (hs : s < base) : OwnsP (W.setCell ⟨s, o, none⟩ u) t base v l := by
  refine ⟨h.1, ?_⟩
  rcases h.2 with h2 | ⟨g, cap, cur, e, hb2, hg, h4⟩
  · exact .inl h2
  · exact .inr ⟨g, cap, cur, e, hb2, (((KpB.refl (fun k => k = s) W.heap.size W).set o u (.inl rfl)).block g (heap_lt hg) (by omega)).trans hg, h4⟩
theorem Ints.set_other {W : World} {base s o : Nat} {u v : Value} {l : List Int} (h : Ints W base v l) (hs : s < base) : Ints (W.setCell ⟨s, o, none⟩ u) base v l := by
  refine ⟨h.1, ?_⟩
  rcases h.2 with h2 | ⟨g, cap, cur, e, hb2, hg, h4⟩
  · exact .inl h2
  · exact .inr ⟨g, cap, cur, e, hb2, (((KpB.refl (fun k => k = s) W.heap.size W).set o u (.inl rfl)).block g (heap_lt hg) (by omega)).trans hg, h4⟩
theorem OwnsP.alloc {W : World} {t : TypeId} {base : Nat} {v : Value} {l : List (Int × Int)} (h : OwnsP W t base v l) (o : Obj) : OwnsP (W.alloc o) t base v l := World.ownsRow.alloc h o
theorem OwnsP.mono {W : World} {t : TypeId} {base base' : Nat} {v : Value} {l : List (Int × Int)} (h : OwnsP W t base v l) (hb : base' ≤ base) : OwnsP W t base' v l := by
  refine ⟨h.1, ?_⟩
  rcases h.2 with h2 | ⟨g, cap, cur, e, hb2, h4⟩
  · exact .inl h2
  · exact .inr ⟨g, cap, cur, e, Nat.le_trans hb hb2, h4⟩
theorem ownP_lt {W : World} {t : TypeId} {base : Nat} {v : Value} {l : List (Int × Int)} (h : OwnsP W t base v l) : ∀ g, v.ownBlock = some g → g < W.heap.size := fun g hg => (World.ownsRow.lt h g hg).2
theorem CpSt.al {W : World} {s : Nat} {L : HL} {h : House} {a b c : Value} (H : CpSt W s L h a b c) (o : Obj) : CpSt (W.alloc o) s L h a b c := H.kp (Below.alloc (Below.refl W.heap.size W) (Nat.le_refl _) o) H.lt
theorem ownsP_madeS (w : World) (a : Addr) (u : Value) (t : TypeId) : OwnsP ((w.setCell a u).alloc (.cells #[] t)) t w.heap.size (.slice (some ⟨w.heap.size, 0, none⟩) 0 0) [] := by
  have := ownsP_made (w.setCell a u) t w.heap.size (by simp)
  rwa [World.size_setCell] at this
theorem ints_madeS (w : World) (a : Addr) (u : Value) : Ints ((w.setCell a u).alloc (.cells #[] 3)) w.heap.size (.slice (some ⟨w.heap.size, 0, none⟩) 0 0) [] := by
  have := ints_made (w.setCell a u) w.heap.size (by simp)
  rwa [World.size_setCell] at this
theorem below_sal (w : World) (a : Addr) (u : Value) (o : Obj) : Below w.heap.size (w.setCell a u) ((w.setCell a u).alloc o) := (Below.refl _ _).alloc (by simp) _
theorem load26 {W : World} {b : Nat} {x y z u : Value} (h0 : W.cell? ⟨b, 0, none⟩ = some x) (h1 : W.cell? ⟨b, 1, none⟩ = some y) (h2 : W.cell? ⟨b, 2, none⟩ = some z) (h3 : W.cell? ⟨b, 3, none⟩ = some u) :
    (Instr.loadAt 38 (.pointer (some ⟨b, 0, none⟩))).run Tryz.prog W = .ok (.agg #[x, y, z, u]) W := by
  simp [go_sem, Instr.loadAt, Instr.sureAddr, *]
/-- The box of the result is written, cell by cell. -/
theorem cp_store {W : World} {s : Nat} {L : HL} {h : House} {a b c : Value} (H : CpSt W s L h a b c) (x y z u : Value) :
    (Instr.loadAt 38 (.pointer (some ⟨s + 1, 0, none⟩))).run Tryz.prog ((((W.setCell ⟨s + 1, 0, none⟩ x).setCell ⟨s + 1, 1, none⟩ y).setCell ⟨s + 1, 2, none⟩ z).setCell ⟨s + 1, 3, none⟩ u) = .ok (.agg #[x, y, z, u]) ((((W.setCell ⟨s + 1, 0, none⟩ x).setCell ⟨s + 1, 1, none⟩ y).setCell ⟨s + 1, 2, none⟩ z).setCell ⟨s + 1, 3, none⟩ u) := by
  have e := heap_set u (o := 3) (heap_set z (o := 2) (heap_set y (o := 1) (heap_set x (o := 0) H.y)))
  refine load26 ?_ ?_ ?_ ?_ <;> simp [World.cell?, e]
theorem set_any {Q : World → Prop} {s : Nat} (hQ : ∀ W o u, Q W → Q (W.setCell ⟨s, o, none⟩ u)) {W : World} (h : Q W) (x y z u : Value) : Q ((((W.setCell ⟨s, 0, none⟩ x).setCell ⟨s, 1, none⟩ y).setCell ⟨s, 2, none⟩ z).setCell ⟨s, 3, none⟩ u) :=
  hQ _ _ _ (hQ _ _ _ (hQ _ _ _ (hQ _ _ _ h)))
set_option maxRecDepth 100000 in
set_option maxHeartbeats 4000000 in
theorem copy_any (L : HL) (h : House) (hn : h.ks.length ≤ 1000 ∧ h.ps.length ≤ 1000 ∧ h.bs.length ≤ 1000) (hok : HLOK L h) (w : World) (hH : HouseAt w w.heap.size L h) :
    Calls Tryz.prog 86 #[L.enc h] w fun e w' => CopyRet h w.heap.size w' e ∧ Below w.heap.size w w' := by
  have hb0 : Below w.heap.size w (((w.alloc (.cells #[.slice L.Ak h.ks.length L.ck, .int .i64 h.fl, .slice L.Ap h.ps.length L.cp, .slice L.Ab h.bs.length L.cb] 38)).alloc (.cells #[.slice none 0 0, .int .i64 0, .slice none 0 0, .slice none 0 0] 38)).alloc (.cells #[.slice L.Ak h.ks.length L.ck, .int .i64 h.fl, .slice L.Ap h.ps.length L.cp, .slice L.Ab h.bs.length L.cb] 38)) :=
    (((Below.refl _ _).alloc (Nat.le_refl _) _).alloc (by simp) _).alloc (by simp; omega) _
  have HS := Lib.hid (CpSt.new w L h)
  obtain ⟨n1, n2, n3⟩ := hn
  obtain ⟨ik, hik, k0, k1, k2⟩ := info_parts info88
  obtain ⟨ip, hip, p0, p1, p2⟩ := info_parts info38
  have HI := Lib.hid (And.intro hik (And.intro k0 (And.intro k1 (And.intro k2 (And.intro hip (And.intro p0 (And.intro p1 p2)))))))
  have HOK' := Lib.hid hok
  have HH := Lib.hid hH
  have HB0 := Lib.hid hb0
  obtain ⟨W0, hW0⟩ : ∃ W0, W0 = ((w.alloc (.cells #[.slice L.Ak h.ks.length L.ck, .int .i64 h.fl, .slice L.Ap h.ps.length L.cp, .slice L.Ab h.bs.length L.cb] 38)).alloc (.cells #[.slice none 0 0, .int .i64 0, .slice none 0 0, .slice none 0 0] 38)).alloc (.cells #[.slice L.Ak h.ks.length L.ck, .int .i64 h.fl, .slice L.Ap h.ps.length L.cp, .slice L.Ab h.bs.length L.cb] 38) := ⟨_, rfl⟩
  rw [← hW0] at HS HB0
  have HW0 := Lib.hid hW0
  clear hok hH hb0 hik k0 k1 k2 hip p0 p1 p2 hW0
  go_enter Tryz.func86, Tryz.ntmps86
  go_upto_region 2 with (fail)
  have e := HW0.out
  rw [← e]
  clear e
  have HN := Lib.hid (HH.out.below (HB0.out))
  have Z0 : w.heap.size + 3 ≤ W0.heap.size := HS.out.lt
  have xc := HS.out.x.cells
  have xd := (HS.out.al (.cells #[] 66)).x.cells
  go_wp2_with (first
    | (at_builtin; have hg3 := HS2.out.x; go_must (refine wpl_copyI rfl (.tmp 15) (.tmp 17) rfl w2.heap.size _ [] rfl (ints_madeS w2 _ _) L.Ab L.cb h.bs HOK'.out.b rfl (HH.out.below (HB2'.out.alloc (by have := HB2'.out.size; omega) (.cells #[] 3))).b (by simp) n3 (by simp) ?_; intro v3 w3 own3 hb3; have hc3 := Below.trans (below_sal w2 _ _ _) hb3; have S3 := HS2.out.kp hc3 Z2; have zf3 := S3.fz; have zw3 := S3.zc; have yf3 := S3.fy; have yw3 := S3.yc; have HB3 := Lib.hid (HB2'.out.trans (hc3.mono HB2.out.size)); rw [List.nil_append] at own3; obtain ⟨A3, c3, rfl, oA3, pA3⟩ := own3.lay; have HO13 := Lib.hid ((HO12.out.set_other (s := w.heap.size + 1 + 1) (o := 2) (u := .slice A2 h.ps.length c2) (by omega)).below_ hc3 (by simp)); have HO23 := Lib.hid ((HO2.out.set_other (s := w.heap.size + 1 + 1) (o := 2) (u := .slice A2 h.ps.length c2) (by omega)).below_ hc3 (by simp)); have HO3 := Lib.hid own3; have HS3 := Lib.hid (S3.set3 (.slice A3 h.bs.length c3)); have HB3' := Lib.hid (HB3.out.setCell (p := ⟨w.heap.size + 1 + 1, 3, none⟩) (by show w.heap.size ≤ w.heap.size + 1 + 1; omega) (.slice A3 h.bs.length c3)); have Z3 : w.heap.size + 3 ≤ w3.heap.size := S3.lt; clear own3 hb3 hc3 S3 oA3 pA3))
    | (at_builtin; have hg2 := HS1.out.x; go_must (refine wpl_copyP2 rfl (.tmp 10) (.tmp 12) 36 68 Tryz.underlying36 HI.out.2.2.2.2.1 HI.out.2.2.2.2.2.1 HI.out.2.2.2.2.2.2.1 HI.out.2.2.2.2.2.2.2 rfl w1.heap.size _ [] rfl (ownsP_madeS w1 _ _ 68) L.Ap L.cp h.ps HOK'.out.p rfl (HH.out.below (HB1'.out.alloc (by have := HB1'.out.size; omega) (.cells #[] 68))).p (by simp) n2 (by simp) ?_; intro v2 w2 own2 hb2; have hc2 := Below.trans (below_sal w1 _ _ _) hb2; have S2 := HS1.out.kp hc2 Z1; have zf2 := S2.fz; have zw2 := S2.zc; have HB2 := Lib.hid (HB1'.out.trans (hc2.mono HB1.out.size)); rw [List.nil_append] at own2; obtain ⟨A2, c2, rfl, oA2, pA2⟩ := own2.lay; have HO12 := Lib.hid ((HO1.out.set_other (s := w.heap.size + 1 + 1) (o := 0) (u := .slice A1 h.ks.length c1) (by omega)).below_ hc2 (by simp)); have HO2 := Lib.hid own2; have HS2 := Lib.hid (S2.set2 (.slice A2 h.ps.length c2)); have HB2' := Lib.hid (HB2.out.setCell (p := ⟨w.heap.size + 1 + 1, 2, none⟩) (by show w.heap.size ≤ w.heap.size + 1 + 1; omega) (.slice A2 h.ps.length c2)); have xd2 := (HS2.out.al (.cells #[] 3)).x.cells; have Z2 : w.heap.size + 3 ≤ w2.heap.size := S2.lt; have Z12 : w1.heap.size ≤ w2.heap.size := (by have := hc2.size; simpa using this); clear own2 hb2 hc2 S2 oA2 pA2))
    | (at_builtin; go_must (refine wpl_copyP2 rfl (.tmp 5) (.tmp 7) 35 66 Tryz.underlying35 HI.out.1 HI.out.2.1 HI.out.2.2.1 HI.out.2.2.2.1 rfl W0.heap.size _ [] rfl (ownsP_made W0 66 W0.heap.size (Nat.le_refl _)) L.Ak L.ck h.ks HOK'.out.k rfl (HN.out.below ((Below.refl _ W0).alloc (Nat.le_refl _) _)).k (by simp) n1 (by simp) ?_; intro v1 w1 own1 hb1; have hc1 := Below.trans (Below.alloc (Below.refl W0.heap.size W0) (Nat.le_refl _) _) hb1; have S1 := HS.out.kp hc1 Z0; have zf1 := S1.fz; have zw1 := S1.zc; have HB1 := Lib.hid (HB0.out.trans (hc1.mono HB0.out.size)); rw [List.nil_append] at own1; obtain ⟨A1, c1, rfl, oA1, pA1⟩ := own1.lay; have HO1 := Lib.hid own1; have HS1 := Lib.hid (S1.set0 (.slice A1 h.ks.length c1)); have HB1' := Lib.hid (HB1.out.setCell (p := ⟨w.heap.size + 1 + 1, 0, none⟩) (by show w.heap.size ≤ w.heap.size + 1 + 1; omega) (.slice A1 h.ks.length c1)); have xd1 := (HS1.out.al (.cells #[] 68)).x.cells; have Z1 : w.heap.size + 3 ≤ w1.heap.size := S1.lt; have Z01 : W0.heap.size ≤ w1.heap.size := hc1.size; clear own1 hb1 hc1 S1 oA1 pA1)))
  refine bodyPost_ret (results_cell rfl rfl (cp_store (HS3.out) _ _ _ _)) rfl ⟨⟨⟨A1, c1, A2, c2, A3, c3⟩, w1.heap.size, w2.heap.size, rfl, ?_⟩, ?_⟩
  · have q1 := (HO13.out.set_other (s := w.heap.size + 1 + 1) (o := 3) (u := .slice A3 h.bs.length c3) (by omega))
    have q2 := (HO23.out.set_other (s := w.heap.size + 1 + 1) (o := 3) (u := .slice A3 h.bs.length c3) (by omega))
    have q3 := (HO3.out.set_other (s := w.heap.size + 1 + 1) (o := 3) (u := .slice A3 h.bs.length c3) (by omega))
    have r1 := set_any (s := w.heap.size + 1) (Q := fun W => OwnsP W 66 W0.heap.size (.slice A1 h.ks.length c1) h.ks) (fun W o u hh => hh.set_other (by omega)) q1 (.slice A1 h.ks.length c1) (.int .i64 h.fl) (.slice A2 h.ps.length c2) (.slice A3 h.bs.length c3)
    have r2 := set_any (s := w.heap.size + 1) (Q := fun W => OwnsP W 68 w1.heap.size (.slice A2 h.ps.length c2) h.ps) (fun W o u hh => hh.set_other (by omega)) q2 (.slice A1 h.ks.length c1) (.int .i64 h.fl) (.slice A2 h.ps.length c2) (.slice A3 h.bs.length c3)
    have r3 := set_any (s := w.heap.size + 1) (Q := fun W => Ints W w2.heap.size (.slice A3 h.bs.length c3) h.bs) (fun W o u hh => hh.set_other (by omega)) q3 (.slice A1 h.ks.length c1) (.int .i64 h.fl) (.slice A2 h.ps.length c2) (.slice A3 h.bs.length c3)
    exact ⟨r1.mono (by omega), ownP_lt HO1.out, r2, ownP_lt HO2.out, r3, by omega, Z12⟩
  · exact set_any (s := w.heap.size + 1) (Q := fun W => Below w.heap.size w W) (fun W o u hh => hh.setCell (p := ⟨w.heap.size + 1, o, none⟩) (by show w.heap.size ≤ w.heap.size + 1; omega) u) HB3'.out _ _ _ _
end Go.Proofs.YtmbcpmnigggbaabGreat
namespace Go.Proofs.YtmbcpmnigggbaabGreat
open Go.RowKit
set_option maxRecDepth 100000 in
set_option maxHeartbeats 1000000 in
theorem sameInts_is (A1 A2 : Option Addr) (c1 c2 : Nat) (l : List Int) (hl : l.length ≤ 1000) (w : World) (h1 : IntsAt w w.heap.size A1 l) (h2 : IntsAt w w.heap.size A2 l) :
    Calls Tryz.prog 25 #[.slice A1 l.length c1, .slice A2 l.length c2] w fun e w' => e = .returned (.bool true) ∧ Below w.heap.size w w' := by
  have H1 := Lib.hid h1
  have H2 := Lib.hid h2
  clear h1 h2
  go_enter Tryz.func25, Tryz.ntmps25
  go_wp2
  go_loopw [5] (fun i wr => ∃ k : Nat, k ≤ l.length ∧ i = .int .i64 k ∧ Below w.heap.size w wr) (fun i _ => l.length - (intOf i).toNat)
  case atStart => exact ⟨0, Nat.zero_le _, rfl, Below.refl _ _⟩
  case round =>
    obtain ⟨k, hk, rfl, hb⟩ := hrel
    by_cases hlt : k < l.length
    · obtain ⟨x, hx⟩ : ∃ x, l[k]? = some x := ⟨_, List.getElem?_eq_getElem hlt⟩
      obtain ⟨b1, o1, rfl, _, d1⟩ := IntsAt.at_ (ints_later H1.out hb) hx
      obtain ⟨b2, o2, rfl, _, d2⟩ := IntsAt.at_ (ints_later H2.out hb) hx
      have e1 := extB_cell d1
      have e2 := extB_cell d2
      clear hx
      go_wp2
      refine wp_region_ext (by kernel_rfl) (by kernel_rfl) ?_
      repeat (go_big_quiet_step (fail))
      refine wpQuiet_nil ?_
      rintro _ ⟨x1, rfl⟩
      have hb1 := hb.trans ((extB_below wr x1).mono hb.size)
      go_wp2
      go_roundw
      case rel => exact ⟨k + 1, by omega, by go_num, hb1⟩
      case measure => simp [intOf]; omega
    · obtain rfl : k = l.length := by omega
      go_wp2
      go_ret
      exact ⟨rfl, hb⟩

set_option maxRecDepth 100000 in
set_option maxHeartbeats 4000000 in
theorem rIn_any (l : List Int) (hl : l.length ≤ 1000) (x : Int) (A : Option Addr) (c : Nat) (w : World) (hI : IntsAt w w.heap.size A l) :
    Calls Tryz.prog 21 #[.slice A l.length c, .int .i64 x] w fun e w' => e = .returned (.bool (decide (x ∈ l))) ∧ Below w.heap.size w w' := by
  have HI := Lib.hid hI
  clear hI
  go_enter Tryz.func21, Tryz.ntmps21
  go_wp2
  go_loopw [5] (fun i wr => ∃ k : Nat, k ≤ l.length ∧ i = .int .i64 k ∧ Hid (∀ j, j < k → l[j]? ≠ some x) ∧ Below w.heap.size w wr) (fun i _ => l.length - (intOf i).toNat)
  case atStart => exact ⟨0, Nat.zero_le _, rfl, Lib.hid (fun j hj => by omega), Below.refl _ _⟩
  case round =>
    obtain ⟨k, hk', rfl, hno, hb⟩ := hrel
    by_cases hlt : k < l.length
    · obtain ⟨y, hy⟩ : ∃ y, l[k]? = some y := ⟨_, List.getElem?_eq_getElem hlt⟩
      obtain ⟨b1, o1, rfl, b1lt, d1⟩ := HI.out.at_ hy
      have e1 := below_cell hb d1
      have hki : (k : Int) < l.length := by omega
      have hk0' : (0 : Int) ≤ (k : Int) := by omega
      have HY := Lib.hid hy
      clear hy d1
      by_cases hxy : y = x
      · subst hxy
        have HE := Lib.hid (show decide (y ∈ l) = true from decide_eq_true (List.mem_of_getElem? HY.out))
        go_wp2
        go_ret
        exact ⟨by rw [HE.out]; rfl, hb⟩
      · have HN := Lib.hid (show ∀ j, j < k + 1 → l[j]? ≠ some x from fun j hj => by
          rcases Nat.lt_succ_iff_lt_or_eq.1 hj with h1 | rfl
          · exact hno.out j h1
          · rw [HY.out]; simpa using hxy)
        have hne : decide (y = x) = false := decide_eq_false hxy
        clear hno
        go_wp2
        go_roundw
        case rel => exact ⟨k + 1, by omega, by go_num, HN, hb⟩
        case measure => simp [intOf]; omega
    · obtain rfl : k = l.length := by omega
      have HE := Lib.hid (show decide (x ∈ l) = false from decide_eq_false fun hm => by
        obtain ⟨j, hj, e⟩ := List.mem_iff_getElem.1 hm
        exact hno.out j hj (by rw [List.getElem?_eq_getElem hj, e]))
      clear hno
      go_wp2
      go_ret
      exact ⟨by rw [HE.out]; rfl, hb⟩
end Go.Proofs.YtmbcpmnigggbaabGreat
