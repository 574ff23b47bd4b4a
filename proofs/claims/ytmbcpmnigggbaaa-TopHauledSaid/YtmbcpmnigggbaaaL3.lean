import Derived.Laws.AppendOwn
import Derived.Laws.AppendOwnNone
import Derived.Maps.AppendAt
import Derived.OwnWalk
import Derived.Test.YtmbcpmnigggbaaaS4
import Derived.Outline
namespace Go.Proofs.Ytmbcpmnigggbaaa
open Go.RowKit
/-! Appending: numbers, pairs of numbers, and lists of numbers, in memory of the call's own. -/
theorem own_below {W W' : World} {base e size : Nat} {v : Value} {n : Nat} {xs : List Value} {n₀ : Nat} (h : W.ownsRow base e size v n xs) (hg : W.grownBy W' v.ownBlock) (hn : n₀ ≤ W.heap.size) (hb : n₀ ≤ base) : Below n₀ W W' := by
  refine (Below.refl n₀ W).grown hg hn fun j ej => ?_
  rcases h.2 with ⟨rfl, _⟩ | ⟨g, cap, cur, rfl, hb2, _, _⟩
  · simp [Value.ownBlock] at ej
  · obtain rfl : g = j := by simpa [Value.ownBlock] using ej
    omega
theorem info3' : (Try.prog.info? 3).map (fun i => (i.zero, i.size, i.bytes)) = some (some (.int .i64 0), 1, 8) := by kernel_rfl
/-- The slice v owns the numbers l, in a row of its own (from base on). -/
def Ints (W : World) (base : Nat) (v : Value) (l : List Int) : Prop := W.ownsRow base 3 1 v l.length (l.map (Value.int .i64))
theorem ints_nil (W : World) (base : Nat) : Ints W base (.slice none 0 0) [] := World.ownsRow_nil W base 3 1
theorem ints_made (w : World) (n₀ : Nat) (hn : n₀ ≤ w.heap.size) : Ints (w.alloc (.cells #[] 3)) n₀ (.slice (some ⟨w.heap.size, 0, none⟩) 0 0) [] :=
  World.ownsRow_made w #[] 0 hn (by unfold maxLen; omega) rfl
/-- What a slice of numbers reads as: with its block. -/
def IntsIn (W : World) (lo hi : Nat) (A : Option Addr) (l : List Int) : Prop :=
  l = [] ∨ ∃ b off, A = some ⟨b, off, none⟩ ∧ lo ≤ b ∧ b < hi ∧ ∀ i x, l[i]? = some x → W.cell? ⟨b, off + i, none⟩ = some (.int .i64 x)
theorem IntsIn.at_ {W : World} {lo hi : Nat} {A : Option Addr} {l : List Int} (h : IntsIn W lo hi A l) : IntsAt W hi A l := by
  rcases h with h | ⟨b, off, h1, _, h2, h3⟩
  · exact .inl h
  · exact .inr ⟨b, off, h1, h2, h3⟩
theorem IntsIn.keep {W W' : World} {lo hi lo' hi' : Nat} {A : Option Addr} {l : List Int} (h : IntsIn W lo hi A l) (h1 : lo' ≤ lo) (h2 : hi ≤ hi') (hk : ∀ b o, lo ≤ b → b < hi → W'.cell? ⟨b, o, none⟩ = W.cell? ⟨b, o, none⟩) : IntsIn W' lo' hi' A l := by
  rcases h with h | ⟨b, off, e, h3, h4, h5⟩
  · exact .inl h
  · exact .inr ⟨b, off, e, by omega, by omega, fun i x hx => by rw [hk _ _ h3 h4]; exact h5 i x hx⟩
theorem IntsIn.below {W W' : World} {lo hi n : Nat} {A : Option Addr} {l : List Int} (h : IntsIn W lo hi A l) (hb : Below n W W') (hn : hi ≤ n) : IntsIn W' lo hi A l :=
  h.keep (Nat.le_refl _) (Nat.le_refl _) fun b o _ hlt => hb.cell (p := ⟨b, o, none⟩) (by show b < n; omega)
theorem Ints.lay {W : World} {base : Nat} {v : Value} {l : List Int} (h : Ints W base v l) : ∃ A c, v = .slice A l.length c ∧ (A = none → c = 0 ∧ l = []) ∧ l.length ≤ c ∧ IntsIn W base W.heap.size A l := by
  rcases h.2 with ⟨rfl, h0⟩ | ⟨g, cap, cur, rfl, hb, hg, h4, h5, h6, h7⟩
  · have : l = [] := List.length_eq_zero_iff.1 h0
    exact ⟨none, 0, by rw [h0], fun _ => ⟨rfl, this⟩, by omega, .inl this⟩
  · refine ⟨some ⟨g, 0, none⟩, cap, rfl, fun h => (by cases h), h4, .inr ⟨g, 0, rfl, hb, (Array.getElem?_eq_some_iff.1 hg).1, fun i x hx => ?_⟩⟩
    have hc := World.ownsRow.cells h (g := g) rfl i (.int .i64 x) (by rw [List.getElem?_map, hx]; rfl)
    rw [addr_add] at hc; exact hc
theorem Ints.below_ {W W' : World} {base n : Nat} {v : Value} {l : List Int} (h : Ints W base v l) (hb : Below n W W') (hn : W.heap.size ≤ n) : Ints W' base v l := by
  refine ⟨h.1, ?_⟩
  rcases h.2 with h2 | ⟨g, cap, cur, e, hb2, hg, h4⟩
  · exact .inl h2
  · exact .inr ⟨g, cap, cur, e, hb2, (hb.block g (Nat.lt_of_lt_of_le (Array.getElem?_eq_some_iff.1 hg).1 hn)).trans hg, h4⟩
theorem Ints.mono {W : World} {base base' : Nat} {v : Value} {l : List Int} (h : Ints W base v l) (hb : base' ≤ base) : Ints W base' v l := by
  refine ⟨h.1, ?_⟩
  rcases h.2 with h2 | ⟨g, cap, cur, e, hb2, hg, h4⟩
  · exact .inl h2
  · exact .inr ⟨g, cap, cur, e, by omega, hg, h4⟩
theorem Ints.alloc {W : World} {base : Nat} {v : Value} {l : List Int} (h : Ints W base v l) (o : Obj) : Ints (W.alloc o) base v l := World.ownsRow.alloc h o

/-- 'out = append(out, x)', out the call's own. -/
theorem wpl_app {ops : Array Oper} {rest : List Oper} {o : Oper} {a : Act} {w : World} {Q : Exit → Act → World → Prop} (hgd : o.guard = none) (s x : Operand)
    (ho : o.op = .call { callee := .builtin .append, args := #[s, x], argTypes := #[25, 25] }) (n₀ base : Nat) (v : Value) (l : List Int) (k : Int) (hs : a.eval s = v) (hown : Ints w base v l)
    (ad : Addr) (c : Nat) (hx : a.eval x = .slice (some ad) 1 c) (hc : w.cell? ad = some (.int .i64 k)) (hl : l.length ≤ 1000) (hbase : base ≤ w.heap.size) (hn : n₀ ≤ base)
    (h : ∀ v' w', Ints w' base v' (l ++ [k]) → Below n₀ w w' → wpList Try.prog ops Q rest (a.put o.dst v') w') : wpList Try.prog ops Q (o :: rest) a w := by
  obtain ⟨i0, hi, hz0, hz1, hz2⟩ := info_parts info3'
  refine wpList_append_own w hgd s x 25 ho base 3 i0 (.int .i64 0) 1 8 Try.underlying25 hi hz0 hz1 hz2 rfl (by decide) v l.length (l.map (.int .i64)) hs hown ad 1 c [.int .i64 k] hx rfl ?_ ?_ ?_ ?_ hbase ?_
  · intro j u hj
    match j, hj with
    | 0, hj => simp at hj; subst hj; simpa [Addr.add] using hc
  · intro u hu; simp at hu; subst hu; rfl
  · unfold maxLen; omega
  · omega
  · intro v' w' h2 h3 _
    refine h v' w' ?_ (own_below hown h3 (by omega) hn)
    unfold Ints
    rw [List.length_append, List.map_append]
    exact h2

theorem ints_news {w : World} {hi : Nat} {ad : Addr} {l : List Int} (hI : IntsAt w hi (some ad) l) : ∀ j u, (l.map (Value.int .i64))[j]? = some u → w.cell? (ad.add j) = some u := by
  intro j u hj
  rcases hI with rfl | ⟨b, off, e, _, hc⟩
  · simp at hj
  · cases e
    rw [List.getElem?_map] at hj
    cases hx : l[j]? with
    | none => rw [hx] at hj; simp at hj
    | some y =>
      rw [hx] at hj
      simp at hj
      subst hj
      rw [addr_add]
      exact hc j y hx
theorem ints_one (l : List Int) : ∀ u ∈ l.map (Value.int .i64), u.oneCell' = true := by
  intro u hu
  obtain ⟨y, _, rfl⟩ := List.mem_map.1 hu
  rfl
/-- 'append(out, xs...)', out the call's own. -/
theorem wpl_copyI {ops : Array Oper} {rest : List Oper} {o : Oper} {a : Act} {w : World} {Q : Exit → Act → World → Prop} (hgd : o.guard = none) (s x : Operand)
    (ho : o.op = .call { callee := .builtin .append, args := #[s, x], argTypes := #[25, 25] }) (n₀ : Nat) (v : Value) (l0 : List Int) (hs : a.eval s = v) (hown : Ints w n₀ v l0)
    (A : Option Addr) (c : Nat) (l : List Int) (hA : A = none → c = 0 ∧ l = []) (hx : a.eval x = .slice A l.length c) (hI : IntsAt w w.heap.size A l) (hl0 : l0.length ≤ 1000) (hl : l.length ≤ 1000) (hn : n₀ ≤ w.heap.size)
    (h : ∀ v' w', Ints w' n₀ v' (l0 ++ l) → Below n₀ w w' → wpList Try.prog ops Q rest (a.put o.dst v') w') : wpList Try.prog ops Q (o :: rest) a w := by
  obtain ⟨i0, hi, hz0, hz1, hz2⟩ := info_parts info3'
  cases A with
  | none =>
    obtain ⟨rfl, rfl⟩ := hA rfl
    refine wpList_append_own_none hgd s x 25 ho n₀ 3 i0 1 Try.underlying25 hi v l0.length _ hs hown hx (h v w ?_ (Below.refl _ _))
    rw [List.append_nil]; exact hown
  | some ad =>
    refine wpList_append_own w hgd s x 25 ho n₀ 3 i0 (.int .i64 0) 1 8 Try.underlying25 hi hz0 hz1 hz2 rfl (by decide) v l0.length _ hs hown ad l.length c (l.map (.int .i64)) hx (by simp) (ints_news hI) (ints_one l) ?_ ?_ hn ?_
    · unfold maxLen; omega
    · omega
    · intro v' w' h2 h3 _
      refine h v' w' ?_ (own_below hown h3 hn (Nat.le_refl _))
      unfold Ints
      rw [List.length_append, List.map_append]
      exact h2
/-! Pairs. -/
def pairCells : List (Int × Int) → List Value
  | [] => []
  | x :: xs => .int .i64 x.1 :: .int .i64 x.2 :: pairCells xs
theorem pairCells_len : ∀ (ns : List (Int × Int)), (pairCells ns).length = ns.length * 2
  | [] => rfl
  | x :: xs => by simp only [pairCells, List.length_cons, pairCells_len xs]; omega
theorem pairCells_one : ∀ (ns : List (Int × Int)), ∀ u ∈ pairCells ns, u.oneCell' = true
  | [], _, h => by simp [pairCells] at h
  | x :: xs, u, h => by
    simp only [pairCells, List.mem_cons] at h
    rcases h with rfl | rfl | h
    · rfl
    · rfl
    · exact pairCells_one xs u h
theorem pairCells_at : ∀ (ns : List (Int × Int)) (i : Nat) (x : Int × Int), ns[i]? = some x → (pairCells ns)[i * 2]? = some (.int .i64 x.1) ∧ (pairCells ns)[i * 2 + 1]? = some (.int .i64 x.2)
  | [], i, x, h => by simp at h
  | y :: ys, 0, x, h => by
    simp at h; subst h; exact ⟨rfl, rfl⟩
  | y :: ys, i + 1, x, h => by
    have := pairCells_at ys i x (by simpa using h)
    have e : (i + 1) * 2 = i * 2 + 1 + 1 := by omega
    rw [e]
    simp only [pairCells, List.getElem?_cons_succ]
    exact this
theorem pairCells_app : ∀ (a b : List (Int × Int)), pairCells (a ++ b) = pairCells a ++ pairCells b
  | [], b => rfl
  | x :: a, b => by simp only [List.cons_append, pairCells, pairCells_app a b]
theorem pairs_news {W : World} {B : Nat} {ad : Addr} {ns : List (Int × Int)} (h : PairsAt W B (some ad) ns) : ∀ j u, (pairCells ns)[j]? = some u → W.cell? (ad.add j) = some u := by
  intro j u hj
  have hlt := (List.getElem?_eq_some_iff.1 hj).1
  rw [pairCells_len] at hlt
  have hi : j / 2 < ns.length := by omega
  obtain ⟨b', off', e, _, c1, c2⟩ := h.at_ (List.getElem?_eq_getElem hi)
  cases e
  obtain ⟨d1, d2⟩ := pairCells_at ns _ _ (List.getElem?_eq_getElem hi)
  have : j = j / 2 * 2 ∨ j = j / 2 * 2 + 1 := by omega
  rcases this with e | e
  · rw [e] at hj ⊢; rw [d1] at hj; cases hj; rw [addr_add]; exact c1
  · rw [e] at hj ⊢; rw [d2] at hj; cases hj; rw [addr_add]; exact c2
/-- The slice v owns the pairs. -/
def OwnsP (W : World) (t : TypeId) (base : Nat) (v : Value) (ns : List (Int × Int)) : Prop := W.ownsRow base t 2 v ns.length (pairCells ns)
theorem OwnsP.lay {W : World} {t : TypeId} {base : Nat} {v : Value} {ns : List (Int × Int)} (h : OwnsP W t base v ns) : ∃ A c, v = .slice A ns.length c ∧ (A = none → c = 0 ∧ ns = []) ∧ PairsAt W W.heap.size A ns := by
  rcases h.2 with ⟨rfl, h0⟩ | ⟨g, cap, cur, rfl, hb, hg, h4, h5, h6, h7⟩
  · have : ns = [] := List.length_eq_zero_iff.1 h0
    exact ⟨none, 0, by rw [h0], fun _ => ⟨rfl, this⟩, .inl this⟩
  · refine ⟨some ⟨g, 0, none⟩, cap, rfl, fun h => (by cases h), .inr ⟨g, 0, rfl, (Array.getElem?_eq_some_iff.1 hg).1, fun i x hx => ?_⟩⟩
    obtain ⟨d1, d2⟩ := pairCells_at ns i x hx
    have c1 := World.ownsRow.cells h (g := g) rfl _ _ d1
    have c2 := World.ownsRow.cells h (g := g) rfl _ _ d2
    rw [addr_add] at c1 c2
    exact ⟨c1, c2⟩
theorem OwnsP.below_ {W W' : World} {t : TypeId} {base n : Nat} {v : Value} {l : List (Int × Int)} (h : OwnsP W t base v l) (hb : Below n W W') (hn : W.heap.size ≤ n) : OwnsP W' t base v l := by
  refine ⟨h.1, ?_⟩
  rcases h.2 with h2 | ⟨g, cap, cur, e, hb2, hg, h4⟩
  · exact .inl h2
  · exact .inr ⟨g, cap, cur, e, hb2, (hb.block g (Nat.lt_of_lt_of_le (Array.getElem?_eq_some_iff.1 hg).1 hn)).trans hg, h4⟩
/-- 'append(out, xs...)', pairs. -/
theorem wpl_copyP2 {ops : Array Oper} {rest : List Oper} {o : Oper} {a : Act} {w : World} {Q : Exit → Act → World → Prop} (hgd : o.guard = none) (s x : Operand) (st et : TypeId) {it : TypeInfo}
    (hst : Try.prog.underlying st = some (.slice et)) (hi : Try.prog.info? et = some it) (hz0 : it.zero = some (.agg #[.int .i64 0, .int .i64 0])) (hz1 : it.size = 2) (hz2 : it.bytes = 16)
    (ho : o.op = .call { callee := .builtin .append, args := #[s, x], argTypes := #[st, st] }) (n₀ : Nat) (v : Value) (l0 : List (Int × Int)) (hs : a.eval s = v) (hown : OwnsP w et n₀ v l0)
    (A : Option Addr) (c : Nat) (ns : List (Int × Int)) (hA : A = none → c = 0 ∧ ns = []) (hx : a.eval x = .slice A ns.length c) (hN : PairsAt w w.heap.size A ns) (hl0 : l0.length ≤ 1000) (hl : ns.length ≤ 1000) (hn : n₀ ≤ w.heap.size)
    (h : ∀ v' w', OwnsP w' et n₀ v' (l0 ++ ns) → Below n₀ w w' → wpList Try.prog ops Q rest (a.put o.dst v') w') : wpList Try.prog ops Q (o :: rest) a w := by
  cases A with
  | none =>
    obtain ⟨rfl, rfl⟩ := hA rfl
    refine wpList_append_own_none hgd s x st ho n₀ et it 2 hst hi v l0.length _ hs hown hx (h v w ?_ (Below.refl _ _))
    rw [List.append_nil]; exact hown
  | some ad =>
    refine wpList_append_own w hgd s x st ho n₀ et it _ 2 16 hst hi hz0 hz1 hz2 rfl (by decide) v l0.length _ hs hown ad ns.length c (pairCells ns) hx (pairCells_len ns) (pairs_news hN) (pairCells_one ns) ?_ ?_ hn ?_
    · unfold maxLen; omega
    · omega
    · intro v' w' h2 h3 _
      refine h v' w' ?_ (own_below hown h3 hn (Nat.le_refl _))
      unfold OwnsP
      rw [List.length_append, pairCells_app]
      exact h2
theorem ownsP_made (w : World) (t : TypeId) (n₀ : Nat) (hn : n₀ ≤ w.heap.size) : OwnsP (w.alloc (.cells #[] t)) t n₀ (.slice (some ⟨w.heap.size, 0, none⟩) 0 0) [] :=
  World.ownsRow_made w #[] 0 hn (by unfold maxLen; omega) rfl

/-! Lists of lists. -/
/-- The slice at A holds the lists; each lies in a block from lo on. -/
def RowsIn (W : World) (lo hi : Nat) (A : Option Addr) (rs : List (List Int)) : Prop :=
  rs = [] ∨ ∃ b off, A = some ⟨b, off, none⟩ ∧ lo ≤ b ∧ b < hi ∧ ∀ i r, rs[i]? = some r → ∃ A' c', W.cell? ⟨b, off + i, none⟩ = some (.slice A' r.length c') ∧ (A' = none → c' = 0 ∧ r = []) ∧ IntsIn W lo hi A' r
theorem RowsIn.keep {W W' : World} {lo hi lo' hi' : Nat} {A : Option Addr} {l : List (List Int)} (h : RowsIn W lo hi A l) (h1 : lo' ≤ lo) (h2 : hi ≤ hi') (hk : ∀ b o, lo ≤ b → b < hi → W'.cell? ⟨b, o, none⟩ = W.cell? ⟨b, o, none⟩) : RowsIn W' lo' hi' A l := by
  rcases h with h | ⟨b, off, e, h3, h4, h5⟩
  · exact .inl h
  · refine .inr ⟨b, off, e, by omega, by omega, fun i x hx => ?_⟩
    obtain ⟨A', c', g1, g2, g3⟩ := h5 i x hx
    exact ⟨A', c', by rw [hk _ _ h3 h4]; exact g1, g2, g3.keep h1 h2 hk⟩
theorem RowsIn.below {W W' : World} {lo hi n : Nat} {A : Option Addr} {l : List (List Int)} (h : RowsIn W lo hi A l) (hb : Below n W W') (hn : hi ≤ n) : RowsIn W' lo hi A l :=
  h.keep (Nat.le_refl _) (Nat.le_refl _) fun b o _ hlt => hb.cell (p := ⟨b, o, none⟩) (by show b < n; omega)
theorem RowsIn.at_ {W : World} {lo hi : Nat} {A : Option Addr} {rs : List (List Int)} (h : RowsIn W lo hi A rs) {k : Nat} {r : List Int} (hr : rs[k]? = some r) : ∃ b off A' c', A = some ⟨b, off, none⟩ ∧ b < hi ∧ W.cell? ⟨b, off + k, none⟩ = some (.slice A' r.length c') ∧ (A' = none → c' = 0 ∧ r = []) ∧ IntsIn W lo hi A' r := by
  rcases h with h | ⟨b, off, e, h3, h4, h5⟩
  · subst h; simp at hr
  · obtain ⟨A', c', g1, g2, g3⟩ := h5 k r hr
    exact ⟨b, off, A', c', e, h4, g1, g2, g3⟩
/-- The cells of a slice of lists. -/
def RowV (W : World) (lo hi : Nat) (no : Option Nat) (u : Value) (r : List Int) : Prop := ∃ A' c', u = .slice A' r.length c' ∧ (A' = none → c' = 0 ∧ r = []) ∧ (r = [] ∨ ∃ b off, A' = some ⟨b, off, none⟩ ∧ lo ≤ b ∧ b < hi ∧ some b ≠ no ∧ ∀ i x, r[i]? = some x → W.cell? ⟨b, off + i, none⟩ = some (.int .i64 x))
/-- The slice v owns a row of lists, each of which lies elsewhere, in a block from lo on. -/
def OwnsR (W : World) (lo base : Nat) (v : Value) (rs : List (List Int)) : Prop :=
  ∃ vs : List Value, W.ownsRow base 25 1 v rs.length vs ∧ ∀ (i : Nat) (r : List Int), rs[i]? = some r → ∃ u, vs[i]? = some u ∧ RowV W lo W.heap.size v.ownBlock u r
theorem OwnsR.lay {W : World} {lo base : Nat} {v : Value} {rs : List (List Int)} (h : OwnsR W lo base v rs) (hlo : lo ≤ base) : ∃ A c, v = .slice A rs.length c ∧ (A = none → c = 0 ∧ rs = []) ∧ RowsIn W lo W.heap.size A rs := by
  obtain ⟨vs, h, hv⟩ := h
  have hh := h
  rcases hh.2 with ⟨rfl, h0⟩ | ⟨g, cap, cur, rfl, hb, hg, h4, h5, h6, h7⟩
  · have : rs = [] := List.length_eq_zero_iff.1 h0
    exact ⟨none, 0, by rw [h0], fun _ => ⟨rfl, this⟩, .inl this⟩
  · refine ⟨some ⟨g, 0, none⟩, cap, rfl, fun h => (by cases h), .inr ⟨g, 0, rfl, by omega, (Array.getElem?_eq_some_iff.1 hg).1, fun i r hr => ?_⟩⟩
    obtain ⟨u, hu, A', c', rfl, hA', hr'⟩ := hv i r hr
    have hc := World.ownsRow.cells h (g := g) rfl i _ hu
    rw [addr_add] at hc
    refine ⟨A', c', hc, hA', ?_⟩
    rcases hr' with hr' | ⟨b, off, e, q1, q2, q3, q4⟩
    · exact .inl hr'
    · exact .inr ⟨b, off, e, q1, q2, q4⟩
theorem OwnsR.below_ {W W' : World} {lo base n : Nat} {v : Value} {l : List (List Int)} (h : OwnsR W lo base v l) (hb : Below n W W') (hn : W.heap.size ≤ n) : OwnsR W' lo base v l := by
  obtain ⟨vs, h, hv⟩ := h
  refine ⟨vs, ⟨h.1, ?_⟩, fun i r hr => ?_⟩
  · rcases h.2 with h2 | ⟨g, cap, cur, e, hb2, hg, h4⟩
    · exact .inl h2
    · exact .inr ⟨g, cap, cur, e, hb2, (hb.block g (Nat.lt_of_lt_of_le (Array.getElem?_eq_some_iff.1 hg).1 hn)).trans hg, h4⟩
  · obtain ⟨u, hu, A', c', rfl, hA', hr'⟩ := hv i r hr
    refine ⟨_, hu, A', c', rfl, hA', ?_⟩
    rcases hr' with hr' | ⟨b, off, e, q1, q2, q3, q4⟩
    · exact .inl hr'
    · exact .inr ⟨b, off, e, q1, Nat.lt_of_lt_of_le q2 hb.size, q3, fun i x hx => (hb.cell (p := ⟨b, off + i, none⟩) (Nat.lt_of_lt_of_le q2 hn)).trans (q4 i x hx)⟩
theorem OwnsR.alloc {W : World} {lo base : Nat} {v : Value} {l : List (List Int)} (h : OwnsR W lo base v l) (o : Obj) : OwnsR (W.alloc o) lo base v l := h.below_ ((Below.refl _ W).alloc (Nat.le_refl _) o) (Nat.le_refl _)
/-! Appends at a step of a region that draws its order: what else is kept is told. -/
/-- 'append(out, xs...)'. -/
theorem step_copyG {ops : Array Oper} {o : Oper} {a : Act} {w : World} {K : Act → World → Prop} {Q : Exit → Act → World → Prop} {E : Prop} (hgd : o.guard = none) (s x : Operand)
    (ho : o.op = .call { callee := .builtin .append, args := #[s, x], argTypes := #[25, 25] }) (n₀ : Nat) (v : Value) (l0 : List Int) (hs : a.eval s = v) (hown : Ints w n₀ v l0)
    (A : Option Addr) (c : Nat) (l : List Int) (m : Nat) (hm : l.length = m) (hA : A = none → c = 0 ∧ l = []) (hx : a.eval x = .slice A m c) (hI : IntsAt w w.heap.size A l) (hl0 : l0.length ≤ 1000) (hl : m ≤ 1000) (hn : n₀ ≤ w.heap.size)
    (h : ∀ v' w', Ints w' n₀ v' (l0 ++ l) → Below n₀ w w' → w.grownBy w' v.ownBlock → K (a.put o.dst v') w') :
    if Region.wanted o (yielded ops a.tmps) = true then Oper.wp Try.prog o a w K Q else E := by
  subst hm
  have hw : Region.wanted o (yielded ops a.tmps) = true := by simp [Region.wanted, hgd]
  rw [if_pos hw]
  obtain ⟨i0, hi, hz0, hz1, hz2⟩ := info_parts info3'
  cases A with
  | none =>
    obtain ⟨rfl, rfl⟩ := hA rfl
    have hrun := run_append_owned_none (P := Try.prog) (w := w) n₀ 25 o.type 3 i0 1 Try.underlying25 hi v l0.length _ hown
    have hk := h v w (by rw [List.append_nil]; exact hown) (Below.refl _ _) ⟨rfl, rfl, rfl, Nat.le_refl _, fun _ _ _ => rfl⟩
    unfold Oper.wp
    simp [execOp, ho, resolve, invoke, builtin, hs, hx, hrun, Result.andThen]
    exact hk
  | some ad =>
    refine wp_append_own w s x 25 ho n₀ 3 i0 (.int .i64 0) 1 8 Try.underlying25 hi hz0 hz1 hz2 rfl (by decide) v l0.length _ hs hown ad l.length c (l.map (.int .i64)) hx (by simp) (ints_news hI) (ints_one l) ?_ ?_ hn ?_
    · unfold maxLen; omega
    · omega
    · intro v' w' h2 h3 _
      refine h v' w' ?_ (own_below hown h3 hn (Nat.le_refl _)) h3
      unfold Ints
      rw [List.length_append, List.map_append]
      exact h2
end Go.Proofs.Ytmbcpmnigggbaaa
namespace Go.Proofs.Ytmbcpmnigggbaaa
open Go.RowKit
def caskOf (l : List Cask) (b : Nat) : Cask := l.getD b c0
def roomOK (h : House) (l : List Cask) (b : Nat) : Bool := decide ((caskOf l b).p + saltC h.fl (caskOf l b) ≤ h.bs.getD b 0)
/-- No barrel is over. -/
def fitsC (h : House) (l : List Cask) : Bool := (List.range h.bs.length).all (roomOK h l)

theorem saltC_bd {c : Cask} {fl : Int} (hc : c.ok) (hf : 0 ≤ fl ∧ fl ≤ 9) : 0 ≤ saltC fl c ∧ saltC fl c ≤ 10000 := by
  obtain ⟨hn0, hn1, hp0, hp1, hs0, hs1, hd0, hd1⟩ := hc
  have hps : 0 ≤ c.p * c.s := Int.mul_nonneg hp0 hs0
  have hps2 : c.p * c.s ≤ 10000 * 9 := Int.mul_le_mul hp1 hs1 hs0 (by omega)
  unfold saltC
  split <;> omega

set_option maxRecDepth 100000 in
set_option maxHeartbeats 4000000 in
theorem fits_any (L : HL) (h : House) (hv : HOK h) (l : List Cask) (hl : l.length = 5) (hok : ∀ (j : Nat) (c : Cask), l[j]? = some c → c.ok) (w : World) (hH : HouseAt w w.heap.size L h) :
    Calls Try.prog 128 #[encCs l, L.enc h] w fun e w' => e = .returned (.bool (fitsC h l)) ∧ Below w.heap.size w w' := by
  have hbl := hv.bl
  have hf0 := hv.f0
  have hf1 := hv.f1
  have HH := Lib.hid hH
  have HV := Lib.hid hv
  have HO := Lib.hid hok
  clear hH hv hok
  obtain ⟨Ak, ck, Ap, cp, Ab, cb⟩ := L
  unfold encCs
  go_enter Try.func128, Try.ntmps128
  go_wp2
  go_loopw [10] (fun i wr => ∃ k : Nat, k ≤ h.bs.length ∧ i = .int .i64 k ∧ Below w.heap.size w wr ∧ HBox wr (w.heap.size + 1) ⟨Ak, ck, Ap, cp, Ab, cb⟩ h ∧ CasksAt wr w.heap.size l ∧ ∀ j, j < k → roomOK h l j = true) (fun i _ => h.bs.length - (intOf i).toNat)
  case atStart =>
    have hb2 : Below w.heap.size w ((w.alloc (.cells (flatC l).toArray 169)).alloc (.cells #[.slice Ak h.ks.length ck, .int .i64 h.fl, .slice Ap h.ps.length cp, .slice Ab h.bs.length cb] 27)) := ((Below.refl _ _).alloc (Nat.le_refl _) _).alloc (by simp) _
    have hB2 := HBox.new (w.alloc (.cells (flatC l).toArray 169)) ⟨Ak, ck, Ap, cp, Ab, cb⟩ h
    rw [World.size_alloc] at hB2
    exact ⟨0, Nat.zero_le _, rfl, hb2, hB2, (Below.heap_alloc _ _ _ (by simp)).trans (World.alloc_heap_new w _), fun j hj => by omega⟩
  case round =>
    obtain ⟨k, hk, rfl, hb, hB, hC, hall⟩ := hrel
    have HA := Lib.hid hall
    clear hall
    by_cases hlt : k < h.bs.length
    · obtain ⟨x, hx⟩ : ∃ x, h.bs[k]? = some x := ⟨_, List.getElem?_eq_getElem hlt⟩
      obtain ⟨b1, o1, rfl, b1lt, d1⟩ := IntsAt.at_ (HH.out.b.keep hb.size fun _ _ hlt => hb.cell (p := ⟨_, _, none⟩) hlt) hx
      have hkl : k < l.length := by omega
      obtain ⟨cc, hcc⟩ : ∃ cc, l[k]? = some cc := ⟨_, List.getElem?_eq_getElem hkl⟩
      have hcok := HO.out k cc hcc
      have hsb := saltC_bd hcok ⟨hf0, hf1⟩
      have hp0 := hcok.p0
      have hp1 := hcok.p1
      obtain ⟨f0, f1, f2, f3⟩ := hC.at_ hcc
      have e0 := extB_cell f0
      have e1 := extB_cell f1
      have e2 := extB_cell f2
      have e3 := extB_cell f3
      obtain ⟨_, g1, _, _⟩ := hB.cells
      have e4 := extB_cell g1
      have hro : roomOK h l k = decide (cc.p + saltC h.fl cc ≤ x) := by simp [roomOK, caskOf, List.getD, hcc, hx]
      have RO := Lib.hid hro
      have CK := Lib.hid hcok
      clear hro hcok hx hcc
      by_cases hov : x < cc.p + saltC h.fl cc
      · as_aux_lemma =>
        go_wp2
        refine wp_region_ext (by kernel_rfl) (by kernel_rfl) ?_
        repeat (go_big_quiet_step ((go_at_call 129; exact ext_call (saltC_any cc h.fl CK.out ⟨hf0, hf1⟩ _))))
        refine wpQuiet_nil ?_
        rintro _ ⟨x1, rfl⟩
        have hb1 := hb.trans ((extB_below wr x1).mono hb.size)
        go_wp2
        go_ret
        refine ⟨?_, hb1⟩
        have : fitsC h l = false := by
          rw [fitsC, List.all_eq_false]
          exact ⟨k, List.mem_range.2 hlt, by rw [RO.out]; simp; omega⟩
        rw [this]; rfl
      · as_aux_lemma =>
        go_wp2
        refine wp_region_ext (by kernel_rfl) (by kernel_rfl) ?_
        repeat (go_big_quiet_step ((go_at_call 129; exact ext_call (saltC_any cc h.fl CK.out ⟨hf0, hf1⟩ _))))
        refine wpQuiet_nil ?_
        rintro _ ⟨x1, rfl⟩
        have hb0 := extB_below wr x1
        have hb1 := hb.trans (hb0.mono hb.size)
        go_wp2
        go_roundw
        case rel =>
          refine ⟨k + 1, by omega, by go_num, hb1, hB.of (hb0.block _ hB.lt), (hb0.block _ (Array.getElem?_eq_some_iff.1 hC).1).trans hC, fun j hj => ?_⟩
          by_cases ej : j = k
          · subst ej; rw [RO.out]; simp; omega
          · exact HA.out j (by omega)
        case measure => simp [intOf]; omega
    · obtain rfl : k = h.bs.length := by omega
      go_wp2
      go_ret
      refine ⟨?_, hb⟩
      have : fitsC h l = true := by
        rw [fitsC, List.all_eq_true]
        exact fun j hj => HA.out j (List.mem_range.1 hj)
      rw [this]; rfl
theorem at_caskOf {l : List Cask} {k : Nat} (h : k < l.length) : l[k]? = some (caskOf l k) := by simp [caskOf, List.getD, List.getElem?_eq_getElem h]
set_option maxRecDepth 100000 in
theorem index81 {l : List Cask} (hl : l.length = 5) {k : Nat} (hk : k < 5) (w : World) : (Instr.index 169 (encCs l) (.int .i64 k)).run Try.prog w = .ok (caskOf l k).enc w := by
  obtain ⟨a, b, c, d, e, rfl⟩ := list5 hl
  have : k = 0 ∨ k = 1 ∨ k = 2 ∨ k = 3 ∨ k = 4 := by omega
  rcases this with rfl | rfl | rfl | rfl | rfl <;> rfl

end Go.Proofs.Ytmbcpmnigggbaaa
namespace Go.Proofs.Ytmbcpmnigggbaaa
open Go.RowKit
theorem isBarrel_any (L : HL) (h : House) (k : Int) (w : World) (hn : h.bs.length ≤ 1000) : Calls Try.prog 202 #[L.enc h, .int .i64 k] w fun e w' => e = .returned (.bool (inR k 0 (h.bs.length - 1))) ∧ Below w.heap.size w w' := by
  go_enter Try.func202, Try.ntmps202
  go_wp2_with (go_at_call 171; refine (between_any _ _ _ _).mono ?_; rintro e w' ⟨rfl, rfl⟩)
  go_ret
  exact ⟨rfl, (Below.refl _ _).alloc (Nat.le_refl _) _⟩
theorem check1_any (n : Int) (w : World) : Calls Try.prog 172 #[.int .i64 n] w fun e w' => e = .returned (.bool (!inR n 0 99)) ∧ w = w' := by
  go_enter Try.func172, Try.ntmps172
  go_wp2_with (go_at_call 171; refine (between_any _ _ _ _).mono ?_; rintro e w' ⟨rfl, rfl⟩)
  go_ret
  exact ⟨rfl, rfl⟩
theorem good1_any (L : HL) (h : House) (b : Nat) (n : Int) (w : World) (hn : h.bs.length ≤ 1000) (hB : HBox w b L h) : Calls Try.prog 210 #[.int .i64 n, .pointer (some ⟨b, 0, none⟩)] w fun e w' => e = .returned (.bool (!inR n 0 (h.bs.length - 1))) ∧ Below w.heap.size w w' := by
  obtain ⟨g0, g1, g2, g3⟩ := hB.cells
  clear hB
  go_enter Try.func210, Try.ntmps210
  go_wp2_with (go_at_call 202; refine (isBarrel_any L h _ _ hn).mono ?_; rintro e w' ⟨rfl, hb⟩)
  go_ret
  exact ⟨rfl, hb⟩

/-- slices.IndexFunc's answer. -/
def firstB (p : Int → Bool) : List Int → Nat → Int
  | [], _ => -1
  | x :: l, k => if p x then (k : Int) else firstB p l (k + 1)
theorem firstB_any (p : Int → Bool) : ∀ (l : List Int) (k : Nat), decide (0 ≤ firstB p l k) = l.any p
  | [], k => by simp [firstB]
  | x :: l, k => by
    unfold firstB
    by_cases h : p x = true
    · rw [if_pos h]; simp [h]
    · rw [if_neg h, firstB_any p l (k + 1)]; simp [h]
theorem firstB_yes {p : Int → Bool} {l : List Int} {k : Nat} {x : Int} (hx : l[k]? = some x) (hp : p x = true) : firstB p (l.drop k) k = k := by
  obtain ⟨h, e⟩ := List.getElem?_eq_some_iff.1 hx
  rw [List.drop_eq_getElem_cons h, firstB, e, if_pos hp]
theorem firstB_no {p : Int → Bool} {l : List Int} {k : Nat} {x : Int} (hx : l[k]? = some x) (hp : p x = false) : firstB p (l.drop k) k = firstB p (l.drop (k + 1)) (k + 1) := by
  obtain ⟨h, e⟩ := List.getElem?_eq_some_iff.1 hx
  rw [List.drop_eq_getElem_cons h, firstB, e, if_neg (by simp [hp])]
theorem firstB_end {p : Int → Bool} {l : List Int} : firstB p (l.drop l.length) l.length = -1 := by simp [firstB]
set_option maxRecDepth 100000 in
set_option maxHeartbeats 4000000 in
theorem index78_any (A : Option Addr) (c : Nat) (l : List Int) (hl : l.length ≤ 1000) (w : World) (hI : IntsAt w w.heap.size A l) :
    Calls Try.prog 188 #[.slice A l.length c, .func (.func 172) #[] #[]] w fun e w' => e = .returned (.int .i64 (firstB (fun x => !inR x 0 99) l 0)) ∧ Below w.heap.size w w' := by
  have HI := Lib.hid hI
  clear hI
  go_enter Try.func188, Try.ntmps188
  go_wp2
  go_loopw [5, 8] (fun _ i wr => ∃ k : Nat, k ≤ l.length ∧ i = .int .i64 k ∧ Hid (firstB (fun x => !inR x 0 99) l 0 = firstB (fun x => !inR x 0 99) (l.drop k) k) ∧ Below w.heap.size w wr) (fun _ i _ => l.length - (intOf i).toNat)
  case atStart => exact ⟨0, Nat.zero_le _, rfl, Lib.hid (by rw [List.drop_zero]), Below.refl _ _⟩
  case round =>
    obtain ⟨k, hk, rfl, hF, hb⟩ := hrel
    by_cases hlt : k < l.length
    · obtain ⟨x, hx⟩ : ∃ x, l[k]? = some x := ⟨_, List.getElem?_eq_getElem hlt⟩
      obtain ⟨b1, o1, rfl, b1lt, d1⟩ := HI.out.at_ hx
      have d2 := below_cell hb d1
      have HX := Lib.hid hx
      clear hx d1
      have hsz := hb.size
      cases hp : (fun x => !inR x 0 99) x
      · have HPX := Lib.hid hp
        have hp' : inR x 0 99 = true := by simpa using hp
        clear hp
        go_wp2_with (go_at_call 172; refine (check1_any _ _).mono ?_; rintro e W5 ⟨rfl, rfl⟩)
        go_roundw
        case rel => exact ⟨k + 1, by omega, by go_num, Lib.hid (by rw [hF.out]; exact firstB_no HX.out HPX.out), hb⟩
        case measure => simp [intOf]; omega
      · have HPX := Lib.hid hp
        have hp' : inR x 0 99 = false := by simpa using hp
        clear hp
        go_wp2_with (go_at_call 172; refine (check1_any _ _).mono ?_; rintro e W5 ⟨rfl, rfl⟩)
        go_ret
        exact ⟨by rw [hF.out, firstB_yes HX.out HPX.out]; rfl, hb⟩
    · obtain rfl : k = l.length := by omega
      go_wp2
      go_ret
      exact ⟨by rw [hF.out, firstB_end]; rfl, hb⟩
theorem contains78_any (A : Option Addr) (c : Nat) (l : List Int) (hl : l.length ≤ 1000) (w : World) (hI : IntsAt w w.heap.size A l) :
    Calls Try.prog 160 #[.slice A l.length c, .func (.func 172) #[] #[]] w fun e w' => e = .returned (.bool (l.any (fun x => !inR x 0 99))) ∧ Below w.heap.size w w' := by
  rw [← firstB_any (fun x => !inR x 0 99) l 0]
  go_enter Try.func160, Try.ntmps160
  go_wp2_with (go_at_call 188; refine (index78_any A c l hl _ hI).mono ?_; rintro e w' ⟨rfl, hb⟩)
  go_ret
  exact ⟨rfl, hb⟩
set_option maxRecDepth 100000 in
set_option maxHeartbeats 4000000 in
theorem index99_any (L : HL) (h : House) (hbl : h.bs.length ≤ 1000) (b : Nat) (A : Option Addr) (c : Nat) (l : List Int) (hl : l.length ≤ 1000) (w : World) (hI : IntsAt w w.heap.size A l) (hB : HBox w b L h) :
    Calls Try.prog 188 #[.slice A l.length c, .func (.func 210) #[] #[.pointer (some ⟨b, 0, none⟩)]] w fun e w' => e = .returned (.int .i64 (firstB (fun x => !inR x 0 (h.bs.length - 1)) l 0)) ∧ Below w.heap.size w w' := by
  have HI := Lib.hid hI
  clear hI
  have HBX := Lib.hid hB
  clear hB
  go_enter Try.func188, Try.ntmps188
  go_wp2
  go_loopw [5, 8] (fun _ i wr => ∃ k : Nat, k ≤ l.length ∧ i = .int .i64 k ∧ Hid (firstB (fun x => !inR x 0 (h.bs.length - 1)) l 0 = firstB (fun x => !inR x 0 (h.bs.length - 1)) (l.drop k) k) ∧ Below w.heap.size w wr) (fun _ i _ => l.length - (intOf i).toNat)
  case atStart => exact ⟨0, Nat.zero_le _, rfl, Lib.hid (by rw [List.drop_zero]), Below.refl _ _⟩
  case round =>
    obtain ⟨k, hk, rfl, hF, hb⟩ := hrel
    by_cases hlt : k < l.length
    · obtain ⟨x, hx⟩ : ∃ x, l[k]? = some x := ⟨_, List.getElem?_eq_getElem hlt⟩
      obtain ⟨b1, o1, rfl, b1lt, d1⟩ := HI.out.at_ hx
      have d2 := below_cell hb d1
      have HX := Lib.hid hx
      clear hx d1
      have hsz := hb.size
      cases hp : (fun x => !inR x 0 (h.bs.length - 1)) x
      · have HPX := Lib.hid hp
        have hp' : inR x 0 (h.bs.length - 1) = true := by simpa using hp
        clear hp
        go_wp2_with (go_at_call 210; refine (good1_any L h b _ _ hbl (HBX.out.of (hb.block _ HBX.out.lt))).mono ?_; rintro e W5 ⟨rfl, hb5⟩)
        go_roundw
        case rel => exact ⟨k + 1, by omega, by go_num, Lib.hid (by rw [hF.out]; exact firstB_no HX.out HPX.out), hb.trans (hb5.mono hsz)⟩
        case measure => simp [intOf]; omega
      · have HPX := Lib.hid hp
        have hp' : inR x 0 (h.bs.length - 1) = false := by simpa using hp
        clear hp
        go_wp2_with (go_at_call 210; refine (good1_any L h b _ _ hbl (HBX.out.of (hb.block _ HBX.out.lt))).mono ?_; rintro e W5 ⟨rfl, hb5⟩)
        go_ret
        exact ⟨by rw [hF.out, firstB_yes HX.out HPX.out]; rfl, hb.trans (hb5.mono hsz)⟩
    · obtain rfl : k = l.length := by omega
      go_wp2
      go_ret
      exact ⟨by rw [hF.out, firstB_end]; rfl, hb⟩
theorem contains99_any (L : HL) (h : House) (hbl : h.bs.length ≤ 1000) (b : Nat) (A : Option Addr) (c : Nat) (l : List Int) (hl : l.length ≤ 1000) (w : World) (hI : IntsAt w w.heap.size A l) (hB : HBox w b L h) :
    Calls Try.prog 160 #[.slice A l.length c, .func (.func 210) #[] #[.pointer (some ⟨b, 0, none⟩)]] w fun e w' => e = .returned (.bool (l.any (fun x => !inR x 0 (h.bs.length - 1)))) ∧ Below w.heap.size w w' := by
  rw [← firstB_any (fun x => !inR x 0 (h.bs.length - 1)) l 0]
  go_enter Try.func160, Try.ntmps160
  go_wp2_with (go_at_call 188; refine (index99_any L h hbl b A c l hl _ hI hB).mono ?_; rintro e w' ⟨rfl, hb⟩)
  go_ret
  exact ⟨rfl, hb⟩
theorem allTo_bad {p : Int × Int → Bool} {l : List (Int × Int)} {k : Nat} {x : Int × Int} (hx : l[k]? = some x) (hp : p x = false) : l.all p = false := by
  rw [List.all_eq_false]
  exact ⟨x, List.mem_of_getElem? hx, by simp [hp]⟩
theorem allTo_good {p : Int × Int → Bool} {l : List (Int × Int)} (h : ∀ j x, j < l.length → l[j]? = some x → p x = true) : l.all p = true := by
  rw [List.all_eq_true]
  intro x hx
  obtain ⟨j, hj⟩ := List.getElem?_of_mem hx
  exact h j x (List.getElem?_eq_some_iff.1 hj).1 hj
theorem allTo_step {p : Int × Int → Bool} {l : List (Int × Int)} {k : Nat} {x : Int × Int} (h : ∀ j x, j < k → l[j]? = some x → p x = true) (hx : l[k]? = some x) (hk : p x = true) : ∀ j x, j < k + 1 → l[j]? = some x → p x = true := by
  intro j y hj hy
  by_cases e : j = k
  · subst e; rw [hx] at hy; cases hy; exact hk
  · exact h j y (by omega) hy
theorem ckH_yes {h : House} (hv : validH h = true) : ckH h = 0 := by simp [ckH, hv]
theorem ckH_no {h : House} (hv : validH h = false) : ckH h = 80 := by simp [ckH, hv]
theorem validH_parts {h : House} (h0 : bigOK h = true) (h1 : h.ks.all kindOK = true) (h2 : h.ps.all (partOK h.ks.length) = true) : validH h = h.bs.all fun b => inR b 0 99 := by
  simp [validH, h0, h1, h2]
theorem any_not_all (l : List Int) (p : Int → Bool) : l.any (fun x => !p x) = !l.all p := by
  rw [Bool.eq_iff_iff]; simp

set_option maxRecDepth 100000 in
set_option maxHeartbeats 4000000 in
theorem check_no (L : HL) (h : House) (hn : h.ks.length ≤ 1000 ∧ h.ps.length ≤ 1000 ∧ h.bs.length ≤ 1000) (hv : bigOK h = false) (w : World) :
    Calls Try.prog 125 #[L.enc h] w fun e w' => e = .returned (.int .i64 (ckH h)) ∧ Below w.heap.size w w' := by
  obtain ⟨n1, n2, n3⟩ := hn
  have hv2 : ckH h = 80 := ckH_no (by simp [validH, hv])
  rw [hv2]
  clear hv2
  have hbw : Below w.heap.size w (w.alloc (.cells #[.slice L.Ak h.ks.length L.ck, .int .i64 h.fl, .slice L.Ap h.ps.length L.cp, .slice L.Ab h.bs.length L.cb] 27)) := (Below.refl _ _).alloc (Nat.le_refl _) _
  obtain ⟨Ak, ck, Ap, cp, Ab, cb⟩ := L
  by_cases k1 : h.ks.length ≤ 3
  · cases f1 : inR h.fl 0 9
    · clear hv
      go_enter Try.func125, Try.ntmps125
      go_wp2_with (go_at_call 171; refine (between_any _ _ _ _).mono ?_; rintro e w' ⟨rfl, rfl⟩)
      go_ret
      exact ⟨rfl, hbw⟩
    · by_cases p1 : h.ps.length ≤ 6
      · have b1 : 4 < h.bs.length := by
          have : ¬ h.bs.length ≤ 4 := fun hb => by simp [bigOK, k1, f1, p1, hb] at hv
          omega
        clear hv
        go_enter Try.func125, Try.ntmps125
        go_wp2_with (go_at_call 171; refine (between_any _ _ _ _).mono ?_; rintro e w' ⟨rfl, rfl⟩)
        go_ret
        exact ⟨rfl, hbw⟩
      · have p2 : 6 < h.ps.length := by omega
        clear hv p1
        go_enter Try.func125, Try.ntmps125
        go_wp2_with (go_at_call 171; refine (between_any _ _ _ _).mono ?_; rintro e w' ⟨rfl, rfl⟩)
        go_ret
        exact ⟨rfl, hbw⟩
  · have k2 : 3 < h.ks.length := by omega
    clear hv k1
    go_enter Try.func125, Try.ntmps125
    go_wp2_with (go_at_call 171; refine (between_any _ _ _ _).mono ?_; rintro e w' ⟨rfl, rfl⟩)
    go_ret
    exact ⟨rfl, hbw⟩

set_option maxRecDepth 100000 in
set_option maxHeartbeats 4000000 in
theorem check_yes (L : HL) (h : House) (hv : bigOK h = true) (w : World) (hH : HouseAt w w.heap.size L h) :
    Calls Try.prog 125 #[L.enc h] w fun e w' => e = .returned (.int .i64 (ckH h)) ∧ Below w.heap.size w w' := by
  have hv' := hv
  simp only [bigOK, Bool.and_eq_true, decide_eq_true_eq] at hv'
  obtain ⟨k1, f1, p1, b1⟩ := hv'
  have HV := Lib.hid hv
  have HH := Lib.hid hH
  clear hv hH
  obtain ⟨Ak, ck, Ap, cp, Ab, cb⟩ := L
  go_enter Try.func125, Try.ntmps125
  go_wp2_with (go_at_call 171; refine (between_any _ _ _ _).mono ?_; rintro e w' ⟨rfl, rfl⟩)
  clear f1
  go_loopw [32] (fun i wr => ∃ k : Nat, k ≤ h.ks.length ∧ i = .int .i64 k ∧ Hid (∀ j x, j < k → h.ks[j]? = some x → kindOK x = true) ∧ Below w.heap.size w wr ∧ HBox wr w.heap.size ⟨Ak, ck, Ap, cp, Ab, cb⟩ h) (fun i _ => h.ks.length - (intOf i).toNat)
  case atStart => exact ⟨0, Nat.zero_le _, rfl, Lib.hid (fun j x hj => by omega), (Below.refl _ _).alloc (Nat.le_refl _) _, HBox.new w ⟨Ak, ck, Ap, cp, Ab, cb⟩ h⟩
  case round =>
    obtain ⟨k, hk, rfl, hok, hb, hB⟩ := hrel
    have hsz := hb.size
    by_cases hlt : k < h.ks.length
    · obtain ⟨x, hx⟩ : ∃ x, h.ks[k]? = some x := ⟨_, List.getElem?_eq_getElem hlt⟩
      obtain ⟨bk, ok, rfl, hbk, d1, d2⟩ := HH.out.k.at_ hx
      have e1 := below_cell hb d1
      have e2 := below_cell hb d2
      have HX := Lib.hid hx
      clear hx d1 d2
      cases h1 : inR x.1 0 9
      · have hno : Hid (kindOK x = false) := Lib.hid (by rw [kindOK, h1]; rfl)
        go_wp2_with (go_at_call 171; refine (between_any _ _ _ _).mono ?_; rintro e w' ⟨rfl, rfl⟩)
        go_ret
        exact ⟨by rw [ckH_no (by simp [validH, allTo_bad HX.out hno.out])]; rfl, hb.alloc hsz _⟩
      · cases h2 : inR x.2 0 20
        · have hno : Hid (kindOK x = false) := Lib.hid (by rw [kindOK, h1, h2]; rfl)
          go_wp2_with (go_at_call 171; refine (between_any _ _ _ _).mono ?_; rintro e w' ⟨rfl, rfl⟩)
          go_ret
          exact ⟨by rw [ckH_no (by simp [validH, allTo_bad HX.out hno.out])]; rfl, hb.alloc hsz _⟩
        · have hyes : Hid (kindOK x = true) := Lib.hid (by rw [kindOK, h1, h2]; rfl)
          go_wp2_with (go_at_call 171; refine (between_any _ _ _ _).mono ?_; rintro e w' ⟨rfl, rfl⟩)
          go_roundw
          case rel => exact ⟨k + 1, by omega, by go_num, Lib.hid (allTo_step hok.out HX.out hyes.out), hb.alloc hsz _, hB.of (Below.heap_alloc _ _ _ hB.lt)⟩
          case measure => simp [intOf]; omega
    · obtain rfl : k = h.ks.length := by omega
      have hkall : Hid (h.ks.all kindOK = true) := Lib.hid (allTo_good hok.out)
      clear hok hlt hk
      obtain ⟨g0, g1, g2, g3⟩ := hB.cells
      go_wp2
      clear g0 g1 g2 g3
      obtain ⟨wo, rfl⟩ : ∃ wo : World, wo = wr := ⟨_, rfl⟩
      go_loopw [50] (fun i wr => ∃ k : Nat, k ≤ h.ps.length ∧ i = .int .i64 k ∧ Hid (∀ j x, j < k → h.ps[j]? = some x → partOK h.ks.length x = true) ∧ Below w.heap.size w wr ∧ HBox wr w.heap.size ⟨Ak, ck, Ap, cp, Ab, cb⟩ h) (fun i _ => h.ps.length - (intOf i).toNat)
      case atStart => exact ⟨0, Nat.zero_le _, rfl, Lib.hid (fun j x hj => by omega), hb, hB⟩
      case round =>
        clear hb hB hsz
        obtain ⟨k, hk, rfl, hok, hb, hB⟩ := hrel
        have hsz := hb.size
        obtain ⟨g0, g1, g2, g3⟩ := hB.cells
        have hlt0 : w.heap.size < wr.heap.size := hB.lt
        have hne0 : ¬ w.heap.size = wr.heap.size := by omega
        by_cases hlt : k < h.ps.length
        · obtain ⟨x, hx⟩ : ∃ x, h.ps[k]? = some x := ⟨_, List.getElem?_eq_getElem hlt⟩
          obtain ⟨bk, ok, rfl, hbk, d1, d2⟩ := HH.out.p.at_ hx
          have e1 := below_cell hb d1
          have e2 := below_cell hb d2
          have HX := Lib.hid hx
          clear hx d1 d2
          cases h1 : inR x.1 0 (h.ks.length - 1)
          · have hno : Hid (partOK h.ks.length x = false) := Lib.hid (by rw [partOK, h1]; rfl)
            go_wp2_with (go_at_call 171; refine (between_any _ _ _ _).mono ?_; rintro e w' ⟨rfl, rfl⟩)
            go_ret
            exact ⟨by rw [ckH_no (by simp [validH, allTo_bad HX.out hno.out])]; rfl, hb.alloc hsz _⟩
          · cases h2 : inR x.2 0 40
            · have hno : Hid (partOK h.ks.length x = false) := Lib.hid (by rw [partOK, h1, h2]; rfl)
              go_wp2_with (go_at_call 171; refine (between_any _ _ _ _).mono ?_; rintro e w' ⟨rfl, rfl⟩)
              go_ret
              exact ⟨by rw [ckH_no (by simp [validH, allTo_bad HX.out hno.out])]; rfl, hb.alloc hsz _⟩
            · have hyes : Hid (partOK h.ks.length x = true) := Lib.hid (by rw [partOK, h1, h2]; rfl)
              go_wp2_with (go_at_call 171; refine (between_any _ _ _ _).mono ?_; rintro e w' ⟨rfl, rfl⟩)
              go_roundw
              case rel => exact ⟨k + 1, by omega, by go_num, Lib.hid (allTo_step hok.out HX.out hyes.out), hb.alloc hsz _, hB.of (Below.heap_alloc _ _ _ hB.lt)⟩
              case measure => simp [intOf]; omega
        · obtain rfl : k = h.ps.length := by omega
          have hpall : Hid (h.ps.all (partOK h.ks.length) = true) := Lib.hid (allTo_good hok.out)
          have hI : IntsAt wr wr.heap.size Ab h.bs := (HH.out.b).keep hsz fun _ _ hlt => hb.cell (p := ⟨_, _, none⟩) hlt
          clear hok hlt hk
          cases ha : (h.bs.all fun b => inR b 0 99)
          · have ha2 : (h.bs.any fun x => !inR x 0 99) = true := by rw [any_not_all, ha]; rfl
            have HA := Lib.hid ha
            clear ha
            go_wp2_with (go_at_call 160; refine (contains78_any Ab cb h.bs (by omega) wr hI).mono ?_; rintro e W5 ⟨rfl, hb5⟩)
            go_ret
            exact ⟨by rw [ckH_no (by rw [validH_parts HV.out hkall.out hpall.out]; exact HA.out)]; rfl, hb.trans (hb5.mono hsz)⟩
          · have ha2 : (h.bs.any fun x => !inR x 0 99) = false := by rw [any_not_all, ha]; rfl
            have HA := Lib.hid ha
            clear ha
            go_wp2_with (go_at_call 160; refine (contains78_any Ab cb h.bs (by omega) wr hI).mono ?_; rintro e W5 ⟨rfl, hb5⟩)
            go_ret
            exact ⟨by rw [ckH_yes (by rw [validH_parts HV.out hkall.out hpall.out]; exact HA.out)]; rfl, hb.trans (hb5.mono hsz)⟩
theorem check_any (L : HL) (h : House) (hn : h.ks.length ≤ 1000 ∧ h.ps.length ≤ 1000 ∧ h.bs.length ≤ 1000) (w : World) (hH : HouseAt w w.heap.size L h) :
    Calls Try.prog 125 #[L.enc h] w fun e w' => e = .returned (.int .i64 (ckH h)) ∧ Below w.heap.size w w' := by
  cases hv : bigOK h
  · exact check_no L h hn hv w
  · exact check_yes L h hv w hH
theorem HOK.ofValid {h : House} (hv : validH h = true) : HOK h := by
  simp only [validH, bigOK, Bool.and_eq_true, decide_eq_true_eq, inR_true, List.all_eq_true] at hv
  obtain ⟨⟨k1, f1, p1, b1⟩, hk, hp, hb⟩ := hv
  refine ⟨k1, f1.1, f1.2, p1, b1, fun i x hx => ?_, fun i x hx => ?_, fun i x hx => hb x (List.mem_of_getElem? hx)⟩
  · have := hk x (List.mem_of_getElem? hx)
    simp only [kindOK, Bool.and_eq_true, inR_true] at this
    omega
  · have := hp x (List.mem_of_getElem? hx)
    simp only [partOK, Bool.and_eq_true, inR_true] at this
    omega
end Go.Proofs.Ytmbcpmnigggbaaa
namespace Go.Proofs.Ytmbcpmnigggbaaa
open Go.RowKit
/-! Plain lists: the parts of a barrel, its cask, and all lists with a barrel for each part. -/
def layAt (h : House) (c : Cask) (i : Int) : Cask := layC c (kindOf h (partOf h i.toNat)) (partOf h i.toNat)
/-- The cask with some parts. -/
def caskIn (h : House) (l : List Int) : Cask := l.foldl (layAt h) c0
theorem caskIn_snoc (h : House) (l : List Int) (i : Int) : caskIn h (l ++ [i]) = layAt h (caskIn h l) i := by simp [caskIn]
/-- The parts among the first k that are in a barrel. -/
def inTo (pack : List Int) (b : Int) : Nat → List Int
  | 0 => []
  | k + 1 => if barrelOf pack k = b then inTo pack b k ++ [(k : Int)] else inTo pack b k
def inOf (pack : List Int) (b : Int) : List Int := inTo pack b pack.length
theorem inTo_len (pack : List Int) (b : Int) : ∀ k, (inTo pack b k).length ≤ k
  | 0 => Nat.le_refl _
  | k + 1 => by
    have := inTo_len pack b k
    unfold inTo
    split
    · simp; omega
    · omega
theorem mem_inTo {pack : List Int} {b : Int} : ∀ {k : Nat} {i : Int}, i ∈ inTo pack b k ↔ ∃ j : Nat, i = (j : Int) ∧ j < k ∧ barrelOf pack j = b
  | 0, i => by simp [inTo]
  | k + 1, i => by
    unfold inTo
    split
    · rename_i hb
      rw [List.mem_append, mem_inTo]
      constructor
      · rintro (⟨j, h1, h2, h3⟩ | h)
        · exact ⟨j, h1, by omega, h3⟩
        · exact ⟨k, by simpa using h, by omega, hb⟩
      · rintro ⟨j, h1, h2, h3⟩
        by_cases e : j = k
        · right; subst e; simpa using h1
        · exact .inl ⟨j, h1, by omega, h3⟩
    · rename_i hb
      rw [mem_inTo]
      constructor
      · rintro ⟨j, h1, h2, h3⟩; exact ⟨j, h1, by omega, h3⟩
      · rintro ⟨j, h1, h2, h3⟩
        by_cases e : j = k
        · subst e; exact (hb h3).elim
        · exact ⟨j, h1, by omega, h3⟩

theorem casksTo_at (h : House) (pack : List Int) (b : Nat) (hb : b < 5) : ∀ k, (∀ j, j < k → -1 ≤ barrelOf pack j ∧ barrelOf pack j ≤ 4) → (casksTo h pack k).getD b c0 = caskIn h (inTo pack b k)
  | 0, _ => by
    simp only [casksTo, inTo, caskIn, List.foldl_nil]
    match b, hb with
    | 0, _ => rfl
    | 1, _ => rfl
    | 2, _ => rfl
    | 3, _ => rfl
    | 4, _ => rfl
  | k + 1, hr => by
    have ih := casksTo_at h pack b hb k (fun j hj => hr j (by omega))
    obtain ⟨r1, r2⟩ := hr k (by omega)
    unfold casksTo inTo
    by_cases hm : barrelOf pack k = -1
    · rw [if_pos hm, if_neg (by omega), ih]
    · rw [if_neg hm]
      by_cases hbb : barrelOf pack k = (b : Int)
      · rw [if_pos hbb, hbb, caskIn_snoc, ← ih]
        simp only [Int.toNat_natCast, List.getD]
        rw [List.getElem?_set_self (by rw [casksTo_len]; omega)]
        simp [layAt]
      · rw [if_neg hbb, ← ih]
        simp only [List.getD]
        rw [List.getElem?_set_ne (by omega)]

/-- All parts are parts of the house. -/
def PartsOK (h : House) (l : List Int) : Prop := ∀ i ∈ l, 0 ≤ i ∧ i < h.ps.length
theorem layAt_upto {h : House} (hv : HOK h) {c : Cask} {k : Nat} (hc : c.upto k) {i : Int} (hi : 0 ≤ i ∧ i < h.ps.length) : (layAt h c i).upto (k + 1) := by
  obtain ⟨kk, -, -, -, ⟨p2, p3⟩, k0, k1, k2, k3⟩ := hv.part (k := i.toNat) (by omega)
  obtain ⟨n0, n1, p0, p1, s0, s1, d0, d1⟩ := hc
  exact ⟨by simp only [layAt, layC]; omega, by simp only [layAt, layC]; omega, by simp only [layAt, layC]; omega, by simp only [layAt, layC]; omega, by simp only [layAt, layC]; omega, by simp only [layAt, layC]; omega, by simp only [layAt, layC]; omega, by simp only [layAt, layC]; omega⟩
theorem snoc_ind {α : Type} {P : List α → Prop} (h0 : P []) (h1 : ∀ l x, P l → P (l ++ [x])) (l : List α) : P l := by
  suffices h : ∀ l : List α, P l.reverse by simpa using h l.reverse
  intro l
  induction l with
  | nil => simpa using h0
  | cons x l ih => rw [List.reverse_cons]; exact h1 _ _ ih
theorem caskIn_upto {h : House} (hv : HOK h) (l : List Int) : PartsOK h l → (caskIn h l).upto l.length := by
  refine snoc_ind (P := fun l => PartsOK h l → (caskIn h l).upto l.length) ?_ ?_ l
  · intro _; exact ⟨by simp [caskIn, c0], by simp [caskIn, c0], by simp [caskIn, c0], by simp [caskIn, c0], by simp [caskIn, c0], by simp [caskIn, c0], by simp [caskIn, c0], by simp [caskIn, c0]⟩
  · intro l x ih hp
    rw [caskIn_snoc, List.length_append]
    exact layAt_upto hv (ih fun i hi => hp i (by simp [hi])) (hp x (by simp))
theorem inTo_parts {h : House} {pack : List Int} {b : Int} {k : Nat} (hk : k ≤ h.ps.length) : PartsOK h (inTo pack b k) := fun i hi => by
  obtain ⟨j, rfl, hj, -⟩ := mem_inTo.1 hi
  omega

/-- Pounds and salt of a barrel. -/
def needC (h : House) (l : List Int) : Int := (caskIn h l).p + saltC h.fl (caskIn h l)
/-- No barrel is over, with a list that may be too short. -/
def fitsR (h : House) (pack : List Int) : Bool := (List.range h.bs.length).all fun b => decide (needC h (inOf pack b) ≤ h.bs.getD b 0)
theorem fitsR_true {h : House} {pack : List Int} : fitsR h pack = true ↔ ∀ b, b < h.bs.length → needC h (inOf pack b) ≤ h.bs.getD b 0 := by
  simp [fitsR]

theorem cask_n (h : House) (l : List Int) : (caskIn h l).n = l.length :=
  snoc_ind (P := fun l => (caskIn h l).n = l.length) rfl (fun l x ih => by rw [caskIn_snoc, List.length_append]; simp only [layAt, layC, ih]; simp) l
/-- Nothing of a cask is less. -/
structure Cask.le (a b : Cask) : Prop where
  n : a.n ≤ b.n
  p : a.p ≤ b.p
  s : a.s ≤ b.s
  d : a.d ≤ b.d
theorem PartsOK.sub {h : House} {l l' : List Int} (hp : PartsOK h l') (hs : l.Sublist l') : PartsOK h l := fun i hi => hp i (hs.subset hi)
end Go.Proofs.Ytmbcpmnigggbaaa
