import Derived.Laws.AppendOwn
import Derived.Laws.AppendOwnNone
import Derived.Maps.AppendAt
import Derived.OwnWalk
import Derived.Test.YtmbcpmnigggbaaaLiD6
import Derived.WalkMore
import Derived.Deep.LoopGhost
namespace Go.Proofs.Ytmbcpmnigggbaaa.Li
open Go.RowKit

/-! Appending: numbers, pairs of numbers, and lists of numbers, in memory of the call's own. -/
theorem own_below {W W' : World} {base e size : Nat} {v : Value} {n : Nat} {xs : List Value} {n₀ : Nat} (h : W.ownsRow base e size v n xs) (hg : W.grownBy W' v.ownBlock) (hn : n₀ ≤ W.heap.size) (hb : n₀ ≤ base) : Below n₀ W W' := by
  refine (Below.refl n₀ W).grown hg hn fun j ej => ?_
  rcases h.2 with ⟨rfl, _⟩ | ⟨g, cap, cur, rfl, hb2, _, _⟩
  · simp [Value.ownBlock] at ej
  · obtain rfl : g = j := by simpa [Value.ownBlock] using ej
    omega
/-- The slice v owns the numbers l, in a row of its own (from base on). -/
def Ints (W : World) (base : Nat) (v : Value) (l : List Int) : Prop := W.ownsRow base 3 1 v l.length (l.map (Value.int .i64))
theorem ints_made (w : World) (n₀ : Nat) (hn : n₀ ≤ w.heap.size) : Ints (w.alloc (.cells #[] 3)) n₀ (.slice (some ⟨w.heap.size, 0, none⟩) 0 0) [] :=
  World.ownsRow_made w #[] 0 hn (by unfold maxLen; omega) rfl
/-- What a slice of numbers reads as: with its block. -/
def IntsIn (W : World) (lo hi : Nat) (A : Option Addr) (l : List Int) : Prop :=
  l = [] ∨ ∃ b off, A = some ⟨b, off, none⟩ ∧ lo ≤ b ∧ b < hi ∧ ∀ i x, l[i]? = some x → W.cell? ⟨b, off + i, none⟩ = some (.int .i64 x)
theorem IntsIn.at_ {W : World} {lo hi : Nat} {A : Option Addr} {l : List Int} (h : IntsIn W lo hi A l) : IntsAt W hi A l := by
  rcases h with h | ⟨b, off, h1, _, h2, h3⟩
  · exact .inl h
  · exact .inr ⟨b, off, h1, h2, h3⟩
theorem IntsIn.keep {W W' : World} {lo hi lo' hi' : Nat} {A : Option Addr} {l : List Int} (h : IntsIn W lo hi A l) (h1 : lo' ≤ lo) (h2 : hi ≤ hi') (hk : ∀ b o, lo ≤ b → b < hi → W'.cell? ⟨b, o, none⟩ = W.cell? ⟨b, o, none⟩) : IntsIn W' lo' hi' A l := by
  rcases h with h | ⟨b, off, e, h3, h4, h5⟩
  · exact .inl h
  · exact .inr ⟨b, off, e, by omega, by omega, fun i x hx => by rw [hk _ _ h3 h4]; exact h5 i x hx⟩
theorem IntsIn.below {W W' : World} {lo hi n : Nat} {A : Option Addr} {l : List Int} (h : IntsIn W lo hi A l) (hb : Below n W W') (hn : hi ≤ n) : IntsIn W' lo hi A l :=
  h.keep (Nat.le_refl _) (Nat.le_refl _) fun b o _ hlt => hb.cell (p := ⟨b, o, none⟩) (by show b < n; omega)
theorem Ints.lay {W : World} {base : Nat} {v : Value} {l : List Int} (h : Ints W base v l) : ∃ A c, v = .slice A l.length c ∧ (A = none → c = 0 ∧ l = []) ∧ l.length ≤ c ∧ IntsIn W base W.heap.size A l := by
  rcases h.2 with ⟨rfl, h0⟩ | ⟨g, cap, cur, rfl, hb, hg, h4, h5, h6, h7⟩
  · have : l = [] := List.length_eq_zero_iff.1 h0
    exact ⟨none, 0, by rw [h0], fun _ => ⟨rfl, this⟩, by omega, .inl this⟩
  · refine ⟨some ⟨g, 0, none⟩, cap, rfl, fun h => (by cases h), h4, .inr ⟨g, 0, rfl, hb, (Array.getElem?_eq_some_iff.1 hg).1, fun i x hx => ?_⟩⟩
    have hc := World.ownsRow.cells h (g := g) rfl i (.int .i64 x) (by rw [List.getElem?_map, hx]; rfl)
    rw [addr_add] at hc; exact hc
theorem Ints.below_ {W W' : World} {base n : Nat} {v : Value} {l : List Int} (h : Ints W base v l) (hb : Below n W W') (hn : W.heap.size ≤ n) : Ints W' base v l := by
  refine ⟨h.1, ?_⟩
  rcases h.2 with h2 | ⟨g, cap, cur, e, hb2, hg, h4⟩
  · exact .inl h2
  · exact .inr ⟨g, cap, cur, e, hb2, (hb.block g (Nat.lt_of_lt_of_le (Array.getElem?_eq_some_iff.1 hg).1 hn)).trans hg, h4⟩
theorem Ints.mono {W : World} {base base' : Nat} {v : Value} {l : List Int} (h : Ints W base v l) (hb : base' ≤ base) : Ints W base' v l := by
  refine ⟨h.1, ?_⟩
  rcases h.2 with h2 | ⟨g, cap, cur, e, hb2, hg, h4⟩
  · exact .inl h2
  · exact .inr ⟨g, cap, cur, e, by omega, hg, h4⟩
theorem Ints.alloc {W : World} {base : Nat} {v : Value} {l : List Int} (h : Ints W base v l) (o : Obj) : Ints (W.alloc o) base v l := World.ownsRow.alloc h o

theorem ints_news {w : World} {hi : Nat} {ad : Addr} {l : List Int} (hI : IntsAt w hi (some ad) l) : ∀ j u, (l.map (Value.int .i64))[j]? = some u → w.cell? (ad.add j) = some u := by
  intro j u hj
  rcases hI with rfl | ⟨b, off, e, _, hc⟩
  · simp at hj
  · cases e
    rw [List.getElem?_map] at hj
    cases hx : l[j]? with
    | none => rw [hx] at hj; simp at hj
    | some y =>
      rw [hx] at hj
      simp at hj
      subst hj
      rw [addr_add]
      exact hc j y hx
theorem ints_one (l : List Int) : ∀ u ∈ l.map (Value.int .i64), u.oneCell' = true := by
  intro u hu
  obtain ⟨y, _, rfl⟩ := List.mem_map.1 hu
  rfl
/-! Pairs. -/
def pairCells : List (Int × Int) → List Value
  | [] => []
  | x :: xs => .int .i64 x.1 :: .int .i64 x.2 :: pairCells xs
theorem pairCells_len : ∀ (ns : List (Int × Int)), (pairCells ns).length = ns.length * 2
  | [] => rfl
  | x :: xs => by simp only [pairCells, List.length_cons, pairCells_len xs]; omega
theorem pairCells_one : ∀ (ns : List (Int × Int)), ∀ u ∈ pairCells ns, u.oneCell' = true
  | [], _, h => by simp [pairCells] at h
  | x :: xs, u, h => by
    simp only [pairCells, List.mem_cons] at h
    rcases h with rfl | rfl | h
    · rfl
    · rfl
    · exact pairCells_one xs u h
theorem pairCells_at : ∀ (ns : List (Int × Int)) (i : Nat) (x : Int × Int), ns[i]? = some x → (pairCells ns)[i * 2]? = some (.int .i64 x.1) ∧ (pairCells ns)[i * 2 + 1]? = some (.int .i64 x.2)
  | [], i, x, h => by simp at h
  | y :: ys, 0, x, h => by
    simp at h; subst h; exact ⟨rfl, rfl⟩
  | y :: ys, i + 1, x, h => by
    have := pairCells_at ys i x (by simpa using h)
    have e : (i + 1) * 2 = i * 2 + 1 + 1 := by omega
    rw [e]
    simp only [pairCells, List.getElem?_cons_succ]
    exact this
theorem pairCells_app : ∀ (a b : List (Int × Int)), pairCells (a ++ b) = pairCells a ++ pairCells b
  | [], b => rfl
  | x :: a, b => by simp only [List.cons_append, pairCells, pairCells_app a b]
theorem pairs_news {W : World} {B : Nat} {ad : Addr} {ns : List (Int × Int)} (h : PairsAt W B (some ad) ns) : ∀ j u, (pairCells ns)[j]? = some u → W.cell? (ad.add j) = some u := by
  intro j u hj
  have hlt := (List.getElem?_eq_some_iff.1 hj).1
  rw [pairCells_len] at hlt
  have hi : j / 2 < ns.length := by omega
  obtain ⟨b', off', e, _, c1, c2⟩ := h.at_ (List.getElem?_eq_getElem hi)
  cases e
  obtain ⟨d1, d2⟩ := pairCells_at ns _ _ (List.getElem?_eq_getElem hi)
  have : j = j / 2 * 2 ∨ j = j / 2 * 2 + 1 := by omega
  rcases this with e | e
  · rw [e] at hj ⊢; rw [d1] at hj; cases hj; rw [addr_add]; exact c1
  · rw [e] at hj ⊢; rw [d2] at hj; cases hj; rw [addr_add]; exact c2
/-- The slice v owns the pairs. -/
def OwnsP (W : World) (t : TypeId) (base : Nat) (v : Value) (ns : List (Int × Int)) : Prop := W.ownsRow base t 2 v ns.length (pairCells ns)
theorem OwnsP.lay {W : World} {t : TypeId} {base : Nat} {v : Value} {ns : List (Int × Int)} (h : OwnsP W t base v ns) : ∃ A c, v = .slice A ns.length c ∧ (A = none → c = 0 ∧ ns = []) ∧ PairsAt W W.heap.size A ns := by
  rcases h.2 with ⟨rfl, h0⟩ | ⟨g, cap, cur, rfl, hb, hg, h4, h5, h6, h7⟩
  · have : ns = [] := List.length_eq_zero_iff.1 h0
    exact ⟨none, 0, by rw [h0], fun _ => ⟨rfl, this⟩, .inl this⟩
  · refine ⟨some ⟨g, 0, none⟩, cap, rfl, fun h => (by cases h), .inr ⟨g, 0, rfl, (Array.getElem?_eq_some_iff.1 hg).1, fun i x hx => ?_⟩⟩
    obtain ⟨d1, d2⟩ := pairCells_at ns i x hx
    have c1 := World.ownsRow.cells h (g := g) rfl _ _ d1
    have c2 := World.ownsRow.cells h (g := g) rfl _ _ d2
    rw [addr_add] at c1 c2
    exact ⟨c1, c2⟩
theorem OwnsP.below_ {W W' : World} {t : TypeId} {base n : Nat} {v : Value} {l : List (Int × Int)} (h : OwnsP W t base v l) (hb : Below n W W') (hn : W.heap.size ≤ n) : OwnsP W' t base v l := by
  refine ⟨h.1, ?_⟩
  rcases h.2 with h2 | ⟨g, cap, cur, e, hb2, hg, h4⟩
  · exact .inl h2
  · exact .inr ⟨g, cap, cur, e, hb2, (hb.block g (Nat.lt_of_lt_of_le (Array.getElem?_eq_some_iff.1 hg).1 hn)).trans hg, h4⟩
/-! Lists of lists. -/
/-- The slice at A holds the lists; each lies in a block from lo on. -/
def RowsIn (W : World) (lo hi : Nat) (A : Option Addr) (rs : List (List Int)) : Prop :=
  rs = [] ∨ ∃ b off, A = some ⟨b, off, none⟩ ∧ lo ≤ b ∧ b < hi ∧ ∀ i r, rs[i]? = some r → ∃ A' c', W.cell? ⟨b, off + i, none⟩ = some (.slice A' r.length c') ∧ (A' = none → c' = 0 ∧ r = []) ∧ IntsIn W lo hi A' r
theorem RowsIn.keep {W W' : World} {lo hi lo' hi' : Nat} {A : Option Addr} {l : List (List Int)} (h : RowsIn W lo hi A l) (h1 : lo' ≤ lo) (h2 : hi ≤ hi') (hk : ∀ b o, lo ≤ b → b < hi → W'.cell? ⟨b, o, none⟩ = W.cell? ⟨b, o, none⟩) : RowsIn W' lo' hi' A l := by
  rcases h with h | ⟨b, off, e, h3, h4, h5⟩
  · exact .inl h
  · refine .inr ⟨b, off, e, by omega, by omega, fun i x hx => ?_⟩
    obtain ⟨A', c', g1, g2, g3⟩ := h5 i x hx
    exact ⟨A', c', by rw [hk _ _ h3 h4]; exact g1, g2, g3.keep h1 h2 hk⟩
theorem RowsIn.below {W W' : World} {lo hi n : Nat} {A : Option Addr} {l : List (List Int)} (h : RowsIn W lo hi A l) (hb : Below n W W') (hn : hi ≤ n) : RowsIn W' lo hi A l :=
  h.keep (Nat.le_refl _) (Nat.le_refl _) fun b o _ hlt => hb.cell (p := ⟨b, o, none⟩) (by show b < n; omega)
theorem RowsIn.at_ {W : World} {lo hi : Nat} {A : Option Addr} {rs : List (List Int)} (h : RowsIn W lo hi A rs) {k : Nat} {r : List Int} (hr : rs[k]? = some r) : ∃ b off A' c', A = some ⟨b, off, none⟩ ∧ b < hi ∧ W.cell? ⟨b, off + k, none⟩ = some (.slice A' r.length c') ∧ (A' = none → c' = 0 ∧ r = []) ∧ IntsIn W lo hi A' r := by
  rcases h with h | ⟨b, off, e, h3, h4, h5⟩
  · subst h; simp at hr
  · obtain ⟨A', c', g1, g2, g3⟩ := h5 k r hr
    exact ⟨b, off, A', c', e, h4, g1, g2, g3⟩
/-- The cells of a slice of lists. -/
def RowV (W : World) (lo hi : Nat) (no : Option Nat) (u : Value) (r : List Int) : Prop := ∃ A' c', u = .slice A' r.length c' ∧ (A' = none → c' = 0 ∧ r = []) ∧ (r = [] ∨ ∃ b off, A' = some ⟨b, off, none⟩ ∧ lo ≤ b ∧ b < hi ∧ some b ≠ no ∧ ∀ i x, r[i]? = some x → W.cell? ⟨b, off + i, none⟩ = some (.int .i64 x))
/-- The slice v owns a row of lists, each of which lies elsewhere, in a block from lo on. -/
def OwnsR (W : World) (lo base : Nat) (v : Value) (rs : List (List Int)) : Prop :=
  ∃ vs : List Value, W.ownsRow base 25 1 v rs.length vs ∧ ∀ (i : Nat) (r : List Int), rs[i]? = some r → ∃ u, vs[i]? = some u ∧ RowV W lo W.heap.size v.ownBlock u r
theorem OwnsR.lay {W : World} {lo base : Nat} {v : Value} {rs : List (List Int)} (h : OwnsR W lo base v rs) (hlo : lo ≤ base) : ∃ A c, v = .slice A rs.length c ∧ (A = none → c = 0 ∧ rs = []) ∧ RowsIn W lo W.heap.size A rs := by
  obtain ⟨vs, h, hv⟩ := h
  have hh := h
  rcases hh.2 with ⟨rfl, h0⟩ | ⟨g, cap, cur, rfl, hb, hg, h4, h5, h6, h7⟩
  · have : rs = [] := List.length_eq_zero_iff.1 h0
    exact ⟨none, 0, by rw [h0], fun _ => ⟨rfl, this⟩, .inl this⟩
  · refine ⟨some ⟨g, 0, none⟩, cap, rfl, fun h => (by cases h), .inr ⟨g, 0, rfl, by omega, (Array.getElem?_eq_some_iff.1 hg).1, fun i r hr => ?_⟩⟩
    obtain ⟨u, hu, A', c', rfl, hA', hr'⟩ := hv i r hr
    have hc := World.ownsRow.cells h (g := g) rfl i _ hu
    rw [addr_add] at hc
    refine ⟨A', c', hc, hA', ?_⟩
    rcases hr' with hr' | ⟨b, off, e, q1, q2, q3, q4⟩
    · exact .inl hr'
    · exact .inr ⟨b, off, e, q1, q2, q4⟩
theorem OwnsR.below_ {W W' : World} {lo base n : Nat} {v : Value} {l : List (List Int)} (h : OwnsR W lo base v l) (hb : Below n W W') (hn : W.heap.size ≤ n) : OwnsR W' lo base v l := by
  obtain ⟨vs, h, hv⟩ := h
  refine ⟨vs, ⟨h.1, ?_⟩, fun i r hr => ?_⟩
  · rcases h.2 with h2 | ⟨g, cap, cur, e, hb2, hg, h4⟩
    · exact .inl h2
    · exact .inr ⟨g, cap, cur, e, hb2, (hb.block g (Nat.lt_of_lt_of_le (Array.getElem?_eq_some_iff.1 hg).1 hn)).trans hg, h4⟩
  · obtain ⟨u, hu, A', c', rfl, hA', hr'⟩ := hv i r hr
    refine ⟨_, hu, A', c', rfl, hA', ?_⟩
    rcases hr' with hr' | ⟨b, off, e, q1, q2, q3, q4⟩
    · exact .inl hr'
    · exact .inr ⟨b, off, e, q1, Nat.lt_of_lt_of_le q2 hb.size, q3, fun i x hx => (hb.cell (p := ⟨b, off + i, none⟩) (Nat.lt_of_lt_of_le q2 hn)).trans (q4 i x hx)⟩
theorem OwnsR.alloc {W : World} {lo base : Nat} {v : Value} {l : List (List Int)} (h : OwnsR W lo base v l) (o : Obj) : OwnsR (W.alloc o) lo base v l := h.below_ ((Below.refl _ W).alloc (Nat.le_refl _) o) (Nat.le_refl _)
open Go.RowKit

open Go.RowKit

end Go.Proofs.Ytmbcpmnigggbaaa.Li
namespace Go.Proofs.Ytmbcpmnigggbaaa.Li
open Go.RowKit

/-- The best places so far, in memory from B on. -/
def BestAt (W : World) (B : Nat) (v : Value) (l : List Int) : Prop := (l = [] ∧ v = .slice none 0 0) ∨ (l ≠ [] ∧ ∃ A c, v = .slice (some A) l.length c ∧ IntsFrom W B (some A) l)
theorem BestAt.below {W W' : World} {B : Nat} {v : Value} {l : List Int} (h : BestAt W B v l) (hb : Below W.heap.size W W') : BestAt W' B v l := by
  rcases h with h | ⟨h1, A, c, h2, h3⟩
  · exact .inl h
  · exact .inr ⟨h1, A, c, h2, h3.below hb⟩
open Go.RowKit

end Go.Proofs.Ytmbcpmnigggbaaa.Li
