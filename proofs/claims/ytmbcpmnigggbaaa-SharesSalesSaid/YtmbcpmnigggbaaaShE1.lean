import Derived.Test.YtmbcpmnigggbaaaShM3
import Derived.Test.YtmbcpmnigggbaaaShE0
import Derived.Laws.AppendOwn
import Derived.Laws.AppendOwnNone
import Derived.OwnWalk
namespace Go.Proofs.Ytmbcpmnigggbaaa.Sh
open Go.RowKit

theorem addr_add (b o j : Nat) : (⟨b, o, none⟩ : Addr).add j = ⟨b, o + j, none⟩ := by
  cases j with
  | zero => rfl
  | succ j => simp [Addr.add]
theorem nlt {W W' : World} {A : Option Addr} {ns : List Node} (h : Nodes W W.heap.size A ns) (hb : Below W.heap.size W W') : Nodes W' W'.heap.size A ns := (h.below hb).more hb.size

/-- The slice at A holds the numbers l. -/
def IntsAt (W : World) (B : Nat) (A : Option Addr) (l : List Int) : Prop :=
  l = [] ∨ ∃ b off, A = some ⟨b, off, none⟩ ∧ b < B ∧ ∀ i x, l[i]? = some x → W.cell? ⟨b, off + i, none⟩ = some (.int .i64 x)
theorem ilt {W W' : World} {A : Option Addr} {l : List Int} (h : IntsAt W W.heap.size A l) (hb : Below W.heap.size W W') : IntsAt W' W'.heap.size A l := by
  rcases h with h | ⟨b, off, hA, hlt, hc⟩
  · exact .inl h
  · exact .inr ⟨b, off, hA, Nat.lt_of_lt_of_le hlt hb.size, fun i x hx => (hb.cell (p := ⟨b, off + i, none⟩) hlt).trans (hc i x hx)⟩
theorem IntsAt.at_ {W : World} {B : Nat} {A : Option Addr} {l : List Int} (h : IntsAt W B A l) {k : Nat} {x : Int} (hx : l[k]? = some x) : ∃ b off, A = some ⟨b, off, none⟩ ∧ b < B ∧ W.cell? ⟨b, off + k, none⟩ = some (.int .i64 x) := by
  rcases h with h | ⟨b, off, hA, hb, hc⟩
  · subst h; simp at hx
  · exact ⟨b, off, hA, hb, hc k x hx⟩
theorem intsAt_nil {W : World} {B : Nat} {A : Option Addr} : IntsAt W B A [] := .inl rfl
theorem row_ints {W : World} {b : Nat} {l : List Int} (h : Row W b l) : IntsAt W W.heap.size (some ⟨b, 0, none⟩) l := .inr ⟨b, 0, rfl, Row.lt h, fun i x hx => by
  have hi := (List.getElem?_eq_some_iff.1 hx).1
  have := Row.cell h hi
  rw [hx] at this
  rw [Nat.zero_add]; exact this⟩

/-- The slice v owns the numbers l, in a row of its own (from base on). -/
def Ints (W : World) (base : Nat) (v : Value) (l : List Int) : Prop := W.ownsRow base 3 1 v l.length (l.map (Value.int .i64))
theorem ints_nil (W : World) (base : Nat) : Ints W base (.slice none 0 0) [] := World.ownsRow_nil W base 3 1
theorem Ints.lay {W : World} {base : Nat} {v : Value} {l : List Int} (h : Ints W base v l) : ∃ A c, v = .slice A l.length c ∧ (A = none → c = 0 ∧ l = []) ∧ IntsAt W W.heap.size A l := by
  rcases h.2 with ⟨rfl, h0⟩ | ⟨g, cap, cur, rfl, hb, hg, h4, h5, h6, h7⟩
  · have : l = [] := List.length_eq_zero_iff.1 h0
    exact ⟨none, 0, by rw [h0], fun _ => ⟨rfl, this⟩, .inl this⟩
  · refine ⟨some ⟨g, 0, none⟩, cap, rfl, fun h => (by cases h), .inr ⟨g, 0, rfl, (Array.getElem?_eq_some_iff.1 hg).1, fun i x hx => ?_⟩⟩
    have hc := World.ownsRow.cells h (g := g) rfl i (.int .i64 x) (by rw [List.getElem?_map, hx]; rfl)
    rw [addr_add] at hc; exact hc
theorem Ints.below_ {W W' : World} {base n : Nat} {v : Value} {l : List Int} (h : Ints W base v l) (hb : Below n W W') (hn : W.heap.size ≤ n) : Ints W' base v l := by
  refine ⟨h.1, ?_⟩
  rcases h.2 with h2 | ⟨g, cap, cur, e, hb2, hg, h4⟩
  · exact .inl h2
  · exact .inr ⟨g, cap, cur, e, hb2, (hb.block g (Nat.lt_of_lt_of_le (Array.getElem?_eq_some_iff.1 hg).1 hn)).trans hg, h4⟩

theorem own_below {W W' : World} {base e size : Nat} {v : Value} {n : Nat} {xs : List Value} {n₀ : Nat} (h : W.ownsRow base e size v n xs) (hg : W.grownBy W' v.ownBlock) (hn : n₀ ≤ W.heap.size) (hb : n₀ ≤ base) : Below n₀ W W' := by
  refine (Below.refl n₀ W).grown hg hn fun j ej => ?_
  rcases h.2 with ⟨rfl, _⟩ | ⟨g, cap, cur, rfl, hb2, _, _⟩
  · simp [Value.ownBlock] at ej
  · obtain rfl : g = j := by simpa [Value.ownBlock] using ej
    omega

/-- 'out = append(out, x)', out the call's own. -/
theorem wpl_app {ops : Array Oper} {rest : List Oper} {o : Oper} {a : Act} {w : World} {Q : Exit → Act → World → Prop} (hgd : o.guard = none) (s x : Operand)
    (ho : o.op = .call { callee := .builtin .append, args := #[s, x], argTypes := #[25, 25] }) (n₀ base : Nat) (v : Value) (l : List Int) (k : Int) (hs : a.eval s = v) (hown : Ints w base v l)
    (ad : Addr) (c : Nat) (hx : a.eval x = .slice (some ad) 1 c) (hc : w.cell? ad = some (.int .i64 k)) (hl : l.length ≤ 1000) (hbase : base ≤ w.heap.size) (hn : n₀ ≤ base)
    (h : ∀ v' w', Ints w' base v' (l ++ [k]) → Below n₀ w w' → wpList Try.prog ops Q rest (a.put o.dst v') w') : wpList Try.prog ops Q (o :: rest) a w := by
  obtain ⟨i0, hi, hz0, hz1, hz2⟩ := info_parts info3
  refine wpList_append_own w hgd s x 25 ho base 3 i0 (.int .i64 0) 1 8 Try.underlying25 hi hz0 hz1 hz2 rfl (by decide) v l.length (l.map (.int .i64)) hs hown ad 1 c [.int .i64 k] hx rfl ?_ ?_ ?_ ?_ hbase ?_
  · intro j u hj
    match j, hj with
    | 0, hj => simp at hj; subst hj; simpa [Addr.add] using hc
  · intro u hu; simp at hu; subst hu; rfl
  · unfold maxLen; omega
  · omega
  · intro v' w' h2 h3 _
    refine h v' w' ?_ (own_below hown h3 (by omega) hn)
    unfold Ints
    rw [List.length_append, List.map_append]
    exact h2

/-! The nodes' cells. -/
def nodeCells : List Node → List Value
  | [] => []
  | x :: xs => .int .i64 x.u :: .int .i64 x.w :: .int .i64 x.f :: nodeCells xs
theorem nodeCells_len : ∀ (ns : List Node), (nodeCells ns).length = ns.length * 3
  | [] => rfl
  | x :: xs => by simp only [nodeCells, List.length_cons, nodeCells_len xs]; omega
theorem nodeCells_one : ∀ (ns : List Node), ∀ u ∈ nodeCells ns, u.oneCell' = true
  | [], _, h => by simp [nodeCells] at h
  | x :: xs, u, h => by
    simp only [nodeCells, List.mem_cons] at h
    rcases h with rfl | rfl | rfl | h
    · rfl
    · rfl
    · rfl
    · exact nodeCells_one xs u h
theorem nodeCells_at : ∀ (ns : List Node) (i : Nat) (x : Node), ns[i]? = some x → (nodeCells ns)[i * 3]? = some (.int .i64 x.u) ∧ (nodeCells ns)[i * 3 + 1]? = some (.int .i64 x.w) ∧ (nodeCells ns)[i * 3 + 2]? = some (.int .i64 x.f)
  | [], i, x, h => by simp at h
  | y :: ys, 0, x, h => by
    simp at h; subst h; exact ⟨rfl, rfl, rfl⟩
  | y :: ys, i + 1, x, h => by
    have := nodeCells_at ys i x (by simpa using h)
    have e : (i + 1) * 3 = i * 3 + 1 + 1 + 1 := by omega
    rw [e]
    simp only [nodeCells, List.getElem?_cons_succ]
    exact this
theorem nodeCells_of {W : World} {b off B : Nat} {ns : List Node} (h : Nodes W B (some ⟨b, off, none⟩) ns) : ∀ j u, (nodeCells ns)[j]? = some u → W.cell? ((⟨b, off, none⟩ : Addr).add j) = some u := by
  intro j u hj
  have hlt := (List.getElem?_eq_some_iff.1 hj).1
  rw [nodeCells_len] at hlt
  have hi : j / 3 < ns.length := by omega
  obtain ⟨b', off', e, _, c1, c2, c3⟩ := h.at_ (List.getElem?_eq_getElem hi)
  cases e
  obtain ⟨d1, d2, d3⟩ := nodeCells_at ns _ _ (List.getElem?_eq_getElem hi)
  have : j = j / 3 * 3 ∨ j = j / 3 * 3 + 1 ∨ j = j / 3 * 3 + 2 := by omega
  rcases this with e | e | e
  · rw [e] at hj ⊢; rw [d1] at hj; cases hj; rw [addr_add]; exact c1
  · rw [e] at hj ⊢; rw [d2] at hj; cases hj; rw [addr_add]; exact c2
  · rw [e] at hj ⊢; rw [d3] at hj; cases hj; rw [addr_add]; exact c3
/-- The slice v owns the nodes. -/
def OwnsN (W : World) (t : TypeId) (base : Nat) (v : Value) (ns : List Node) : Prop := W.ownsRow base t 3 v ns.length (nodeCells ns)
theorem OwnsN.lay {W : World} {t : TypeId} {base : Nat} {v : Value} {ns : List Node} (h : OwnsN W t base v ns) : ∃ A c, v = .slice A ns.length c ∧ (A = none → c = 0 ∧ ns = []) ∧ Nodes W W.heap.size A ns := by
  rcases h.2 with ⟨rfl, h0⟩ | ⟨g, cap, cur, rfl, hb, hg, h4, h5, h6, h7⟩
  · have : ns = [] := List.length_eq_zero_iff.1 h0
    exact ⟨none, 0, by rw [h0], fun _ => ⟨rfl, this⟩, .inl this⟩
  · refine ⟨some ⟨g, 0, none⟩, cap, rfl, fun h => (by cases h), .inr ⟨g, 0, rfl, (Array.getElem?_eq_some_iff.1 hg).1, fun i x hx => ?_⟩⟩
    obtain ⟨d1, d2, d3⟩ := nodeCells_at ns i x hx
    have c1 := World.ownsRow.cells h (g := g) rfl _ _ d1
    have c2 := World.ownsRow.cells h (g := g) rfl _ _ d2
    have c3 := World.ownsRow.cells h (g := g) rfl _ _ d3
    rw [addr_add] at c1 c2 c3
    exact ⟨c1, c2, c3⟩
theorem info46 : (Try.prog.info? 158).map (fun i => (i.zero, i.size, i.bytes)) = some (some (.agg #[.int .i64 0, .int .i64 0, .int .i64 0]), 3, 24) := by kernel_rfl
/-- 'append([]T{}, xs...)', T of three numbers. -/
theorem wpl_copy {ops : Array Oper} {rest : List Oper} {o : Oper} {a : Act} {w : World} {Q : Exit → Act → World → Prop} (hgd : o.guard = none) (s x : Operand) (st et : TypeId) {it : TypeInfo}
    (hst : Try.prog.underlying st = some (.slice et)) (hi : Try.prog.info? et = some it) (hz0 : it.zero = some (.agg #[.int .i64 0, .int .i64 0, .int .i64 0])) (hz1 : it.size = 3) (hz2 : it.bytes = 24)
    (ho : o.op = .call { callee := .builtin .append, args := #[s, x], argTypes := #[st, st] }) (n₀ : Nat) (v : Value) (hs : a.eval s = v) (hown : OwnsN w et n₀ v [])
    (A : Option Addr) (c : Nat) (ns : List Node) (hA : A = none → c = 0 ∧ ns = []) (hx : a.eval x = .slice A ns.length c) (hN : Nodes w w.heap.size A ns) (hl : ns.length ≤ 1000) (hn : n₀ ≤ w.heap.size)
    (h : ∀ v' w', OwnsN w' et n₀ v' ns → Below n₀ w w' → wpList Try.prog ops Q rest (a.put o.dst v') w') : wpList Try.prog ops Q (o :: rest) a w := by
  cases A with
  | none =>
    obtain ⟨rfl, rfl⟩ := hA rfl
    exact wpList_append_own_none hgd s x st ho n₀ et it 3 hst hi v 0 [] hs hown hx (h v w hown (Below.refl _ _))
  | some ad =>
    refine wpList_append_own w hgd s x st ho n₀ et it _ 3 24 hst hi hz0 hz1 hz2 rfl (by decide) v 0 [] hs hown ad ns.length c (nodeCells ns) hx (nodeCells_len ns) ?_ (nodeCells_one ns) ?_ ?_ hn ?_
    · intro j u hj
      obtain ⟨b, off, rfl⟩ : ∃ b off, ad = ⟨b, off, none⟩ := by
        rcases hN with rfl | ⟨b, off, e, _⟩
        · simp [nodeCells] at hj
        · cases e; exact ⟨b, off, rfl⟩
      exact nodeCells_of hN j u hj
    · unfold maxLen; omega
    · omega
    · intro v' w' h2 h3 _
      refine h v' w' ?_ (own_below hown h3 hn (Nat.le_refl _))
      unfold OwnsN
      simpa using h2
theorem ownsN_made (w : World) (t : TypeId) (n₀ : Nat) (hn : n₀ ≤ w.heap.size) : OwnsN (w.alloc (.cells #[] t)) t n₀ (.slice (some ⟨w.heap.size, 0, none⟩) 0 0) [] :=
  World.ownsRow_made w #[] 0 hn (by unfold maxLen; omega) rfl
theorem OwnsN.alloc {W : World} {t : TypeId} {base : Nat} {v : Value} {ns : List Node} (h : OwnsN W t base v ns) (o : Obj) : OwnsN (W.alloc o) t base v ns := World.ownsRow.alloc h o
end Go.Proofs.Ytmbcpmnigggbaaa.Sh
