import Derived.Test.YtmbcpmnigggbaaaLiM5
import Derived.Test.YtmbcpmnigggbaaaRows
import Derived.WalkKit
import Derived.ProofKit
import Derived.OpenShut
import Derived.Carry
import Derived.Deep.Slices
import Derived.Deep.Fields
import Derived.ChangeSame
import Derived.Lib.SmallJoins
import Derived.ChangeSlices
import Derived.Test.YtmbcpmnigggbaaaC9
import Derived.Test.YtmbcpmnigggbaaaS4
import Derived.Test.YtmbcpmnigggbaaaC6
import Derived.Test.YtmbcpmnigggbaaaRI
import Derived.Maps.OwnOps
import Derived.Maps.OwnSet
import Derived.Maps.Own
import Derived.Maps.Views
import Derived.Test.YtmbcpmnigggbaaaRA
namespace Go.Proofs.Ytmbcpmnigggbaaa.Li
open Go.Joins Go.ChangeShapes Go.WideShapes Go.ChangeAt Go.RowKit Go.Deep

section
variable {H : Type} {enc : TypeId × Value → H} {P : Program} {w : World} {base : Nat} {spare : Nat → Bool} {held : Bool}
theorem open_slice_fields {t e : TypeId} {fs : Array Field} {fuel : Nat} {cs : List Value} {x : DataW H × List MemPlace} (ht : P.underlying t = some (.slice e)) (he : P.underlying e = some (.struct fs))
    (hone : oneCellFields P fs = true) (hC : P.cellsOf e = fs.size) (h : DataW.trod enc P w base spare held fuel t cs = some x) :
    (cs = [.slice none 0 0] ∧ x = (.nil, [])) ∨
    ∃ (a : Addr) (len cap m : Nat) (D : Nat → DataW H) (Pl : Nat → List MemPlace), cs = [.slice (some a) len cap] ∧ base ≤ a.block ∧ len ≤ cap ∧ cap ≤ maxLen ∧ m = (if spare a.block then cap else len) ∧
      x = (.slice ((List.range len).map D) ((List.range (m - len)).map fun j => D (len + j)), MemPlace.row a (m * fs.size) ++ (List.range m).flatMap Pl) ∧
      ∀ i, i < m → ∃ (ys : List (DataW H × List MemPlace)) (n : Nat), D i = .agg (ys.map (·.1)) ∧ Pl i = ys.flatMap (·.2) ∧ ys.length = fs.size ∧
        ∀ (j : Nat) (f : Field), fs[j]? = some f → ∃ (v : Value) (y : DataW H × List MemPlace), w.cell? (a.add (i * fs.size + j)) = some v ∧ ys[j]? = some y ∧ DataW.trod enc P w base spare held n f.type [v] = some y := by
  rcases open_slice ht h with h0 | ⟨a, len, cap, m, n, D, Pl, hcs, hb, hl, hm, hmm, hx, hi⟩
  · exact .inl h0
  · refine .inr ⟨a, len, cap, m, D, Pl, hcs, hb, hl, hm, hmm, by rw [hC] at hx; exact hx, fun i him => ?_⟩
    obtain ⟨cs', hc, ht'⟩ := hi i him
    rw [hC] at hc
    obtain ⟨ys, n', hn', hy, hlen, hyl, hf⟩ := DataW.trod_struct he ht'
    obtain ⟨_, hcl, hat⟩ := World.cells?_some hc
    simp only [Prod.mk.injEq] at hy
    refine ⟨ys, n', hy.1, hy.2, hyl, fun j f hj => ?_⟩
    obtain ⟨ho, hk⟩ := hone_of hone j f hj
    have hjl : j < fs.size := (Array.getElem?_eq_some_iff.1 hj).1
    have hcell := hat j hjl
    have hv : cs'[j]? = some (cs'[j]'(by omega)) := List.getElem?_eq_getElem (by omega)
    have h1 := hf j f hj
    rw [ho, hk] at h1
    have hone' : (cs'.drop j).take 1 = [cs'[j]'(by omega)] := by
      rw [List.drop_eq_getElem_cons (by omega)]
      rfl
    rw [hone'] at h1
    have hys : ys[j]? = some (ys[j]'(by omega)) := List.getElem?_eq_getElem (by omega)
    refine ⟨_, _, ?_, hys, h1.trans hys⟩
    rw [← Go.Deep.add_add, hcell, hv]
end

theorem list_of {α : Type} {Q : Nat → α → Prop} : ∀ (n : Nat), (∀ i, i < n → ∃ x, Q i x) → ∃ l : List α, l.length = n ∧ ∀ i x, l[i]? = some x → Q i x
  | 0, _ => ⟨[], rfl, fun i x h => by simp at h⟩
  | n + 1, h => by
    obtain ⟨l, hl, hq⟩ := list_of n (fun i hi => h i (by omega))
    obtain ⟨x, hx⟩ := h n (by omega)
    refine ⟨l ++ [x], by simp [hl], fun i y hy => ?_⟩
    by_cases hi : i < n
    · rw [List.getElem?_append_left (by omega)] at hy; exact hq i y hy
    · have hil := (List.getElem?_eq_some_iff.1 hy).1
      rw [List.length_append, List.length_singleton] at hil
      obtain rfl : i = n := by omega
      rw [List.getElem?_append_right (by omega), hl] at hy
      simp at hy
      subst hy
      exact hx
theorem spot_none {W : World} {a : Addr} {v : Value} (h : W.cell? a = some v) : a.spot = none := by
  unfold World.cell? at h
  split at h
  · cases hs : a.spot with
    | none => rfl
    | some s => simp [hs] at h
  · cases h
section
variable {H : Type} {enc : TypeId × Value → H} {W : World} {spare : Nat → Bool} {held : Bool}
/-- A list of structs of two numbers that came in. -/
theorem open_pairs {t e : TypeId} {f0 f1 : Field} {n : Nat} {v0 : Value} {y0 : DataW H × List MemPlace} (hsp : ∀ b, spare b = true) (ht : Try.prog.underlying t = some (.slice e)) (he : Try.prog.underlying e = some (.struct #[f0, f1])) (h3 : f0.type = 3 ∧ f1.type = 3)
    (hone : oneCellFields Try.prog #[f0, f1] = true) (hC : Try.prog.cellsOf e = 2) (h : DataW.trod enc Try.prog W 0 spare held n t [v0] = some y0) :
    ∃ (A : Option Addr) (c : Nat) (ns : List (Int × Int)), v0 = .slice A ns.length c ∧ (A = none → c = 0 ∧ ns = []) ∧ ns.length ≤ 9223372036854775807 ∧ PairsAt W W.heap.size A ns := by
  rcases open_slice_fields ht he hone hC h with ⟨e1, _⟩ | ⟨a, len, cap, m, D, Pl, hcs, hb, hl, hm, hmm, hx, hi⟩
  · simp only [List.cons.injEq, and_true] at e1
    exact ⟨none, 0, [], e1, fun _ => ⟨rfl, rfl⟩, by simp, .inl rfl⟩
  · simp only [List.cons.injEq, and_true] at hcs
    rw [hsp, if_pos rfl] at hmm
    subst hmm
    obtain ⟨ns, hnl, hq⟩ := list_of (Q := fun i (x : Int × Int) => W.cell? (a.add (i * 2)) = some (.int .i64 x.1) ∧ W.cell? (a.add (i * 2 + 1)) = some (.int .i64 x.2)) len (fun i hil => by
      obtain ⟨ys, n', _, _, _, hf⟩ := hi i (by omega)
      obtain ⟨u0, z0, k0, _, t0⟩ := hf 0 f0 rfl
      obtain ⟨u1, z1, k1, _, t1⟩ := hf 1 f1 rfl
      rw [h3.1] at t0
      rw [h3.2] at t1
      obtain ⟨i0, e0, _⟩ := DataW.trod_int Try.underlying3 t0
      obtain ⟨i1, e1, _⟩ := DataW.trod_int Try.underlying3 t1
      simp only [List.cons.injEq, and_true] at e0 e1
      subst e0 e1
      exact ⟨(i0, i1), k0, k1⟩)
    refine ⟨some a, _, ns, by rw [hnl]; exact hcs, (fun h => by cases h), by unfold maxLen at hm; omega, ?_⟩
    by_cases h0 : ns = []
    · exact .inl h0
    · have hlen : 0 < ns.length := List.length_pos_iff.2 h0
      have hx0 : ns[0]? = some ns[0] := List.getElem?_eq_getElem hlen
      have hs := (hq 0 _ hx0).1
      have hs1 := spot_none hs
      have hlt := cell_lt hs
      obtain ⟨b, off, sp⟩ := a
      have hb2 : ((⟨b, off, sp⟩ : Addr).add (0 * 2)) = ⟨b, off, sp⟩ := by simp [Addr.add]
      rw [hb2] at hs1 hlt
      simp only at hs1 hlt
      subst hs1
      refine .inr ⟨b, off, rfl, hlt, fun i x hx => ?_⟩
      have := hq i x hx
      rw [addr_add, addr_add] at this
      exact this
/-- A struct of two cells, one, and one. -/
theorem open_agg211 {P : Program} {w : World} {base : Nat} {r : Reach} {b0 : Nat} {t : TypeId} {f0 f1 f2 : Field} {v : Value} {d : DataW H} {p : List MemPlace} (hs : P.underlying t = some (.struct #[f0, f1, f2])) (ho : f0.offset = 0 ∧ P.cellsOf f0.type = 2 ∧ f1.offset = 2 ∧ P.cellsOf f1.type = 1 ∧ f2.offset = 3 ∧ P.cellsOf f2.type = 1) (hC : P.cellsOf t = 4)
    (hv : Value.okWide P w r b0 t v) (h : DataW.Trod enc P w base spare held t v d p) :
    ∃ (v0 v1 v2 v3 : Value) (y0 y1 y2 : DataW H × List MemPlace) (n : Nat), v = .agg #[v0, v1, v2, v3] ∧ DataW.trod enc P w base spare held n f0.type [v0, v1] = some y0 ∧ DataW.trod enc P w base spare held n f1.type [v2] = some y1 ∧ DataW.trod enc P w base spare held n f2.type [v3] = some y2 := by
  obtain ⟨cs, rfl, hsz⟩ := okWide_struct hs hv
  obtain ⟨l⟩ := cs
  match l, hsz.trans hC with
  | [c0, c1, c2, c3], _ =>
    obtain ⟨fuel, hf⟩ := h
    obtain ⟨xs, n, _, hx, _, hlen, hg⟩ := DataW.trod_struct hs hf
    obtain ⟨a0, k0, a1, k1, a2, k2⟩ := ho
    match xs, hlen with
    | [y0, y1, y2], _ =>
      exact ⟨c0, c1, c2, c3, y0, y1, y2, n, rfl, by simpa [Value.cells, a0, k0] using hg 0 f0 rfl, by simpa [Value.cells, a1, k1] using hg 1 f1 rfl, by simpa [Value.cells, a2, k2] using hg 2 f2 rfl⟩
/-- A struct of two numbers, by its cells. -/
theorem open_two {P : Program} {w : World} {base : Nat} {t : TypeId} {f0 f1 : Field} {u0 u1 : Value} {n : Nat} {y : DataW H × List MemPlace} (hs : P.underlying t = some (.struct #[f0, f1])) (hone : oneCellFields P #[f0, f1] = true) (h3 : f0.type = 3 ∧ f1.type = 3) (hu : P.underlying 3 = some (.int .i64))
    (h : DataW.trod enc P w base spare held n t [u0, u1] = some y) : ∃ a b : Int, u0 = .int .i64 a ∧ u1 = .int .i64 b := by
  obtain ⟨xs, n', _, _, _, hlen, hg⟩ := DataW.trod_struct hs h
  obtain ⟨o0, k0⟩ := hone_of hone 0 f0 rfl
  obtain ⟨o1, k1⟩ := hone_of hone 1 f1 rfl
  match xs, hlen with
  | [y0, y1], _ =>
    have h0 := hg 0 f0 rfl
    have h1 := hg 1 f1 rfl
    rw [h3.1] at h0
    rw [h3.2] at h1
    rw [h3.1] at k0
    rw [h3.2] at k1
    rw [o0, k0] at h0
    rw [o1, k1] at h1
    obtain ⟨i0, e0, _⟩ := DataW.trod_int hu (show DataW.trod enc P w base spare held n' 3 [u0] = some y0 from h0)
    obtain ⟨i1, e1, _⟩ := DataW.trod_int hu (show DataW.trod enc P w base spare held n' 3 [u1] = some y1 from h1)
    simp only [List.cons.injEq, and_true] at e0 e1
    exact ⟨i0, i1, e0, e1⟩
set_option maxRecDepth 100000 in
/-- A sea that came in. -/
theorem open_sea {r : Reach} {b0 : Nat} {v : Value} {d : DataW H} {p : List MemPlace} (hsp : ∀ b, spare b = true) (hv : Value.okWide Try.prog W r b0 44 v) (h : DataW.Trod enc Try.prog W 0 spare held 44 v d p) :
    ∃ (L : SL) (s : Sea), v = L.enc s ∧ SLOK L s ∧ (s.ps.length ≤ 9223372036854775807 ∧ s.bs.length ≤ 9223372036854775807) ∧ SeaAt W W.heap.size L s := by
  obtain ⟨v0, v1, v2, v3, y0, y1, y2, n, rfl, h0, h1, h2⟩ := open_agg211 Try.underlying44 ⟨rfl, by kernel_rfl, rfl, by kernel_rfl, rfl, by kernel_rfl⟩ (by kernel_rfl) hv h
  obtain ⟨wl, wh, rfl, rfl⟩ := open_two Try.underlying35 (by kernel_rfl) ⟨rfl, rfl⟩ Try.underlying3 h0
  obtain ⟨A1, c1, p, rfl, a1, b1, m1⟩ := open_pairs hsp Try.underlying41 Try.underlying35 ⟨rfl, rfl⟩ (by kernel_rfl) (by kernel_rfl) h1
  obtain ⟨A2, c2, q, rfl, a2, b2, m2⟩ := open_pairs hsp Try.underlying42 Try.underlying66 ⟨rfl, rfl⟩ (by kernel_rfl) (by kernel_rfl) h2
  exact ⟨⟨A1, c1, A2, c2⟩, ⟨wl, wh, p, q⟩, rfl, ⟨a1, a2⟩, ⟨b1, b2⟩, ⟨m1, m2⟩⟩
end
end Go.Proofs.Ytmbcpmnigggbaaa.Li
namespace Go.Proofs.Ytmbcpmnigggbaaa.Cu
open Go.Joins Go.ChangeShapes Go.WideShapes Go.ChangeAt Go.RowKit Go.Deep
section
variable {H : Type} {enc : TypeId × Value → H} {P : Program} {w : World} {base : Nat} {spare : Nat → Bool} {held : Bool}
/-- The cells of a part. -/
theorem open_part {e n : Nat} {f0 f1 f2 f3 : Field} {y : DataW H × List MemPlace} {cs : List Value} (he : Try.prog.underlying e = some (.struct #[f0, f1, f2, f3]))
    (ho : f0.offset = 0 ∧ Try.prog.cellsOf f0.type = 1 ∧ f1.offset = 1 ∧ Try.prog.cellsOf f1.type = 2 ∧ f2.offset = 3 ∧ Try.prog.cellsOf f2.type = 2 ∧ f3.offset = 5 ∧ Try.prog.cellsOf f3.type = 1) (ht : f0.type = 3 ∧ f1.type = 35 ∧ f2.type = 35 ∧ f3.type = 3)
    (hl : cs.length = 6) (h : DataW.trod enc Try.prog w base spare held n e cs = some y) : ∃ p : CP, cs = [.int .i64 p.of, .int .i64 p.wl, .int .i64 p.wh, .int .i64 p.sl, .int .i64 p.sh, .int .i64 p.pe] := by
  match cs, hl with
  | [c0, c1, c2, c3, c4, c5], _ =>
    obtain ⟨xs, n', _, hx, _, hlen, hg⟩ := DataW.trod_struct he h
    obtain ⟨a0, k0, a1, k1, a2, k2, a3, k3⟩ := ho
    obtain ⟨t0, t1, t2, t3⟩ := ht
    match xs, hlen with
    | [y0, y1, y2, y3], _ =>
      have h0 : DataW.trod enc Try.prog w base spare held n' f0.type [c0] = some y0 := by simpa [a0, k0] using hg 0 f0 rfl
      have h1 : DataW.trod enc Try.prog w base spare held n' f1.type [c1, c2] = some y1 := by simpa [a1, k1] using hg 1 f1 rfl
      have h2 : DataW.trod enc Try.prog w base spare held n' f2.type [c3, c4] = some y2 := by simpa [a2, k2] using hg 2 f2 rfl
      have h3 : DataW.trod enc Try.prog w base spare held n' f3.type [c5] = some y3 := by simpa [a3, k3] using hg 3 f3 rfl
      rw [t0] at h0
      rw [t1] at h1
      rw [t2] at h2
      rw [t3] at h3
      obtain ⟨i0, e0, _⟩ := DataW.trod_int Try.underlying3 h0
      obtain ⟨i3, e3, _⟩ := DataW.trod_int Try.underlying3 h3
      obtain ⟨wl, wh, rfl, rfl⟩ := Li.open_two Try.underlying35 (by kernel_rfl) ⟨rfl, rfl⟩ Try.underlying3 h1
      obtain ⟨sl, sh, rfl, rfl⟩ := Li.open_two Try.underlying35 (by kernel_rfl) ⟨rfl, rfl⟩ Try.underlying3 h2
      simp only [List.cons.injEq, and_true] at e0 e3
      subst e0 e3
      exact ⟨⟨i0, wl, wh, sl, sh, i3⟩, rfl⟩
end
section
variable {H : Type} {enc : TypeId × Value → H} {W : World} {spare : Nat → Bool} {held : Bool}
set_option maxRecDepth 100000 in
/-- A table that came in. -/
theorem open_table {r : Reach} {b0 : Nat} {v : Value} {d : DataW H} {p : List MemPlace} (hsp : ∀ b, spare b = true) (hv : Value.okWide Try.prog W r b0 22 v) (h : DataW.Trod enc Try.prog W 0 spare held 22 v d p) :
    ∃ (A : Option Addr) (c : Nat) (t : List CP), v = .slice A t.length c ∧ (A = none → c = 0 ∧ t = []) ∧ t.length ≤ 9223372036854775807 ∧ TableAt W W.heap.size A t := by
  obtain ⟨a0, len, cap, rfl⟩ := okWide_slice Try.underlying22 hv
  obtain ⟨fuel, hf⟩ := h
  have hC : Try.prog.cellsOf 51 = 6 := by kernel_rfl
  rcases open_slice Try.underlying22 hf with ⟨hcs, _⟩ | ⟨a, len', cap', m, n, D, Pl, hcs, hb, hl, hm, hmm, hx, hi⟩
  · simp [Value.cells] at hcs
    obtain ⟨rfl, rfl, rfl⟩ := hcs
    exact ⟨none, 0, [], rfl, fun _ => ⟨rfl, rfl⟩, by simp, .inl rfl⟩
  · simp [Value.cells] at hcs
    obtain ⟨rfl, rfl, rfl⟩ := hcs
    rw [hsp, if_pos rfl] at hmm
    subst hmm
    obtain ⟨t, htl, hq⟩ := Li.list_of (Q := fun i (x : CP) => W.cell? (a.add (i * 6)) = some (.int .i64 x.of) ∧ W.cell? (a.add (i * 6 + 1)) = some (.int .i64 x.wl) ∧ W.cell? (a.add (i * 6 + 2)) = some (.int .i64 x.wh) ∧ W.cell? (a.add (i * 6 + 3)) = some (.int .i64 x.sl) ∧ W.cell? (a.add (i * 6 + 4)) = some (.int .i64 x.sh) ∧ W.cell? (a.add (i * 6 + 5)) = some (.int .i64 x.pe)) len (fun i hil => by
      obtain ⟨cs', hc, ht'⟩ := hi i (by omega)
      rw [hC] at hc
      obtain ⟨_, hcl, hat⟩ := World.cells?_some hc
      obtain ⟨x, rfl⟩ := open_part Try.underlying51 ⟨rfl, by kernel_rfl, rfl, by kernel_rfl, rfl, by kernel_rfl, rfl, by kernel_rfl⟩ ⟨rfl, rfl, rfl, rfl⟩ hcl ht'
      have g0 := hat 0 (by omega)
      have g1 := hat 1 (by omega)
      have g2 := hat 2 (by omega)
      have g3 := hat 3 (by omega)
      have g4 := hat 4 (by omega)
      have g5 := hat 5 (by omega)
      rw [Go.Deep.add_add] at g0 g1 g2 g3 g4 g5
      exact ⟨x, g0, g1, g2, g3, g4, g5⟩)
    refine ⟨some a, _, t, by rw [htl], (fun h => by cases h), by unfold maxLen at hm; omega, ?_⟩
    by_cases h0 : t = []
    · exact .inl h0
    · have hlen : 0 < t.length := List.length_pos_iff.2 h0
      have hx0 : t[0]? = some t[0] := List.getElem?_eq_getElem hlen
      have hs := (hq 0 _ hx0).1
      have hs1 := Li.spot_none hs
      have hlt := cell_lt hs
      obtain ⟨b, off, sp⟩ := a
      have hb2 : ((⟨b, off, sp⟩ : Addr).add (0 * 6)) = ⟨b, off, sp⟩ := by simp [Addr.add]
      rw [hb2] at hs1 hlt
      simp only at hs1 hlt
      subst hs1
      refine .inr ⟨b, off, rfl, hlt, fun i x hx => ?_⟩
      have := hq i x hx
      rw [addr_add, addr_add, addr_add, addr_add, addr_add, addr_add] at this
      exact this
/-- Numbers within a struct. -/
theorem open_ints_in {n : Nat} {v0 : Value} {y0 : DataW H × List MemPlace} (hsp : ∀ b, spare b = true) (h : DataW.trod enc Try.prog W 0 spare held n 25 [v0] = some y0) :
    ∃ (A : Option Addr) (c : Nat) (l : List Int), v0 = .slice A l.length c ∧ (A = none → c = 0 ∧ l = []) ∧ l.length ≤ 9223372036854775807 ∧ IntsAt W W.heap.size A l ∧ l.length ≤ c ∧ c ≤ 9223372036854775807 := by
  rcases Go.ChangeShapes.open_ints Try.underlying25 Try.underlying3 (by kernel_rfl) h with ⟨hcs, _⟩ | ⟨a, len', cap', zs, hcs, _, hl, hm, hz, _, hcell, _⟩
  · simp at hcs
    subst hcs
    exact ⟨none, 0, [], rfl, fun _ => ⟨rfl, rfl⟩, by simp, .inl rfl, by simp, by simp⟩
  · simp at hcs
    subst hcs
    rw [hsp, if_pos rfl] at hz
    have hlen : (zs.take len').length = len' := by rw [List.length_take]; omega
    refine ⟨some a, cap', zs.take len', by rw [hlen], (fun h => by cases h), by rw [hlen]; unfold maxLen at hm; omega, ?_, by omega, by unfold maxLen at hm; omega⟩
    by_cases h0 : zs.take len' = []
    · exact .inl h0
    · have hpos : 0 < zs.length := by
        have := List.length_pos_iff.2 h0
        omega
      obtain ⟨b, off, rfl, hc⟩ := Go.ints_at hcell hpos
      refine .inr ⟨b, off, rfl, ?_, fun i x hx => ?_⟩
      · have := cell_lt (hc 0 hpos)
        exact this
      · have hi := (List.getElem?_eq_some_iff.1 hx).1
        rw [hlen] at hi
        rw [List.getElem?_take_of_lt hi] at hx
        have := hc i (by omega)
        rw [List.getD_eq_getElem?_getD, hx] at this
        exact this
set_option maxRecDepth 100000 in
/-- Two lists of numbers that came in. -/
theorem open_hauled {r : Reach} {b0 : Nat} {v : Value} {d : DataW H} {p : List MemPlace} (hsp : ∀ b, spare b = true) (hv : Value.okWide Try.prog W r b0 46 v) (h : DataW.Trod enc Try.prog W 0 spare held 46 v d p) :
    ∃ (A2 : Option Addr) (c2 : Nat) (x : List Int) (A3 : Option Addr) (c3 : Nat) (c : List Int), v = .agg #[.slice A2 x.length c2, .slice A3 c.length c3] ∧ (A3 = none → c3 = 0 ∧ c = []) ∧ c.length ≤ c3 ∧ IntsAt W W.heap.size A2 x ∧ IntsAt W W.heap.size A3 c := by
  obtain ⟨cs, rfl, hsz⟩ := okWide_struct Try.underlying46 hv
  obtain ⟨l⟩ := cs
  match l, hsz.trans (show Try.prog.cellsOf 46 = 2 by kernel_rfl) with
  | [c0, c1], _ =>
    obtain ⟨fuel, hf⟩ := h
    obtain ⟨xs, n, _, hx, _, hlen, hg⟩ := DataW.trod_struct Try.underlying46 hf
    have hC : Try.prog.cellsOf 25 = 1 := by kernel_rfl
    match xs, hlen with
    | [y0, y1], _ =>
      have h0 : DataW.trod enc Try.prog W 0 spare held n 25 [c0] = some y0 := by simpa [Value.cells, hC] using hg 0 _ rfl
      have h1 : DataW.trod enc Try.prog W 0 spare held n 25 [c1] = some y1 := by simpa [Value.cells, hC] using hg 1 _ rfl
      obtain ⟨A2, c2, x, rfl, a2, b2, m2, _, _⟩ := open_ints_in hsp h0
      obtain ⟨A3, c3, c, rfl, a3, b3, m3, k3, _⟩ := open_ints_in hsp h1
      exact ⟨A2, c2, x, A3, c3, c, rfl, a3, k3, m2, m3⟩
end
end Go.Proofs.Ytmbcpmnigggbaaa.Cu
namespace Go.Proofs.Ytmbcpmnigggbaaa
open Go.RowKit

/-! OnDay 28. -/
/-- A copy: what a function that copies returns. -/
def CopRet (f : Fair) (n : Nat) (w' : World) (e : Ending) : Prop := ∃ F', e = .returned (F'.enc f) ∧ CopF w' n F' f ∧ OwnsQ InnOwn w' n (.slice F'.Aq f.q.length F'.cq) f.q
theorem CopRet.fair {f : Fair} {n : Nat} {w' : World} {F' : FL} (h : CopF w' n F' f) (hq : OwnsQ InnOwn w' n (.slice F'.Aq f.q.length F'.cq) f.q) : FairAt w' w'.heap.size F' f ∧ FLOK F' f := by
  obtain ⟨A, c, e, h1, h2, h3⟩ := hq.layO
  injection e with e1 e2 e3
  have hp := ints_at h.p
  refine ⟨⟨h.h.house, hp.1.at_, ?_⟩, ⟨h.h.ok, hp.2.1, ?_⟩⟩
  · rw [e1]; exact h2
  · rw [e1, e3]; exact h1
def dayF (f : Fair) (d : Int) : Fair := { f with day := d }
set_option maxRecDepth 100000 in
set_option maxHeartbeats 4000000 in
theorem onDay_any (F : FL) (f : Fair) (hn : FN f) (hok : FLOK F f) (d : Int) (w : World) (hF : FairAt w w.heap.size F f) :
    Calls Try.prog 134 #[F.enc f, .int .i64 d] w fun e w' => CopRet (dayF f d) w.heap.size w' e ∧ Below w.heap.size w w' := by
  obtain ⟨W0, hW0⟩ : ∃ W0, (w.alloc (.cells #[.slice F.L.Ak f.h.ks.length F.L.ck, .int .i64 f.h.fl, .slice F.L.Ap f.h.ps.length F.L.cp, .slice F.L.Ab f.h.bs.length F.L.cb, .slice F.Ap f.pk.length F.cp, .int .i64 f.day, .int .i64 f.nb, .slice F.Aq f.q.length F.cq] 62)).alloc (.cells #[.slice none 0 0, .int .i64 0, .slice none 0 0, .slice none 0 0, .slice none 0 0, .int .i64 0, .int .i64 0, .slice none 0 0] 62) = W0 := ⟨_, rfl⟩
  have hb0 : Below w.heap.size w W0 := by rw [← hW0]; exact hb0to (al_below _ _) (al_below _ _)
  have hx0 : FBox W0 w.heap.size F f := (FBox.new w F f).of (by rw [← hW0]; exact Below.heap_alloc _ _ _ (by simp))
  have hr0 : W0.heap[w.heap.size + 1]? = some (.cells #[.slice none 0 0, .int .i64 0, .slice none 0 0, .slice none 0 0, .slice none 0 0, .int .i64 0, .int .i64 0, .slice none 0 0] 62) := by rw [← hW0]; exact heap_new2 _ _ _
  have hs0 : w.heap.size + 2 ≤ W0.heap.size := heap_lt hr0
  have HW0 := Lib.hid hW0
  have HBW := Lib.hid hb0
  have HB := Lib.hid hx0
  have HR := Lib.hid hr0
  have HN := Lib.hid hn
  have HF := Lib.hid (hF.below hb0)
  have HC := Lib.hid (copy_line F f hn hok W0 HF.out)
  obtain ⟨c0, c1, c2, c3, c4, c5, c6, c7⟩ := hx0.cells
  clear hW0 hb0 hx0 hr0 hn hok hF
  obtain ⟨L, Ap, cp, Aq, cq⟩ := F
  go_enter Try.func134, Try.ntmps134
  go_upto_region 1 with (fail)
  have e := HW0.out
  rw [e]
  clear e
  go_wp2_with (go_at_call 40; refine HC.out.mono ?_; rintro e w1 ⟨⟨⟨L', A', c', A9, c9⟩, rfl, hcf, hq⟩, hb1⟩; have B1 := Lib.hid hb1; have HCF := Lib.hid hcf; have HQ := Lib.hid hq; have hr := (hb1.block _ (heap_lt HR.out)).trans HR.out; have HRr := Lib.hid hr; have r0 := cell_of_heap (o := 0) hr rfl; have r1 := cell_of_heap (o := 1) hr rfl; have r2 := cell_of_heap (o := 2) hr rfl; have r3 := cell_of_heap (o := 3) hr rfl; have r4 := cell_of_heap (o := 4) hr rfl; have r5 := cell_of_heap (o := 5) hr rfl; have r6 := cell_of_heap (o := 6) hr rfl; have r7 := cell_of_heap (o := 7) hr rfl; have rf := frozen_of_heap hr; have s1 := B1.out.size; have n0 : ¬ w1.heap.size = w.heap.size + 1 := (by omega); have n1 : ¬ w.heap.size + 1 = w1.heap.size := (by omega); have n2 : w.heap.size + 1 < w1.heap.size := (by omega); clear hcf hq hb1 hr)
  have e := set8_heap HRr.out (.slice L'.Ak f.h.ks.length L'.ck) (.int .i64 f.h.fl) (.slice L'.Ap f.h.ps.length L'.cp) (.slice L'.Ab f.h.bs.length L'.cb) (.slice A' f.pk.length c') (.int .i64 d) (.int .i64 f.nb) (.slice A9 f.q.length c9)
  have e2 := heap_keep (o' := .cells #[.slice L'.Ak f.h.ks.length L'.ck, .int .i64 f.h.fl, .slice L'.Ap f.h.ps.length L'.cp, .slice L'.Ab f.h.bs.length L'.cb, .slice A' f.pk.length c', .int .i64 d, .int .i64 f.nb, .slice A9 f.q.length c9] 62) e
  have hs1 := HBW.out.size
  refine bodyPost_ret (results_cell rfl rfl (load29 (cell_of_heap (o := 0) e2 rfl) (cell_of_heap (o := 1) e2 rfl) (cell_of_heap (o := 2) e2 rfl) (cell_of_heap (o := 3) e2 rfl) (cell_of_heap (o := 4) e2 rfl) (cell_of_heap (o := 5) e2 rfl) (cell_of_heap (o := 6) e2 rfl) (cell_of_heap (o := 7) e2 rfl))) rfl ⟨⟨⟨L', A', c', A9, c9⟩, rfl, ?_, ?_⟩, ?_⟩
  · exact ((CopF.mono (show CopF w1 W0.heap.size ⟨L', A', c', A9, c9⟩ (dayF f d) from ⟨HCF.out.h, HCF.out.p⟩) hs1).keepT (keepT_set8 HRr.out (by decide) _ _ _ _ _ _ _ _) (keepT_set8 HRr.out (by decide) _ _ _ _ _ _ _ _) (keepT_set8 HRr.out (by decide) _ _ _ _ _ _ _ _)).below (al_below _ _)
  · exact ((OwnsQ.mono HQ.out hs1).keepO (keepT_set8 HRr.out (by decide) _ _ _ _ _ _ _ _) (keepT_set8 HRr.out (by decide) _ _ _ _ _ _ _ _)).belowO (al_below _ _)
  · exact hb0to (below_set8 (hb0to HBW.out B1.out) (by omega) _ _ _ _ _ _ _ _) (al_below _ _)

open Go.RowKit

theorem OwnsQ.at_ {W : World} {n c : Nat} {A : Option Addr} {q : List Bid} {i : Nat} {x : Bid} (h : OwnsQ InnOwn W n (.slice A q.length c) q) (hx : q[i]? = some x) :
    ∃ g A' c', A = some ⟨g, 0, none⟩ ∧ g < W.heap.size ∧ n ≤ g ∧ W.cell? ⟨g, i * 3, none⟩ = some (.int .i64 x.who) ∧ W.cell? ⟨g, i * 3 + 1, none⟩ = some (.slice A' x.bar.length c') ∧ W.cell? ⟨g, i * 3 + 2, none⟩ = some (.int .i64 x.pay) ∧ ∃ cur, W.heap[g]? = some (.cells cur 68 (0, 0)) := by
  obtain ⟨A8, c8, eA, -, hBA, hlo⟩ := h.layO
  injection eA with e1 e2 e3
  subst e1
  obtain ⟨rows, e, h1, _⟩ := h
  rcases h1.2 with ⟨e0, h0⟩ | ⟨g, cap, cur, e0, k1, k2, _⟩
  · have : rows = [] := List.length_eq_zero_iff.1 h0
    subst this
    simp at e
    subst e
    simp at hx
  · injection e0 with j1 j2 j3
    subst j1
    obtain ⟨bk, ok, A', c', eB, hbk, x1, x2, x3, _, _⟩ := hBA.at_ hx
    injection eB with eB
    injection eB with q1 q2 q3
    subst q1 q2
    rw [Nat.zero_add] at x1 x2 x3
    exact ⟨_, A', c', rfl, hbk, k1, x1, x2, x3, cur, k2⟩
end Go.Proofs.Ytmbcpmnigggbaaa
namespace Go.Proofs.Ytmbcpmnigggbaaa
open Go.RowKit

/-- What is known: a map of the call's own, from what is ready to what the best sales bring. -/
def KnownM (W : World) (b n : Nat) (g : Nat → Int) : Prop :=
  ∃ D : DataW Unit, W.ownsMap Try.prog 133 (plainElem Try.prog 3) b n D ∧ Maps.IsMap D ∧ ∀ u : Nat, u < 16 → Maps.has D (.int .i64 (u : Int)) = true → D.atKey (.int .i64 (u : Int)) (.lit (.int .i64 0)) = .lit (.int .i64 (g u))
theorem KnownM.grown {W W' : World} {b n : Nat} {g : Nat → Int} {row : Option Nat} (h : KnownM W b n g) (hg : W.grownBy W' row) (hr : some b ≠ row) : KnownM W' b n g := by
  obtain ⟨D, h1, h2, h3⟩ := h
  exact ⟨D, h1.kept hg hr, h2, h3⟩
theorem KnownM.lt {W : World} {b n : Nat} {g : Nat → Int} (h : KnownM W b n g) : b < W.heap.size := by obtain ⟨D, h1, _⟩ := h; exact h1.lt
theorem KnownM.below {W W' : World} {b n : Nat} {g : Nat → Int} (h : KnownM W b n g) (hb : Below W.heap.size W W') : KnownM W' b n g :=
  h.grown (row := none) ⟨hb.os, hb.tape, hb.output, hb.size, fun i hi _ => hb.block i hi⟩ (by simp)
theorem KnownM.set {W : World} {b n k : Nat} {g : Nat → Int} (h : KnownM W b n g) (hne : b ≠ k) (o : Nat) (v : Value) : KnownM (W.setCell ⟨k, o, none⟩ v) b n g := by
  obtain ⟨D, h1, h2, h3⟩ := h
  exact ⟨D, h1.setCell hne v, h2, h3⟩
theorem OBox.notMap {W : World} {b : Nat} {F : FL} {f : Fair} {v : Value} {u mb : Nat} (h : OBox W b F f v u) (hm : ∃ es ck, W.heap[mb]? = some (.map es ck)) : b ≠ mb := fun e => by
  obtain ⟨es, ck, hm⟩ := hm
  subst e
  rw [show W.heap[b]? = _ from h] at hm
  cases hm
theorem LotsAt.kept {W W' : World} {B B' : Nat} {A : Option Addr} {q : List Bid} (h : LotsAt W B A q) (hB : B ≤ B') (hk : ∀ g o v, A = some g → W.cell? ⟨g.block, o, none⟩ = some v → W'.cell? ⟨g.block, o, none⟩ = some v) : LotsAt W' B' A q := by
  rcases h with h | ⟨b, off, e, hb, h⟩
  · exact .inl h
  · refine .inr ⟨b, off, e, by omega, fun i x hx => ?_⟩
    obtain ⟨m, hm, h1, h2, h3⟩ := h i x hx
    exact ⟨m, hm, hk _ _ _ e h1, hk _ _ _ e h2, hk _ _ _ e h3⟩
/-- What is ready is written anew. -/
theorem OpenAt.set {W : World} {b : Nat} {F : FL} {f : Fair} {rd rd' : List Int} (h : OpenAt W b F f rd) {u : Nat} (hu : MaskOf rd' u) : OpenAt (W.setCell ⟨b, 9, none⟩ (.int .i64 (u : Int))) b F f rd' := by
  obtain ⟨A, c, u0, h1, h2, h3⟩ := h.ex
  have hz : (W.setCell ⟨b, 9, none⟩ (.int .i64 (u : Int))).heap.size = W.heap.size := by simp [World.setCell]
  have hne := h.ne A c u0 h1
  refine ⟨⟨A, c, u, h1.set9 u, h2.kept (Nat.le_of_eq hz.symm) fun g o v e hc => ?_, hu⟩, fun A' c' u' hO g e => ?_⟩
  · rw [World.cell?_of_block (set_other_heap (cell_lt hc) (hne g e))]; exact hc
  · have e2 := (h1.set9 u).uniq hO
    cases e2
    exact hne g e
theorem OpenAt.grown {W W' : World} {b mb : Nat} {F : FL} {f : Fair} {rd : List Int} (h : OpenAt W b F f rd) (hg : W.grownBy W' (some mb)) (hm : ∃ es ck, W.heap[mb]? = some (.map es ck)) : OpenAt W' b F f rd := by
  obtain ⟨A, c, u0, h1, h2, h3⟩ := h.ex
  have hb := h1.notMap hm
  have hO : W'.heap[b]? = W.heap[b]? := hg.block b h1.lt (fun e => hb (Option.some.inj e))
  refine ⟨⟨A, c, u0, h1.of hO, h2.kept hg.size fun g o v e hc => ?_, h3⟩, fun A' c' u' hO' => h.ne A' c' u' (hO'.of hO.symm)⟩
  have hgm : g.block ≠ mb := fun e2 => by
    obtain ⟨es, ck, hm⟩ := hm
    rw [← e2] at hm
    unfold World.cell? at hc
    simp only [hm] at hc
    cases hc
  exact (World.cell?_of_block (a := ⟨g.block, o, none⟩) (hg.block g.block (cell_lt (a := ⟨g.block, o, none⟩) hc) (fun e => hgm (Option.some.inj e)))).trans hc
section
variable {w : World} {ops : Array Oper} {rest : List Oper} {o : Oper} {a : Act} {Q : Exit → Act → World → Prop}
end
open Go.RowKit

end Go.Proofs.Ytmbcpmnigggbaaa
namespace Go.Proofs.Ytmbcpmnigggbaaa
open Go.RowKit

/-! Example 65. -/
def exH : House := ⟨[(3, 10), (5, 4)], 2, [(0, 10), (0, 15), (1, 8)], [40, 20]⟩
def exF : Fair := ⟨exH, [0, 0, 1], 10, 3, [⟨0, [0], 30⟩, ⟨1, [0, 1], 45⟩, ⟨2, [1], 12⟩, ⟨0, [1], 20⟩]⟩
theorem pairs_lay {W : World} {g : Nat} {t : TypeId} {ns : List (Int × Int)} (h : W.heap[g]? = some (.cells (pairCells ns).toArray t (0, 0))) : PairsAt W W.heap.size (some ⟨g, 0, none⟩) ns := by
  refine .inr ⟨g, 0, rfl, heap_lt h, fun i x hx => ?_⟩
  obtain ⟨d1, d2⟩ := pairCells_at ns i x hx
  have hk : ∀ j v, (pairCells ns)[j]? = some v → W.cell? ⟨g, j, none⟩ = some v := fun j v hj => by simp [World.cell?, h, hj]
  rw [Nat.zero_add]
  exact ⟨hk _ _ d1, hk _ _ d2⟩
theorem ints_lay {W : World} {g : Nat} {t : TypeId} {l : List Int} (h : W.heap[g]? = some (.cells (l.map (Value.int .i64)).toArray t (0, 0))) : IntsAt W W.heap.size (some ⟨g, 0, none⟩) l := by
  refine .inr ⟨g, 0, rfl, heap_lt h, fun i x hx => ?_⟩
  rw [Nat.zero_add]
  simp [World.cell?, h, hx]
/-- The example's slices. -/
structure ExHeap (W : World) (n : Nat) : Prop where
  a2 : W.heap[n + 1 + 1]? = some (.cells #[.int .i64 3, .int .i64 10, .int .i64 5, .int .i64 4] 95)
  a3 : W.heap[n + 1 + 1 + 1]? = some (.cells #[.int .i64 0, .int .i64 10, .int .i64 0, .int .i64 15, .int .i64 1, .int .i64 8] 97)
  a4 : W.heap[n + 1 + 1 + 1 + 1]? = some (.cells #[.int .i64 40, .int .i64 20] 3)
  a6 : W.heap[n + 1 + 1 + 1 + 1 + 1 + 1]? = some (.cells #[.int .i64 0, .int .i64 0, .int .i64 1] 3)
  a7 : W.heap[n + 1 + 1 + 1 + 1 + 1 + 1 + 1]? = some (.cells #[.int .i64 0] 3)
  a8 : W.heap[n + 1 + 1 + 1 + 1 + 1 + 1 + 1 + 1]? = some (.cells #[.int .i64 0, .int .i64 1] 3)
  a9 : W.heap[n + 1 + 1 + 1 + 1 + 1 + 1 + 1 + 1 + 1]? = some (.cells #[.int .i64 1] 3)
  a10 : W.heap[n + 1 + 1 + 1 + 1 + 1 + 1 + 1 + 1 + 1 + 1]? = some (.cells #[.int .i64 1] 3)
  a11 : W.heap[n + 1 + 1 + 1 + 1 + 1 + 1 + 1 + 1 + 1 + 1 + 1]? = some (.cells #[.int .i64 0, .slice (some ⟨n + 1 + 1 + 1 + 1 + 1 + 1 + 1, 0, none⟩) 1 1, .int .i64 30, .int .i64 1, .slice (some ⟨n + 1 + 1 + 1 + 1 + 1 + 1 + 1 + 1, 0, none⟩) 2 2, .int .i64 45, .int .i64 2, .slice (some ⟨n + 1 + 1 + 1 + 1 + 1 + 1 + 1 + 1 + 1, 0, none⟩) 1 1, .int .i64 12, .int .i64 0, .slice (some ⟨n + 1 + 1 + 1 + 1 + 1 + 1 + 1 + 1 + 1 + 1, 0, none⟩) 1 1, .int .i64 20] 68)
theorem ExHeap.keep {W W' : World} {n : Nat} (h : ExHeap W n) (hk : ∀ k, n + 2 ≤ k → k < W.heap.size → W'.heap[k]? = W.heap[k]?) : ExHeap W' n :=
  ⟨(hk _ (by omega) (heap_lt h.a2)).trans h.a2, (hk _ (by omega) (heap_lt h.a3)).trans h.a3, (hk _ (by omega) (heap_lt h.a4)).trans h.a4, (hk _ (by omega) (heap_lt h.a6)).trans h.a6, (hk _ (by omega) (heap_lt h.a7)).trans h.a7, (hk _ (by omega) (heap_lt h.a8)).trans h.a8, (hk _ (by omega) (heap_lt h.a9)).trans h.a9, (hk _ (by omega) (heap_lt h.a10)).trans h.a10, (hk _ (by omega) (heap_lt h.a11)).trans h.a11⟩
theorem ExHeap.fair {W : World} {n : Nat} (h : ExHeap W n) : FairAt W W.heap.size ⟨⟨some ⟨n + 1 + 1, 0, none⟩, 2, some ⟨n + 1 + 1 + 1, 0, none⟩, 3, some ⟨n + 1 + 1 + 1 + 1, 0, none⟩, 2⟩, some ⟨n + 1 + 1 + 1 + 1 + 1 + 1, 0, none⟩, 3, some ⟨n + 1 + 1 + 1 + 1 + 1 + 1 + 1 + 1 + 1 + 1 + 1, 0, none⟩, 4⟩ exF := by
  refine ⟨⟨pairs_lay (ns := exH.ks) h.a2, pairs_lay (ns := exH.ps) h.a3, ints_lay (l := exH.bs) h.a4⟩, ints_lay (l := exF.pk) h.a6, .inr ⟨_, 0, rfl, heap_lt h.a11, fun i x hx => ?_⟩⟩
  match i, hx with
  | 0, hx =>
    simp only [exF, List.getElem?_cons_succ, List.getElem?_cons_zero, Option.some.injEq] at hx
    subst hx
    exact ⟨cell_of_heap h.a11 rfl, cell_of_heap h.a11 rfl, _, _, cell_of_heap h.a11 rfl, (fun e => by cases e), ints_lay h.a7⟩
  | 1, hx =>
    simp only [exF, List.getElem?_cons_succ, List.getElem?_cons_zero, Option.some.injEq] at hx
    subst hx
    exact ⟨cell_of_heap h.a11 rfl, cell_of_heap h.a11 rfl, _, _, cell_of_heap h.a11 rfl, (fun e => by cases e), ints_lay h.a8⟩
  | 2, hx =>
    simp only [exF, List.getElem?_cons_succ, List.getElem?_cons_zero, Option.some.injEq] at hx
    subst hx
    exact ⟨cell_of_heap h.a11 rfl, cell_of_heap h.a11 rfl, _, _, cell_of_heap h.a11 rfl, (fun e => by cases e), ints_lay h.a9⟩
  | 3, hx =>
    simp only [exF, List.getElem?_cons_succ, List.getElem?_cons_zero, Option.some.injEq] at hx
    subst hx
    exact ⟨cell_of_heap h.a11 rfl, cell_of_heap h.a11 rfl, _, _, cell_of_heap h.a11 rfl, (fun e => by cases e), ints_lay h.a10⟩
  | i + 4, hx => simp [exF] at hx
theorem ex_fn : FN exF := ⟨by decide, by decide, by decide, by decide⟩
theorem twelve (w : World) (o0 o1 o2 o3 o4 o5 o6 o7 o8 o9 o10 o11 : Obj) : ∃ W, W = ((((((((((((w.alloc o0).alloc o1).alloc o2).alloc o3).alloc o4).alloc o5).alloc o6).alloc o7).alloc o8).alloc o9).alloc o10).alloc o11) ∧ W.heap[w.heap.size]? = some o0 ∧ W.heap[w.heap.size + 1]? = some o1 ∧ W.heap[w.heap.size + 1 + 1]? = some o2 ∧ W.heap[w.heap.size + 1 + 1 + 1]? = some o3 ∧ W.heap[w.heap.size + 1 + 1 + 1 + 1]? = some o4 ∧ W.heap[w.heap.size + 1 + 1 + 1 + 1 + 1]? = some o5 ∧ W.heap[w.heap.size + 1 + 1 + 1 + 1 + 1 + 1]? = some o6 ∧ W.heap[w.heap.size + 1 + 1 + 1 + 1 + 1 + 1 + 1]? = some o7 ∧ W.heap[w.heap.size + 1 + 1 + 1 + 1 + 1 + 1 + 1 + 1]? = some o8 ∧ W.heap[w.heap.size + 1 + 1 + 1 + 1 + 1 + 1 + 1 + 1 + 1]? = some o9 ∧ W.heap[w.heap.size + 1 + 1 + 1 + 1 + 1 + 1 + 1 + 1 + 1 + 1]? = some o10 ∧ W.heap[w.heap.size + 1 + 1 + 1 + 1 + 1 + 1 + 1 + 1 + 1 + 1 + 1]? = some o11 ∧ Below w.heap.size w W := by
  have a0 := World.alloc_heap_new w o0
  have a1 := World.alloc_heap_new (w.alloc o0) o1
  have a2 := World.alloc_heap_new ((w.alloc o0).alloc o1) o2
  have a3 := World.alloc_heap_new (((w.alloc o0).alloc o1).alloc o2) o3
  have a4 := World.alloc_heap_new ((((w.alloc o0).alloc o1).alloc o2).alloc o3) o4
  have a5 := World.alloc_heap_new (((((w.alloc o0).alloc o1).alloc o2).alloc o3).alloc o4) o5
  have a6 := World.alloc_heap_new ((((((w.alloc o0).alloc o1).alloc o2).alloc o3).alloc o4).alloc o5) o6
  have a7 := World.alloc_heap_new (((((((w.alloc o0).alloc o1).alloc o2).alloc o3).alloc o4).alloc o5).alloc o6) o7
  have a8 := World.alloc_heap_new ((((((((w.alloc o0).alloc o1).alloc o2).alloc o3).alloc o4).alloc o5).alloc o6).alloc o7) o8
  have a9 := World.alloc_heap_new (((((((((w.alloc o0).alloc o1).alloc o2).alloc o3).alloc o4).alloc o5).alloc o6).alloc o7).alloc o8) o9
  have a10 := World.alloc_heap_new ((((((((((w.alloc o0).alloc o1).alloc o2).alloc o3).alloc o4).alloc o5).alloc o6).alloc o7).alloc o8).alloc o9) o10
  have a11 := World.alloc_heap_new (((((((((((w.alloc o0).alloc o1).alloc o2).alloc o3).alloc o4).alloc o5).alloc o6).alloc o7).alloc o8).alloc o9).alloc o10) o11
  have up : ∀ {W : World} {k : Nat} {o o' : Obj}, W.heap[k]? = some o → (W.alloc o').heap[k]? = some o := fun h => (Below.heap_alloc _ _ _ (Array.getElem?_eq_some_iff.1 h).1).trans h
  simp only [World.size_alloc] at a1 a2 a3 a4 a5 a6 a7 a8 a9 a10 a11
  refine ⟨_, rfl, up (up (up (up (up (up (up (up (up (up (up (a0))))))))))), up (up (up (up (up (up (up (up (up (up (a1)))))))))), up (up (up (up (up (up (up (up (up (a2))))))))), up (up (up (up (up (up (up (up (a3)))))))), up (up (up (up (up (up (up (a4))))))), up (up (up (up (up (up (a5)))))), up (up (up (up (up (a6))))), up (up (up (up (a7)))), up (up (up (a8))), up (up (a9)), up (a10), a11, ?_⟩
  have hb := fun (W : World) (o : Obj) (h : Below w.heap.size w W) => h.alloc h.size o
  exact hb _ _ (hb _ _ (hb _ _ (hb _ _ (hb _ _ (hb _ _ (hb _ _ (hb _ _ (hb _ _ (hb _ _ (hb _ _ (hb _ _ (Below.refl _ w))))))))))))
theorem set8_block {W : World} {b k : Nat} {t : TypeId} {arr : Array Value} (h : W.heap[b]? = some (.cells arr t (0, 0))) (x0 x1 x2 x3 x4 x5 x6 x7 : Value) (hk : k < W.heap.size) (hne : k ≠ b) : ((((((((W.setCell ⟨b, 0, none⟩ x0).setCell ⟨b, 1, none⟩ x1).setCell ⟨b, 2, none⟩ x2).setCell ⟨b, 3, none⟩ x3).setCell ⟨b, 4, none⟩ x4).setCell ⟨b, 5, none⟩ x5).setCell ⟨b, 6, none⟩ x6).setCell ⟨b, 7, none⟩ x7).heap[k]? = W.heap[k]? :=
  (((KpB.refl (fun j => j = b) W.heap.size W).set 0 x0 (.inl rfl)).block k hk hne) |> fun e => by
    have s : ∀ (V : World) (o : Nat) (u : Value), k < V.heap.size → (V.setCell ⟨b, o, none⟩ u).heap[k]? = V.heap[k]? := fun V o u hv => set_other_heap hv hne
    simp only [s, World.size_setCell, hk]
theorem results_two {P : Program} {fn : Func} {t1 t2 : Tmp} {ty1 ty2 : TypeId} (h : fn.results = #[.cell t1 ty1, .cell t2 ty2]) {tmps : Array Value} {w : World} {v1 v2 : Value} {p1 p2 : Addr} (ht1 : tmps.getD t1 undef = .pointer (some p1)) (ht2 : tmps.getD t2 undef = .pointer (some p2))
    (hl1 : (Instr.loadAt ty1 (.pointer (some p1))).run P w = .ok v1 w) (hl2 : (Instr.loadAt ty2 (.pointer (some p2))).run P w = .ok v2 w) : (results fn tmps).run P w = .ok (.tuple #[v1, v2]) w := by
  have a1 : tmps[t1]?.getD undef = .pointer (some p1) := by simpa using ht1
  have a2 : tmps[t2]?.getD undef = .pointer (some p2) := by simpa using ht2
  simp [Instr.loadAt, Instr.sureAddr, asAddr] at hl1 hl2
  simp [results, h, a1, a2, Instr.loadAt, Instr.sureAddr, asAddr, hl1, hl2]
set_option maxRecDepth 100000 in
set_option maxHeartbeats 4000000 in
theorem example_any (w : World) : Calls Try.prog 81 #[] w fun e w' => (∃ F G, e = .returned (.tuple #[F.enc exF, G.enc (dayF exF 5)]) ∧ (FairAt w' w'.heap.size F exF ∧ FairAt w' w'.heap.size G (dayF exF 5))) ∧ Below w.heap.size w w' := by
  go_enter Try.func81, Try.ntmps81
  go_upto_region 3 with (fail)
  obtain ⟨W, hW, a0, a1, a2, a3, a4, a5, a6, a7, a8, a9, a10, a11, hb⟩ := twelve w (.cells #[.slice (some ⟨w.heap.size + 1 + 1, 0, none⟩) 2 2, .int .i64 2, .slice (some ⟨w.heap.size + 1 + 1 + 1, 0, none⟩) 3 3, .slice (some ⟨w.heap.size + 1 + 1 + 1 + 1, 0, none⟩) 2 2, .slice (some ⟨w.heap.size + 1 + 1 + 1 + 1 + 1 + 1, 0, none⟩) 3 3, .int .i64 10, .int .i64 3, .slice (some ⟨w.heap.size + 1 + 1 + 1 + 1 + 1 + 1 + 1 + 1 + 1 + 1 + 1, 0, none⟩) 4 4] 62) (.cells #[.slice none 0 0, .int .i64 0, .slice none 0 0, .slice none 0 0, .slice none 0 0, .int .i64 0, .int .i64 0, .slice none 0 0] 62) (.cells #[.int .i64 3, .int .i64 10, .int .i64 5, .int .i64 4] 95) (.cells #[.int .i64 0, .int .i64 10, .int .i64 0, .int .i64 15, .int .i64 1, .int .i64 8] 97) (.cells #[.int .i64 40, .int .i64 20] 3) (.cells #[.slice (some ⟨w.heap.size + 1 + 1, 0, none⟩) 2 2, .int .i64 2, .slice (some ⟨w.heap.size + 1 + 1 + 1, 0, none⟩) 3 3, .slice (some ⟨w.heap.size + 1 + 1 + 1 + 1, 0, none⟩) 2 2] 27) (.cells #[.int .i64 0, .int .i64 0, .int .i64 1] 3) (.cells #[.int .i64 0] 3) (.cells #[.int .i64 0, .int .i64 1] 3) (.cells #[.int .i64 1] 3) (.cells #[.int .i64 1] 3) (.cells #[.int .i64 0, .slice (some ⟨w.heap.size + 1 + 1 + 1 + 1 + 1 + 1 + 1, 0, none⟩) 1 1, .int .i64 30, .int .i64 1, .slice (some ⟨w.heap.size + 1 + 1 + 1 + 1 + 1 + 1 + 1 + 1, 0, none⟩) 2 2, .int .i64 45, .int .i64 2, .slice (some ⟨w.heap.size + 1 + 1 + 1 + 1 + 1 + 1 + 1 + 1 + 1, 0, none⟩) 1 1, .int .i64 12, .int .i64 0, .slice (some ⟨w.heap.size + 1 + 1 + 1 + 1 + 1 + 1 + 1 + 1 + 1 + 1, 0, none⟩) 1 1, .int .i64 20] 68)
  rw [← hW]
  clear hW
  have HX : Hid (ExHeap W w.heap.size) := Lib.hid ⟨a2, a3, a4, a6, a7, a8, a9, a10, a11⟩
  have HB := Lib.hid hb
  have H0 := Lib.hid a0
  have H1 := Lib.hid a1
  have hsz : w.heap.size + 12 ≤ W.heap.size := heap_lt a11
  have hok : FLOK ⟨⟨some ⟨w.heap.size + 1 + 1, 0, none⟩, 2, some ⟨w.heap.size + 1 + 1 + 1, 0, none⟩, 3, some ⟨w.heap.size + 1 + 1 + 1 + 1, 0, none⟩, 2⟩, some ⟨w.heap.size + 1 + 1 + 1 + 1 + 1 + 1, 0, none⟩, 3, some ⟨w.heap.size + 1 + 1 + 1 + 1 + 1 + 1 + 1 + 1 + 1 + 1 + 1, 0, none⟩, 4⟩ exF := ⟨⟨(fun e => by cases e), (fun e => by cases e), (fun e => by cases e)⟩, (fun e => by cases e), (fun e => by cases e)⟩
  have H28 := Lib.hid (fun W' (hb' : Below W.heap.size W W') => onDay_any _ exF ex_fn hok 5 W' (HX.out.fair.below hb'))
  have y0 := cell_of_heap (o := 0) a0 rfl
  have y1 := cell_of_heap (o := 1) a0 rfl
  have y2 := cell_of_heap (o := 2) a0 rfl
  have y3 := cell_of_heap (o := 3) a0 rfl
  have y4 := cell_of_heap (o := 4) a0 rfl
  have y5 := cell_of_heap (o := 5) a0 rfl
  have y6 := cell_of_heap (o := 6) a0 rfl
  have y7 := cell_of_heap (o := 7) a0 rfl
  clear hok hb a0 a1 a2 a3 a4 a5 a6 a7 a8 a9 a10 a11
  go_region_law
    (go_simp; go_at_call 134; refine (H28.out _ (by first | exact Below.refl _ _ | exact drew_below _)).mono ?_; rintro e w1 ⟨⟨⟨⟨Ak, ck, Ap, cp, Ab, cb⟩, A', c', A9, c9⟩, rfl, hcf, hq⟩, hb1⟩; have B1 : Hid (Below W.heap.size W w1) := Lib.hid (by first | exact hb1 | exact hb0to (drew_below _) hb1); have HCF := Lib.hid hcf; have HQ := Lib.hid hq; have k0 := (B1.out.block _ (heap_lt H0.out)).trans H0.out; have k1 := (B1.out.block _ (heap_lt H1.out)).trans H1.out; have K0 := Lib.hid k0; have K1 := Lib.hid k1; have y0 := cell_of_heap (o := 0) k0 rfl; have v0 := cell_of_heap (o := 0) k1 rfl; have y1 := cell_of_heap (o := 1) k0 rfl; have v1 := cell_of_heap (o := 1) k1 rfl; have y2 := cell_of_heap (o := 2) k0 rfl; have v2 := cell_of_heap (o := 2) k1 rfl; have y3 := cell_of_heap (o := 3) k0 rfl; have v3 := cell_of_heap (o := 3) k1 rfl; have y4 := cell_of_heap (o := 4) k0 rfl; have v4 := cell_of_heap (o := 4) k1 rfl; have y5 := cell_of_heap (o := 5) k0 rfl; have v5 := cell_of_heap (o := 5) k1 rfl; have y6 := cell_of_heap (o := 6) k0 rfl; have v6 := cell_of_heap (o := 6) k1 rfl; have y7 := cell_of_heap (o := 7) k0 rfl; have v7 := cell_of_heap (o := 7) k1 rfl; have yf := frozen_of_heap k0; have vf := frozen_of_heap k1; clear hcf hq hb1 k0 k1)
  all_goals
    go_wp2_with (fail)
    have hs1 := B1.out.size
    have e0 := set8_heap K0.out (.slice (some ⟨w.heap.size + 1 + 1, 0, none⟩) 2 2) (.int .i64 2) (.slice (some ⟨w.heap.size + 1 + 1 + 1, 0, none⟩) 3 3) (.slice (some ⟨w.heap.size + 1 + 1 + 1 + 1, 0, none⟩) 2 2) (.slice (some ⟨w.heap.size + 1 + 1 + 1 + 1 + 1 + 1, 0, none⟩) 3 3) (.int .i64 10) (.int .i64 3) (.slice (some ⟨w.heap.size + 1 + 1 + 1 + 1 + 1 + 1 + 1 + 1 + 1 + 1 + 1, 0, none⟩) 4 4)
    have e1 := (set8_block K0.out (.slice (some ⟨w.heap.size + 1 + 1, 0, none⟩) 2 2) (.int .i64 2) (.slice (some ⟨w.heap.size + 1 + 1 + 1, 0, none⟩) 3 3) (.slice (some ⟨w.heap.size + 1 + 1 + 1 + 1, 0, none⟩) 2 2) (.slice (some ⟨w.heap.size + 1 + 1 + 1 + 1 + 1 + 1, 0, none⟩) 3 3) (.int .i64 10) (.int .i64 3) (.slice (some ⟨w.heap.size + 1 + 1 + 1 + 1 + 1 + 1 + 1 + 1 + 1 + 1 + 1, 0, none⟩) 4 4) (heap_lt K1.out) (by omega)).trans K1.out
    have g1 := set8_heap e1 (.slice Ak (dayF exF 5).h.ks.length ck) (.int .i64 (dayF exF 5).h.fl) (.slice Ap (dayF exF 5).h.ps.length cp) (.slice Ab (dayF exF 5).h.bs.length cb) (.slice A' (dayF exF 5).pk.length c') (.int .i64 (dayF exF 5).day) (.int .i64 (dayF exF 5).nb) (.slice A9 (dayF exF 5).q.length c9)
    have g0 := (set8_block e1 (.slice Ak (dayF exF 5).h.ks.length ck) (.int .i64 (dayF exF 5).h.fl) (.slice Ap (dayF exF 5).h.ps.length cp) (.slice Ab (dayF exF 5).h.bs.length cb) (.slice A' (dayF exF 5).pk.length c') (.int .i64 (dayF exF 5).day) (.int .i64 (dayF exF 5).nb) (.slice A9 (dayF exF 5).q.length c9) (heap_lt e0) (by omega)).trans e0
    refine bodyPost_ret (results_two rfl rfl rfl (load29 (cell_of_heap (o := 0) g0 rfl) (cell_of_heap (o := 1) g0 rfl) (cell_of_heap (o := 2) g0 rfl) (cell_of_heap (o := 3) g0 rfl) (cell_of_heap (o := 4) g0 rfl) (cell_of_heap (o := 5) g0 rfl) (cell_of_heap (o := 6) g0 rfl) (cell_of_heap (o := 7) g0 rfl)) (load29 (cell_of_heap (o := 0) g1 rfl) (cell_of_heap (o := 1) g1 rfl) (cell_of_heap (o := 2) g1 rfl) (cell_of_heap (o := 3) g1 rfl) (cell_of_heap (o := 4) g1 rfl) (cell_of_heap (o := 5) g1 rfl) (cell_of_heap (o := 6) g1 rfl) (cell_of_heap (o := 7) g1 rfl))) rfl ⟨⟨⟨⟨some ⟨w.heap.size + 1 + 1, 0, none⟩, 2, some ⟨w.heap.size + 1 + 1 + 1, 0, none⟩, 3, some ⟨w.heap.size + 1 + 1 + 1 + 1, 0, none⟩, 2⟩, some ⟨w.heap.size + 1 + 1 + 1 + 1 + 1 + 1, 0, none⟩, 3, some ⟨w.heap.size + 1 + 1 + 1 + 1 + 1 + 1 + 1 + 1 + 1 + 1 + 1, 0, none⟩, 4⟩, ⟨⟨Ak, ck, Ap, cp, Ab, cb⟩, A', c', A9, c9⟩, rfl, ExHeap.fair ?_, (CopRet.fair (n := W.heap.size) ?_ ?_).1⟩, ?_⟩
    · refine HX.out.keep fun k h1 h2 => ?_
      rw [set8_block e1 _ _ _ _ _ _ _ _ (by simp only [World.size_setCell]; omega) (by omega), set8_block K0.out _ _ _ _ _ _ _ _ (by omega) (by omega)]
      exact B1.out.block k h2
    · exact (HCF.out.keepT (keepT_set8 K0.out (by decide) _ _ _ _ _ _ _ _) (keepT_set8 K0.out (by decide) _ _ _ _ _ _ _ _) (keepT_set8 K0.out (by decide) _ _ _ _ _ _ _ _)).keepT (keepT_set8 e1 (by decide) _ _ _ _ _ _ _ _) (keepT_set8 e1 (by decide) _ _ _ _ _ _ _ _) (keepT_set8 e1 (by decide) _ _ _ _ _ _ _ _)
    · exact (HQ.out.keepO (keepT_set8 K0.out (by decide) _ _ _ _ _ _ _ _) (keepT_set8 K0.out (by decide) _ _ _ _ _ _ _ _)).keepO (keepT_set8 e1 (by decide) _ _ _ _ _ _ _ _) (keepT_set8 e1 (by decide) _ _ _ _ _ _ _ _)
    · exact below_set8 (below_set8 (hb0to HB.out B1.out) (Nat.le_refl _) _ _ _ _ _ _ _ _) (by omega) _ _ _ _ _ _ _ _

open Go.RowKit

structure ExW (W : World) (s : Nat) (F G : FL) : Prop where
  f : FairAt W W.heap.size F exF
  g : FairAt W W.heap.size G (dayF exF 5)
  x : FBox W s F exF
  y : FBox W (s + 1) G (dayF exF 5)
theorem ExW.next {W W' : World} {s : Nat} {F G : FL} (H : ExW W s F G) (hb : Below W.heap.size W W') : ExW W' s F G := ⟨H.f.below hb, H.g.below hb, H.x.of (hb.block _ H.x.lt), H.y.of (hb.block _ H.y.lt)⟩
theorem ExW.c {W : World} {s : Nat} {F G : FL} (H : ExW W s F G) : (W.cell? ⟨s, 0, none⟩ = some (.slice F.L.Ak exF.h.ks.length F.L.ck) ∧ W.cell? ⟨s, 1, none⟩ = some (.int .i64 exF.h.fl) ∧ W.cell? ⟨s, 2, none⟩ = some (.slice F.L.Ap exF.h.ps.length F.L.cp) ∧ W.cell? ⟨s, 3, none⟩ = some (.slice F.L.Ab exF.h.bs.length F.L.cb) ∧ W.cell? ⟨s, 4, none⟩ = some (.slice F.Ap exF.pk.length F.cp) ∧ W.cell? ⟨s, 5, none⟩ = some (.int .i64 exF.day) ∧ W.cell? ⟨s, 6, none⟩ = some (.int .i64 exF.nb) ∧ W.cell? ⟨s, 7, none⟩ = some (.slice F.Aq exF.q.length F.cq)) ∧ W.cell? ⟨s + 1, 0, none⟩ = some (.slice G.L.Ak (dayF exF 5).h.ks.length G.L.ck) ∧ W.cell? ⟨s + 1, 1, none⟩ = some (.int .i64 (dayF exF 5).h.fl) ∧ W.cell? ⟨s + 1, 2, none⟩ = some (.slice G.L.Ap (dayF exF 5).h.ps.length G.L.cp) ∧ W.cell? ⟨s + 1, 3, none⟩ = some (.slice G.L.Ab (dayF exF 5).h.bs.length G.L.cb) ∧ W.cell? ⟨s + 1, 4, none⟩ = some (.slice G.Ap (dayF exF 5).pk.length G.cp) ∧ W.cell? ⟨s + 1, 5, none⟩ = some (.int .i64 (dayF exF 5).day) ∧ W.cell? ⟨s + 1, 6, none⟩ = some (.int .i64 (dayF exF 5).nb) ∧ W.cell? ⟨s + 1, 7, none⟩ = some (.slice G.Aq (dayF exF 5).q.length G.cq) := ⟨H.x.cells, H.y.cells⟩
theorem ExW.new {W : World} {F G : FL} (hF : FairAt W W.heap.size F exF) (hG : FairAt W W.heap.size G (dayF exF 5)) : ExW ((W.alloc (.cells (F.cells exF) 62)).alloc (.cells (G.cells (dayF exF 5)) 62)) W.heap.size F G := by
  have hb := hb0to (al_below W (.cells (F.cells exF) 62)) (al_below _ (.cells (G.cells (dayF exF 5)) 62))
  exact ⟨hF.below hb, hG.below hb, (FBox.new W F exF).of (Below.heap_alloc _ _ _ (by simp)), heap_new2 W _ _⟩
end Go.Proofs.Ytmbcpmnigggbaaa
namespace Go.Proofs.Ytmbcpmnigggbaaa
open Go.RowKit

/-! The law's words: Huge 39, ready 16, most 25, winners 20, won 21. -/
def hugeF (f : Fair) : Bool := hugeB f.h || (decide (40 < f.pk.length) || (decide (40 < f.q.length) || f.q.any fun b => decide (40 < b.bar.length)))
theorem hugeF_no {f : Fair} (h : hugeF f = false) : hugeB f.h = false ∧ f.pk.length ≤ 40 ∧ f.q.length ≤ 40 ∧ ∀ b ∈ f.q, b.bar.length ≤ 40 := by
  simp only [hugeF, Bool.or_eq_false_iff, decide_eq_false_iff_not, List.any_eq_false, decide_eq_true_eq] at h
  exact ⟨h.1, by omega, by omega, fun b hb => by have := h.2.2.2 b hb; omega⟩
theorem hugeF_fn {f : Fair} (h : hugeF f = false) : FN f := by
  obtain ⟨h1, h2, h3, h4⟩ := hugeF_no h
  obtain ⟨k1, k2, k3⟩ := huge_no h1
  exact ⟨⟨by omega, by omega, by omega⟩, by omega, by omega, fun b hb => by have := h4 b hb; omega⟩
theorem hugeF_yes {f : Fair} {k : Nat} {b : Bid} (hb : f.q[k]? = some b) (h : 40 < b.bar.length) : hugeF f = true := by
  have : (f.q.any fun b => decide (40 < b.bar.length)) = true := List.any_eq_true.2 ⟨b, List.mem_of_getElem? hb, by simpa using h⟩
  simp [hugeF, this]
theorem hugeF_all {f : Fair} (h1 : hugeB f.h = false) (h2 : f.pk.length ≤ 40) (h3 : f.q.length ≤ 40) (h : ∀ j x, j < f.q.length → f.q[j]? = some x → x.bar.length ≤ 40) : hugeF f = false := by
  simp only [hugeF, h1, Bool.false_or, Bool.or_eq_false_iff, decide_eq_false_iff_not, List.any_eq_false, decide_eq_true_eq]
  refine ⟨by omega, by omega, fun b hb => ?_⟩
  obtain ⟨j, hj⟩ := List.getElem?_of_mem hb
  have := h j b (List.getElem?_eq_some_iff.1 hj).1 hj
  omega
set_option maxRecDepth 100000 in
set_option maxHeartbeats 4000000 in
theorem hugeF_any (F : FL) (f : Fair) (w : World) (hF : FairAt w w.heap.size F f) : Calls Try.prog 96 #[F.enc f] w fun e w' => e = .returned (.bool (hugeF f)) ∧ Below w.heap.size w w' := by
  have hbw := al_below w (.cells #[.slice F.L.Ak f.h.ks.length F.L.ck, .int .i64 f.h.fl, .slice F.L.Ap f.h.ps.length F.L.cp, .slice F.L.Ab f.h.bs.length F.L.cb, .slice F.Ap f.pk.length F.cp, .int .i64 f.day, .int .i64 f.nb, .slice F.Aq f.q.length F.cq] 62)
  have HB := Lib.hid (FBox.new w F f)
  obtain ⟨c0, c1, c2, c3, c4, c5, c6, c7⟩ := (FBox.new w F f).cells
  obtain ⟨W0, hW0⟩ : ∃ W0, w.alloc (.cells #[.slice F.L.Ak f.h.ks.length F.L.ck, .int .i64 f.h.fl, .slice F.L.Ap f.h.ps.length F.L.cp, .slice F.L.Ab f.h.bs.length F.L.cb, .slice F.Ap f.pk.length F.cp, .int .i64 f.day, .int .i64 f.nb, .slice F.Aq f.q.length F.cq] 62) = W0 := ⟨_, rfl⟩
  rw [hW0] at hbw HB c0 c1 c2 c3 c4 c5 c6 c7
  have HBW := Lib.hid hbw
  have HW0 := Lib.hid hW0
  have HF := Lib.hid (hF.below hbw)
  clear hbw hW0 hF
  have H76 := Lib.hid (fun W => huge_any F.L f.h W)
  obtain ⟨L, Ap, cp, Aq, cq⟩ := F
  cases h1 : hugeB f.h
  · rw [h1] at H76
    by_cases p1 : 40 < f.pk.length
    · have hv : hugeF f = true := by simp [hugeF, p1]
      rw [hv]; clear hv
      go_enter Try.func96, Try.ntmps96
      go_upto_region 1 with (fail)
      have e := HW0.out
      rw [e]
      clear e
      go_wp2_with (go_at_call 10; refine (H76.out W0).mono ?_; rintro e w1 ⟨rfl, hb1⟩; have B1 := Lib.hid hb1; obtain ⟨c0, c1, c2, c3, c4, c5, c6, c7⟩ := (HB.out.of (hb1.block _ HB.out.lt)).cells; clear hb1)
      go_ret
      exact ⟨congrArg (fun b => Ending.returned (.bool b)) (by first | rfl | (simp; done) | (simp; omega)), hb0to HBW.out B1.out⟩
    · have p2 : f.pk.length ≤ 40 := by omega
      by_cases q1 : 40 < f.q.length
      · have hv : hugeF f = true := by simp [hugeF, q1]
        rw [hv]; clear hv p1
        go_enter Try.func96, Try.ntmps96
        go_upto_region 1 with (fail)
        have e := HW0.out
        rw [e]
        clear e
        go_wp2_with (go_at_call 10; refine (H76.out W0).mono ?_; rintro e w1 ⟨rfl, hb1⟩; have B1 := Lib.hid hb1; obtain ⟨c0, c1, c2, c3, c4, c5, c6, c7⟩ := (HB.out.of (hb1.block _ HB.out.lt)).cells; clear hb1)
        go_ret
        exact ⟨congrArg (fun b => Ending.returned (.bool b)) (by first | rfl | (simp; done) | (simp; omega)), hb0to HBW.out B1.out⟩
      · have q2 : f.q.length ≤ 40 := by omega
        clear p1 q1
        go_enter Try.func96, Try.ntmps96
        go_upto_region 1 with (fail)
        have e := HW0.out
        rw [e]
        clear e
        go_wp2_with (go_at_call 10; refine (H76.out W0).mono ?_; rintro e w1 ⟨rfl, hb1⟩; have B1 := Lib.hid hb1; obtain ⟨c0, c1, c2, c3, c4, c5, c6, c7⟩ := (HB.out.of (hb1.block _ HB.out.lt)).cells; clear hb1)
        go_loopw [3] (fun i wr => ∃ k : Nat, k ≤ f.q.length ∧ i = .int .i64 k ∧ Hid (∀ j x, j < k → f.q[j]? = some x → x.bar.length ≤ 40) ∧ Hid (Below W0.heap.size W0 wr)) (fun i _ => f.q.length - (intOf i).toNat)
        case atStart => exact ⟨0, Nat.zero_le _, rfl, Lib.hid (fun j x h => absurd h (by omega)), B1⟩
        case round =>
          obtain ⟨k, hk, rfl, hall, hb⟩ := hrel
          obtain ⟨c0, c1, c2, c3, c4, c5, c6, c7⟩ := (HB.out.of (hb.out.block _ HB.out.lt)).cells
          by_cases hlt : k < f.q.length
          · obtain ⟨x, hx⟩ : ∃ x, f.q[k]? = some x := ⟨_, List.getElem?_eq_getElem hlt⟩
            obtain ⟨bk, ok, A', c', rfl, hbk, d1, d2, d3, hA', hI⟩ := HF.out.q.at_ hx
            have e2 := below_cell hb.out d2
            have HX := Lib.hid hx
            clear d1 d2 d3 hA' hI hx
            by_cases hbar : 40 < x.bar.length
            · have hv : hugeF f = true := hugeF_yes HX.out hbar
              have HV := Lib.hid hv
              clear hv
              go_wp2_with (fail)
              go_ret
              exact ⟨(congrArg (fun b => Ending.returned (.bool b)) HV.out).symm, hb0to HBW.out hb.out⟩
            · have hbar2 : x.bar.length ≤ 40 := by omega
              go_wp2_with (fail)
              go_roundw
              case rel => exact ⟨k + 1, by omega, by go_num, Lib.hid (fun j y hj hy => by
                  rcases Nat.lt_succ_iff_lt_or_eq.1 hj with h | rfl
                  · exact hall.out j y h hy
                  · have := HX.out; rw [hy] at this; cases this; exact hbar2), hb⟩
              case measure => simp [intOf]; omega
          · obtain rfl : k = f.q.length := by omega
            have hv : hugeF f = false := hugeF_all h1 p2 q2 hall.out
            have HV := Lib.hid hv
            clear hv
            go_wp2_with (fail)
            go_ret
            exact ⟨(congrArg (fun b => Ending.returned (.bool b)) HV.out).symm, hb0to HBW.out hb.out⟩
  · rw [h1] at H76
    have hv : hugeF f = true := by simp [hugeF, h1]
    rw [hv]; clear hv
    go_enter Try.func96, Try.ntmps96
    go_upto_region 1 with (fail)
    have e := HW0.out
    rw [e]
    clear e
    go_wp2_with (go_at_call 10; refine (H76.out W0).mono ?_; rintro e w1 ⟨rfl, hb1⟩; have B1 := Lib.hid hb1; obtain ⟨c0, c1, c2, c3, c4, c5, c6, c7⟩ := (HB.out.of (hb1.block _ HB.out.lt)).cells; clear hb1)
    go_ret
    exact ⟨rfl, hb0to HBW.out B1.out⟩
open Go.RowKit

/-! most 25, winners 20, won 21. -/
/-- What the best sales of a valid fair bring. -/
def mW (f : Fair) : Int := mostV f.q (rdF f)
def wL (f : Fair) : List Nat := winL f.q (rdF f)
theorem FOK.pos' {f : Fair} (h : FOK f) : ∀ b ∈ f.q, 0 ≤ b.pay := fun b hb => (h.pay b hb).1
theorem mW_bd {f : Fair} (h : FOK f) : 0 ≤ mW f ∧ mW f ≤ 792 := by
  have h1 := mostTo_bd h.ql h.pay allM (setsL f.q (rdF f))
  have h2 := (mostV_is (rd := rdF f) h.ql h.pos').all_nonneg
  unfold mW
  unfold mostV at h2 ⊢
  omega
theorem ask_valid {f : Fair} (hv : validF f = true) : askF f true = 0 := by simp [askF, hv]
theorem wL_win {f : Fair} (h : FOK f) : WinIs f.q (rdF f) (wL f) := (win_of_sets h.ql h.pos').2
/-- The bid of a buyer among some. -/
def wonI (q : List Bid) (l : List Nat) (v : Int) : Int := match l.find? (ownP q v) with | some i => (i : Int) | none => -1
end Go.Proofs.Ytmbcpmnigggbaaa
