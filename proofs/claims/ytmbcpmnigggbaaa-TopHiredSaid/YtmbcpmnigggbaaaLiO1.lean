import Derived.Test.YtmbcpmnigggbaaaLiM5
import Derived.Test.YtmbcpmnigggbaaaRows
import Derived.WalkKit
import Derived.ProofKit
import Derived.OpenShut
import Derived.Carry
import Derived.Deep.Slices
import Derived.Deep.Fields
import Derived.ChangeSame
import Derived.Lib.SmallJoins
import Derived.ChangeSlices
namespace Go.Proofs.Ytmbcpmnigggbaaa.Li
open Go.Joins Go.ChangeShapes Go.WideShapes Go.ChangeAt Go.RowKit Go.Deep

section
variable {H : Type} {enc : TypeId × Value → H} {P : Program} {w : World} {base : Nat} {spare : Nat → Bool} {held : Bool}
theorem open_slice_fields {t e : TypeId} {fs : Array Field} {fuel : Nat} {cs : List Value} {x : DataW H × List MemPlace} (ht : P.underlying t = some (.slice e)) (he : P.underlying e = some (.struct fs))
    (hone : oneCellFields P fs = true) (hC : P.cellsOf e = fs.size) (h : DataW.trod enc P w base spare held fuel t cs = some x) :
    (cs = [.slice none 0 0] ∧ x = (.nil, [])) ∨
    ∃ (a : Addr) (len cap m : Nat) (D : Nat → DataW H) (Pl : Nat → List MemPlace), cs = [.slice (some a) len cap] ∧ base ≤ a.block ∧ len ≤ cap ∧ cap ≤ maxLen ∧ m = (if spare a.block then cap else len) ∧
      x = (.slice ((List.range len).map D) ((List.range (m - len)).map fun j => D (len + j)), MemPlace.row a (m * fs.size) ++ (List.range m).flatMap Pl) ∧
      ∀ i, i < m → ∃ (ys : List (DataW H × List MemPlace)) (n : Nat), D i = .agg (ys.map (·.1)) ∧ Pl i = ys.flatMap (·.2) ∧ ys.length = fs.size ∧
        ∀ (j : Nat) (f : Field), fs[j]? = some f → ∃ (v : Value) (y : DataW H × List MemPlace), w.cell? (a.add (i * fs.size + j)) = some v ∧ ys[j]? = some y ∧ DataW.trod enc P w base spare held n f.type [v] = some y := by
  rcases open_slice ht h with h0 | ⟨a, len, cap, m, n, D, Pl, hcs, hb, hl, hm, hmm, hx, hi⟩
  · exact .inl h0
  · refine .inr ⟨a, len, cap, m, D, Pl, hcs, hb, hl, hm, hmm, by rw [hC] at hx; exact hx, fun i him => ?_⟩
    obtain ⟨cs', hc, ht'⟩ := hi i him
    rw [hC] at hc
    obtain ⟨ys, n', hn', hy, hlen, hyl, hf⟩ := DataW.trod_struct he ht'
    obtain ⟨_, hcl, hat⟩ := World.cells?_some hc
    simp only [Prod.mk.injEq] at hy
    refine ⟨ys, n', hy.1, hy.2, hyl, fun j f hj => ?_⟩
    obtain ⟨ho, hk⟩ := hone_of hone j f hj
    have hjl : j < fs.size := (Array.getElem?_eq_some_iff.1 hj).1
    have hcell := hat j hjl
    have hv : cs'[j]? = some (cs'[j]'(by omega)) := List.getElem?_eq_getElem (by omega)
    have h1 := hf j f hj
    rw [ho, hk] at h1
    have hone' : (cs'.drop j).take 1 = [cs'[j]'(by omega)] := by
      rw [List.drop_eq_getElem_cons (by omega)]
      rfl
    rw [hone'] at h1
    have hys : ys[j]? = some (ys[j]'(by omega)) := List.getElem?_eq_getElem (by omega)
    refine ⟨_, _, ?_, hys, h1.trans hys⟩
    rw [← Go.Deep.add_add, hcell, hv]
end

theorem list_of {α : Type} {Q : Nat → α → Prop} : ∀ (n : Nat), (∀ i, i < n → ∃ x, Q i x) → ∃ l : List α, l.length = n ∧ ∀ i x, l[i]? = some x → Q i x
  | 0, _ => ⟨[], rfl, fun i x h => by simp at h⟩
  | n + 1, h => by
    obtain ⟨l, hl, hq⟩ := list_of n (fun i hi => h i (by omega))
    obtain ⟨x, hx⟩ := h n (by omega)
    refine ⟨l ++ [x], by simp [hl], fun i y hy => ?_⟩
    by_cases hi : i < n
    · rw [List.getElem?_append_left (by omega)] at hy; exact hq i y hy
    · have hil := (List.getElem?_eq_some_iff.1 hy).1
      rw [List.length_append, List.length_singleton] at hil
      obtain rfl : i = n := by omega
      rw [List.getElem?_append_right (by omega), hl] at hy
      simp at hy
      subst hy
      exact hx
theorem spot_none {W : World} {a : Addr} {v : Value} (h : W.cell? a = some v) : a.spot = none := by
  unfold World.cell? at h
  split at h
  · cases hs : a.spot with
    | none => rfl
    | some s => simp [hs] at h
  · cases h
section
variable {H : Type} {enc : TypeId × Value → H} {W : World} {spare : Nat → Bool} {held : Bool}
/-- A list of structs of two numbers that came in. -/
theorem open_pairs {t e : TypeId} {f0 f1 : Field} {n : Nat} {v0 : Value} {y0 : DataW H × List MemPlace} (hsp : ∀ b, spare b = true) (ht : Try.prog.underlying t = some (.slice e)) (he : Try.prog.underlying e = some (.struct #[f0, f1])) (h3 : f0.type = 3 ∧ f1.type = 3)
    (hone : oneCellFields Try.prog #[f0, f1] = true) (hC : Try.prog.cellsOf e = 2) (h : DataW.trod enc Try.prog W 0 spare held n t [v0] = some y0) :
    ∃ (A : Option Addr) (c : Nat) (ns : List (Int × Int)), v0 = .slice A ns.length c ∧ (A = none → c = 0 ∧ ns = []) ∧ ns.length ≤ 9223372036854775807 ∧ PairsAt W W.heap.size A ns := by
  rcases open_slice_fields ht he hone hC h with ⟨e1, _⟩ | ⟨a, len, cap, m, D, Pl, hcs, hb, hl, hm, hmm, hx, hi⟩
  · simp only [List.cons.injEq, and_true] at e1
    exact ⟨none, 0, [], e1, fun _ => ⟨rfl, rfl⟩, by simp, .inl rfl⟩
  · simp only [List.cons.injEq, and_true] at hcs
    rw [hsp, if_pos rfl] at hmm
    subst hmm
    obtain ⟨ns, hnl, hq⟩ := list_of (Q := fun i (x : Int × Int) => W.cell? (a.add (i * 2)) = some (.int .i64 x.1) ∧ W.cell? (a.add (i * 2 + 1)) = some (.int .i64 x.2)) len (fun i hil => by
      obtain ⟨ys, n', _, _, _, hf⟩ := hi i (by omega)
      obtain ⟨u0, z0, k0, _, t0⟩ := hf 0 f0 rfl
      obtain ⟨u1, z1, k1, _, t1⟩ := hf 1 f1 rfl
      rw [h3.1] at t0
      rw [h3.2] at t1
      obtain ⟨i0, e0, _⟩ := DataW.trod_int Try.underlying3 t0
      obtain ⟨i1, e1, _⟩ := DataW.trod_int Try.underlying3 t1
      simp only [List.cons.injEq, and_true] at e0 e1
      subst e0 e1
      exact ⟨(i0, i1), k0, k1⟩)
    refine ⟨some a, _, ns, by rw [hnl]; exact hcs, (fun h => by cases h), by unfold maxLen at hm; omega, ?_⟩
    by_cases h0 : ns = []
    · exact .inl h0
    · have hlen : 0 < ns.length := List.length_pos_iff.2 h0
      have hx0 : ns[0]? = some ns[0] := List.getElem?_eq_getElem hlen
      have hs := (hq 0 _ hx0).1
      have hs1 := spot_none hs
      have hlt := cell_lt hs
      obtain ⟨b, off, sp⟩ := a
      have hb2 : ((⟨b, off, sp⟩ : Addr).add (0 * 2)) = ⟨b, off, sp⟩ := by simp [Addr.add]
      rw [hb2] at hs1 hlt
      simp only at hs1 hlt
      subst hs1
      refine .inr ⟨b, off, rfl, hlt, fun i x hx => ?_⟩
      have := hq i x hx
      rw [addr_add, addr_add] at this
      exact this
/-- A struct of two cells, one, and one. -/
theorem open_agg211 {P : Program} {w : World} {base : Nat} {r : Reach} {b0 : Nat} {t : TypeId} {f0 f1 f2 : Field} {v : Value} {d : DataW H} {p : List MemPlace} (hs : P.underlying t = some (.struct #[f0, f1, f2])) (ho : f0.offset = 0 ∧ P.cellsOf f0.type = 2 ∧ f1.offset = 2 ∧ P.cellsOf f1.type = 1 ∧ f2.offset = 3 ∧ P.cellsOf f2.type = 1) (hC : P.cellsOf t = 4)
    (hv : Value.okWide P w r b0 t v) (h : DataW.Trod enc P w base spare held t v d p) :
    ∃ (v0 v1 v2 v3 : Value) (y0 y1 y2 : DataW H × List MemPlace) (n : Nat), v = .agg #[v0, v1, v2, v3] ∧ DataW.trod enc P w base spare held n f0.type [v0, v1] = some y0 ∧ DataW.trod enc P w base spare held n f1.type [v2] = some y1 ∧ DataW.trod enc P w base spare held n f2.type [v3] = some y2 := by
  obtain ⟨cs, rfl, hsz⟩ := okWide_struct hs hv
  obtain ⟨l⟩ := cs
  match l, hsz.trans hC with
  | [c0, c1, c2, c3], _ =>
    obtain ⟨fuel, hf⟩ := h
    obtain ⟨xs, n, _, hx, _, hlen, hg⟩ := DataW.trod_struct hs hf
    obtain ⟨a0, k0, a1, k1, a2, k2⟩ := ho
    match xs, hlen with
    | [y0, y1, y2], _ =>
      exact ⟨c0, c1, c2, c3, y0, y1, y2, n, rfl, by simpa [Value.cells, a0, k0] using hg 0 f0 rfl, by simpa [Value.cells, a1, k1] using hg 1 f1 rfl, by simpa [Value.cells, a2, k2] using hg 2 f2 rfl⟩
/-- A struct of two numbers, by its cells. -/
theorem open_two {P : Program} {w : World} {base : Nat} {t : TypeId} {f0 f1 : Field} {u0 u1 : Value} {n : Nat} {y : DataW H × List MemPlace} (hs : P.underlying t = some (.struct #[f0, f1])) (hone : oneCellFields P #[f0, f1] = true) (h3 : f0.type = 3 ∧ f1.type = 3) (hu : P.underlying 3 = some (.int .i64))
    (h : DataW.trod enc P w base spare held n t [u0, u1] = some y) : ∃ a b : Int, u0 = .int .i64 a ∧ u1 = .int .i64 b := by
  obtain ⟨xs, n', _, _, _, hlen, hg⟩ := DataW.trod_struct hs h
  obtain ⟨o0, k0⟩ := hone_of hone 0 f0 rfl
  obtain ⟨o1, k1⟩ := hone_of hone 1 f1 rfl
  match xs, hlen with
  | [y0, y1], _ =>
    have h0 := hg 0 f0 rfl
    have h1 := hg 1 f1 rfl
    rw [h3.1] at h0
    rw [h3.2] at h1
    rw [h3.1] at k0
    rw [h3.2] at k1
    rw [o0, k0] at h0
    rw [o1, k1] at h1
    obtain ⟨i0, e0, _⟩ := DataW.trod_int hu (show DataW.trod enc P w base spare held n' 3 [u0] = some y0 from h0)
    obtain ⟨i1, e1, _⟩ := DataW.trod_int hu (show DataW.trod enc P w base spare held n' 3 [u1] = some y1 from h1)
    simp only [List.cons.injEq, and_true] at e0 e1
    exact ⟨i0, i1, e0, e1⟩
set_option maxRecDepth 100000 in
/-- A sea that came in. -/
theorem open_sea {r : Reach} {b0 : Nat} {v : Value} {d : DataW H} {p : List MemPlace} (hsp : ∀ b, spare b = true) (hv : Value.okWide Try.prog W r b0 44 v) (h : DataW.Trod enc Try.prog W 0 spare held 44 v d p) :
    ∃ (L : SL) (s : Sea), v = L.enc s ∧ SLOK L s ∧ (s.ps.length ≤ 9223372036854775807 ∧ s.bs.length ≤ 9223372036854775807) ∧ SeaAt W W.heap.size L s := by
  obtain ⟨v0, v1, v2, v3, y0, y1, y2, n, rfl, h0, h1, h2⟩ := open_agg211 Try.underlying44 ⟨rfl, by kernel_rfl, rfl, by kernel_rfl, rfl, by kernel_rfl⟩ (by kernel_rfl) hv h
  obtain ⟨wl, wh, rfl, rfl⟩ := open_two Try.underlying35 (by kernel_rfl) ⟨rfl, rfl⟩ Try.underlying3 h0
  obtain ⟨A1, c1, p, rfl, a1, b1, m1⟩ := open_pairs hsp Try.underlying41 Try.underlying35 ⟨rfl, rfl⟩ (by kernel_rfl) (by kernel_rfl) h1
  obtain ⟨A2, c2, q, rfl, a2, b2, m2⟩ := open_pairs hsp Try.underlying42 Try.underlying66 ⟨rfl, rfl⟩ (by kernel_rfl) (by kernel_rfl) h2
  exact ⟨⟨A1, c1, A2, c2⟩, ⟨wl, wh, p, q⟩, rfl, ⟨a1, a2⟩, ⟨b1, b2⟩, ⟨m1, m2⟩⟩
end
end Go.Proofs.Ytmbcpmnigggbaaa.Li
