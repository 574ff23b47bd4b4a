import Derived.Test.YtgemmmdcpbajoaaV3
namespace Go.Proofs.Ytgemmmdcpbajoaa
open Go.Joins Go.ChangeShapes Go.WideShapes Go.ChangeAt Go.RowKit Go.Deep
section
variable {H : Type} {enc : TypeId × Value → H} {W : World} {spare : Nat → Bool} {held : Bool}
theorem pairs_cap {t e : TypeId} {f0 f1 : Field} {n : Nat} {v0 : Value} {y0 : DataW H × List MemPlace} (ht : Try.prog.underlying t = some (.slice e)) (he : Try.prog.underlying e = some (.struct #[f0, f1]))
    (hone : oneCellFields Try.prog #[f0, f1] = true) (hC : Try.prog.cellsOf e = 2) (h : DataW.trod enc Try.prog W 0 spare held n t [v0] = some y0) {A : Option Addr} {m c : Nat} (hv : v0 = .slice A m c) : m ≤ c := by
  rcases open_slice_fields ht he hone hC h with ⟨e1, _⟩ | ⟨a, len, cap, m', D, Pl, hcs, hb, hl, hm, hmm, hx, hi⟩
  · simp only [List.cons.injEq, and_true] at e1
    rw [e1] at hv
    cases hv
    exact Nat.le_refl _
  · simp only [List.cons.injEq, and_true] at hcs
    rw [hcs] at hv
    cases hv
    exact hl
set_option maxRecDepth 100000 in
/-- The parts' slice of a house that came in has room for them. -/
theorem house_cap {r : Reach} {b0 : Nat} {L : HL} {h : House} {d : DataW H} {p : List MemPlace} (hv : Value.okWide Try.prog W r b0 26 (L.enc h)) (hT : DataW.Trod enc Try.prog W 0 spare held 26 (L.enc h) d p) : h.ps.length ≤ L.cp := by
  obtain ⟨v0, v1, v2, v3, y0, y1, y2, y3, n, e, h0, h1, h2, h3⟩ := open_agg4s Try.underlying26 (by kernel_rfl) (by kernel_rfl) hv hT
  have e2 : v2 = .slice L.Ap h.ps.length L.cp := by
    simp only [HL.enc, Value.agg.injEq] at e
    have := congrArg (fun a : Array Value => a[2]?) e
    simpa using this.symm
  exact pairs_cap Try.underlying23 Try.underlying38 (by kernel_rfl) (by kernel_rfl) h2 e2
set_option maxRecDepth 100000 in
/-- Some parts, a packing and a barrel that came in. -/
theorem open_ask {r : Reach} {b0 : Nat} {v : Value} {d : DataW H} {p : List MemPlace} (hsp : ∀ b, spare b = true) (hv : Value.okWide Try.prog W r b0 43 v) (h : DataW.Trod enc Try.prog W 0 spare held 43 v d p) :
    ∃ (A1 : Option Addr) (c1 : Nat) (l1 : List Int) (A2 : Option Addr) (c2 : Nat) (l2 : List Int) (n : Int), v = .agg #[.slice A1 l1.length c1, .slice A2 l2.length c2, .int .i64 n] ∧ (A1 = none → c1 = 0 ∧ l1 = []) ∧ (A2 = none → c2 = 0 ∧ l2 = []) ∧ IntsAt W W.heap.size A1 l1 ∧ IntsAt W W.heap.size A2 l2 := by
  obtain ⟨v0, v1, v2, y0, y1, y2, n, rfl, _, _, h0, h1, h2⟩ := open_agg3 Try.underlying43 (by kernel_rfl) (by kernel_rfl) hv h
  obtain ⟨A1, c1, l1, rfl, a1, _, m1, _, _⟩ := open_ints_in hsp h0
  obtain ⟨A2, c2, l2, rfl, a2, _, m2, _, _⟩ := open_ints_in hsp h1
  obtain ⟨i2, e2, _⟩ := DataW.trod_int Try.underlying3 h2
  simp only [List.cons.injEq, and_true] at e2
  subst e2
  exact ⟨A1, c1, l1, A2, c2, l2, i2, rfl, a1, a2, m1, m2⟩
end
end Go.Proofs.Ytgemmmdcpbajoaa
