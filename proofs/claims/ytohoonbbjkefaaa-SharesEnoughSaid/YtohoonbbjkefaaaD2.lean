import Derived.Test.YtohoonbbjkefaaaD1
namespace Go.Proofs.Ytohoonbbjkefaaa
open Go.Joins Go.ChangeShapes Go.WideShapes Go.ChangeAt Go.RowKit Go.Deep
section
variable {H : Type} {enc : TypeId × Value → H} {W : World} {spare : Nat → Bool} {held : Bool}
set_option maxRecDepth 100000 in
/-- How many times as great, a node, pence: as they came in. -/
theorem open_times {r : Reach} {b0 : Nat} {v : Value} {d : DataW H} {p : List MemPlace} (hv : Value.okWide Try.prog W r b0 53 v) (h : DataW.Trod enc Try.prog W 0 spare held 53 v d p) :
    ∃ (x y z : Int), v = .agg #[.int .i64 x, .int .i64 y, .int .i64 z] := by
  obtain ⟨v0, v1, v2, y0, y1, y2, n, rfl, _, _, h0, h1, h2⟩ := open_agg3 Try.underlying53 (by kernel_rfl) (by kernel_rfl) hv h
  obtain ⟨i0, e0, _⟩ := DataW.trod_int Try.underlying3 h0
  obtain ⟨i1, e1, _⟩ := DataW.trod_int Try.underlying3 h1
  obtain ⟨i2, e2, _⟩ := DataW.trod_int Try.underlying3 h2
  simp only [List.cons.injEq, and_true] at e0 e1 e2
  exact ⟨i0, i1, i2, by rw [e0, e1, e2]⟩
end
end Go.Proofs.Ytohoonbbjkefaaa
