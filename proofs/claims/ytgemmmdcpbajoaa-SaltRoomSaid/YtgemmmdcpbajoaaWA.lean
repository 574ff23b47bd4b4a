import Derived.Test.YtgemmmdcpbajoaaV3
namespace Go.Proofs.Ytgemmmdcpbajoaa
open Go.Joins Go.ChangeShapes Go.WideShapes Go.ChangeAt Go.RowKit Go.Deep
section
variable {H : Type} {enc : TypeId × Value → H} {W : World} {spare : Nat → Bool} {held : Bool}
set_option maxRecDepth 100000 in
/-- Four numbers that came in. -/
theorem open_turn {r : Reach} {b0 : Nat} {v : Value} {d : DataW H} {p : List MemPlace} (hv : Value.okWide Try.prog W r b0 57 v) (h : DataW.Trod enc Try.prog W 0 spare held 57 v d p) :
    ∃ (a b c e : Int), v = .agg #[.int .i64 a, .int .i64 b, .int .i64 c, .int .i64 e] := by
  obtain ⟨v0, v1, v2, v3, y0, y1, y2, y3, n, rfl, h0, h1, h2, h3⟩ := open_agg4s Try.underlying57 (by kernel_rfl) (by kernel_rfl) hv h
  obtain ⟨i0, e0, _⟩ := DataW.trod_int Try.underlying3 h0
  obtain ⟨i1, e1, _⟩ := DataW.trod_int Try.underlying3 h1
  obtain ⟨i2, e2, _⟩ := DataW.trod_int Try.underlying3 h2
  obtain ⟨i3, e3, _⟩ := DataW.trod_int Try.underlying3 h3
  simp only [List.cons.injEq, and_true] at e0 e1 e2 e3
  subst e0 e1 e2 e3
  exact ⟨i0, i1, i2, i3, rfl⟩
set_option maxRecDepth 100000 in
/-- Three numbers that came in. -/
theorem open_room {r : Reach} {b0 : Nat} {v : Value} {d : DataW H} {p : List MemPlace} (hv : Value.okWide Try.prog W r b0 64 v) (h : DataW.Trod enc Try.prog W 0 spare held 64 v d p) :
    ∃ (a b c : Int), v = .agg #[.int .i64 a, .int .i64 b, .int .i64 c] := by
  obtain ⟨v0, v1, v2, y0, y1, y2, n, rfl, _, _, h0, h1, h2⟩ := open_agg3 Try.underlying64 (by kernel_rfl) (by kernel_rfl) hv h
  obtain ⟨i0, e0, _⟩ := DataW.trod_int Try.underlying3 h0
  obtain ⟨i1, e1, _⟩ := DataW.trod_int Try.underlying3 h1
  obtain ⟨i2, e2, _⟩ := DataW.trod_int Try.underlying3 h2
  simp only [List.cons.injEq, and_true] at e0 e1 e2
  subst e0 e1 e2
  exact ⟨i0, i1, i2, rfl⟩
end
end Go.Proofs.Ytgemmmdcpbajoaa
