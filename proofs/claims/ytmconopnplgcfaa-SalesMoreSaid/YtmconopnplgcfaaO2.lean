import Derived.Test.YtmconopnplgcfaaO1
namespace Go.Proofs.Ytmconopnplgcfaa

open Go.Joins Go.ChangeShapes Go.WideShapes Go.ChangeAt Go.RowKit Go.Deep
section
variable {H : Type} {enc : TypeId × Value → H} {W : World} {spare : Nat → Bool} {held : Bool}
set_option maxRecDepth 100000 in
/-- A bid that came in. -/
theorem open_bid {r : Reach} {b0 : Nat} {v : Value} {d : DataW H} {p : List MemPlace} (hsp : ∀ b, spare b = true) (hv : Value.okWide Try.prog W r b0 38 v) (h : DataW.Trod enc Try.prog W 0 spare held 38 v d p) :
    ∃ (A : Option Addr) (c : Nat) (b : Bid), v = .agg #[.int .i64 b.who, .slice A b.bar.length c, .int .i64 b.pay] ∧ (A = none → c = 0 ∧ b.bar = []) ∧ b.bar.length ≤ 9223372036854775807 ∧ IntsAt W W.heap.size A b.bar := by
  obtain ⟨v0, v1, v2, y0, y1, y2, n, rfl, _, _, h0, h1, h2⟩ := open_agg3 Try.underlying38 (by kernel_rfl) (by kernel_rfl) hv h
  obtain ⟨i0, e0, _⟩ := DataW.trod_int Try.underlying3 h0
  obtain ⟨A, c, l, rfl, a1, b1, m1, _, _⟩ := open_ints_in hsp h1
  obtain ⟨i2, e2, _⟩ := DataW.trod_int Try.underlying3 h2
  simp only [List.cons.injEq, and_true] at e0 e2
  subst e0 e2
  exact ⟨A, c, ⟨i0, l, i2⟩, rfl, a1, b1, m1⟩
end
end Go.Proofs.Ytmconopnplgcfaa
