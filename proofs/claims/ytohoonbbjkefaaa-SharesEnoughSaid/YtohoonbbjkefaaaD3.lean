import Derived.Test.YtohoonbbjkefaaaD2
import Derived.OpenShut
import Derived.ChangeSlices
namespace Go.Proofs.Ytohoonbbjkefaaa
open Go.Joins Go.ChangeShapes Go.WideShapes Go.ChangeAt Go.RowKit Go.Deep
section
variable {H : Type} {enc : TypeId × Value → H} {W : World} {spare : Nat → Bool} {held : Bool}
set_option maxRecDepth 100000 in
/-- Numbers that came in. -/
theorem open_nums {r : Reach} {b0 : Nat} {v : Value} {d : DataW H} {p : List MemPlace} (hsp : ∀ b, spare b = true) (hv : Value.okWide Try.prog W r b0 40 v) (h : DataW.Trod enc Try.prog W 0 spare held 40 v d p) :
    ∃ (A : Option Addr) (c : Nat) (l : List Int), v = .slice A l.length c ∧ (A = none → c = 0 ∧ l = []) ∧ l.length ≤ 9223372036854775807 ∧ IntsAt W W.heap.size A l := by
  obtain ⟨a0, len, cap, rfl⟩ := okWide_slice Try.underlying40 hv
  obtain ⟨fuel, hf⟩ := h
  rcases Go.ChangeShapes.open_ints Try.underlying40 Try.underlying3 (by kernel_rfl) hf with ⟨hcs, _⟩ | ⟨a, len', cap', zs, hcs, _, hl, hm, hz, _, hcell, _⟩
  · simp [Value.cells] at hcs
    obtain ⟨rfl, rfl, rfl⟩ := hcs
    exact ⟨none, 0, [], rfl, fun _ => ⟨rfl, rfl⟩, by simp, .inl rfl⟩
  · simp [Value.cells] at hcs
    obtain ⟨rfl, rfl, rfl⟩ := hcs
    rw [hsp, if_pos rfl] at hz
    have hlen : (zs.take len).length = len := by rw [List.length_take]; omega
    refine ⟨some a, cap, zs.take len, by rw [hlen], fun h => (by cases h), by rw [hlen]; unfold maxLen at hm; omega, ?_⟩
    by_cases h0 : zs.take len = []
    · exact .inl h0
    · have hpos : 0 < zs.length := by
        have := List.length_pos_iff.2 h0
        omega
      obtain ⟨b, off, rfl, hc⟩ := ints_at hcell hpos
      refine .inr ⟨b, off, rfl, ?_, fun i x hx => ?_⟩
      · have := cell_lt (hc 0 hpos)
        exact this
      · have hi := (List.getElem?_eq_some_iff.1 hx).1
        rw [hlen] at hi
        rw [List.getElem?_take_of_lt hi] at hx
        have := hc i (by omega)
        rw [List.getD_eq_getElem?_getD, hx] at this
        exact this
set_option maxRecDepth 100000 in
/-- Payments that came in. -/
theorem open_pays {r : Reach} {b0 : Nat} {v : Value} {d : DataW H} {p : List MemPlace} (hsp : ∀ b, spare b = true) (hv : Value.okWide Try.prog W r b0 57 v) (h : DataW.Trod enc Try.prog W 0 spare held 57 v d p) :
    ∃ (A : Option Addr) (c : Nat) (ps : List Node), v = .slice A ps.length c ∧ (A = none → c = 0 ∧ ps = []) ∧ ps.length ≤ 9223372036854775807 ∧ Nodes W W.heap.size A ps := by
  obtain ⟨a0, len, cap, rfl⟩ := okWide_slice Try.underlying57 hv
  obtain ⟨fuel, hf⟩ := h
  have hf' : DataW.trod enc Try.prog W 0 spare held fuel 57 [.slice a0 len cap] = some (d, p) := by simpa [Value.cells] using hf
  obtain ⟨A, c, ns, e, h1, h2, h3⟩ := open_nodes hsp Try.underlying57 Try.underlying72 ⟨rfl, rfl, rfl⟩ (by kernel_rfl) (by kernel_rfl) hf'
  exact ⟨A, c, ns, e, h1, h2, h3⟩
end
end Go.Proofs.Ytohoonbbjkefaaa
