import Derived.WalkKit
import Derived.WalkSpells
import Derived.BigQuiet
import Derived.Below
import Derived.Lib.Hide
namespace Go.Proofs.Ytohoonbbjkefaaa
open Go.RowKit

/-! A region that draws its order, whose operations read and whose calls make memory of their own: walked once, in the order of the text. -/
open Classical in
/-- The world x, if it lies over w; else w itself. -/
noncomputable def extB (w x : World) : World := if Below w.heap.size w x then x else w
theorem extB_below (w x : World) : Below w.heap.size w (extB w x) := by
  unfold extB
  split
  · assumption
  · exact Below.refl _ _
theorem extB_of {w W : World} (h : Below w.heap.size w W) : ∃ x, W = extB w x := ⟨W, by unfold extB; rw [if_pos h]⟩
theorem cell_lt {w : World} {a : Addr} {v : Value} (h : w.cell? a = some v) : a.block < w.heap.size := by
  unfold World.cell? at h
  split at h
  · rename_i hh
    exact (Array.getElem?_eq_some_iff.1 hh).1
  · cases h
theorem extB_cell {w : World} {a : Addr} {v : Value} (h : w.cell? a = some v) : ∀ x, (extB w x).cell? a = some v := fun x => ((extB_below w x).cell (cell_lt h)).trans h
theorem below_cell {w W : World} (hb : Below w.heap.size w W) {a : Addr} {v : Value} (h : w.cell? a = some v) : W.cell? a = some v := (hb.cell (cell_lt h)).trans h
theorem wp_region_ext {P : Program} {id : Nat} {Q : Exit → Act → World → Prop} {a : Act} {w : World} {l : List Oper} (hm : P.follows .mixedOrders = true) (hB : Region.lexB .any l.toArray = true)
    (h : wpQuiet P l.toArray (fun w' => ∃ x, w' = extB w x) (fun a' => ∀ w', (∃ x, w' = extB w x) → Q .normal a' w') l a) : (Code.region id l.toArray true).wp P Q a w :=
  wp_region_quiet (C := fun w' => ∃ x, w' = extB w x) hm hB (extB_of (Below.refl _ w).drew) (by simpa using h)
theorem ext_call {P : Program} {f : FuncId} {args : Array Value} {w x : World} {v : Value} (h : Calls P f args (extB w x) fun e w' => e = .returned v ∧ Below (extB w x).heap.size (extB w x) w') :
    Calls P f args (extB w x) fun e w'' => e = .returned v ∧ ∃ y, w'' = extB w y :=
  h.mono fun _ _ ⟨he, hb⟩ => ⟨he, extB_of ((extB_below w x).trans (hb.mono (extB_below w x).size))⟩
theorem ext_same {P : Program} {f : FuncId} {args : Array Value} {w x : World} {v : Value} (h : Calls P f args (extB w x) fun e w' => e = .returned v ∧ extB w x = w') :
    Calls P f args (extB w x) fun e w'' => e = .returned v ∧ ∃ y, w'' = extB w y :=
  h.mono fun _ _ ⟨he, hb⟩ => ⟨he, x, hb.symm⟩

/-- n lies from lo to hi. -/
def inR (n lo hi : Int) : Bool := decide (lo ≤ n) && decide (n ≤ hi)
theorem inR_true {n lo hi : Int} : inR n lo hi = true ↔ lo ≤ n ∧ n ≤ hi := by simp [inR]
theorem inR_false {n lo hi : Int} : inR n lo hi = false ↔ ¬ (lo ≤ n ∧ n ≤ hi) := by rw [← inR_true]; simp
end Go.Proofs.Ytohoonbbjkefaaa
