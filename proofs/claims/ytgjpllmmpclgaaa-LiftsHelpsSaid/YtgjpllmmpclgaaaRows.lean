/-
  No cell of these rows narrows 'for every input' (looked for: loops, veiled, ifaces, maps, wideKeys, modest, calm, conditions, laid).
  DERIVED. THE GIVEN ROWS OF THIS SEAT. 13 by the template 'for every input the law returns true; each argument reads behind the call as it read before'; 0 by the template 'total and deterministic' (their statements: YtgjpllmmpclgaaaTotals.lean).
  GIVEN WITH THE SEED: the statements are not yours to turn. If you find one false, say at which input.
  Laid BY PROGRAM, IN A SANDBOX (cutbox-rows.mjs): the forced cells as the released guide's own fill.sh prints them over the translation 68ffadddaacda609… (all of the seat's roots in one cut). By AI agents, Wed Nov 11 2026. No macro, syntax, notation, axiom, sorry.
-/
import Derived.Test.YtgjpllmmpclgaaaChecked
import GoSem.Claim
import GoSem.ClaimJoined
import GoSem.ClaimMapViews
import Derived.JoinedTies
import Derived.KernelRfl
namespace Go.Proofs.Ytgjpllmmpclgaaa
/- THE CELL 'sum', in the pinned program and in every row, IS THE sha256 OF THE DUMP (.gsa) THAT YtgjpllmmpclgaaaProg.lean LOADS. Nothing in Lean hashes anything: it is a label: what it is worth is what the hold of that sum in a sandbox is worth. -/
noncomputable def Try.pinned : Pinned := { name := "ytgjpllmmpclgaaa", sum := "68ffadddaacda609ba692ac58cd4492ab96b2264a45acd308b363c37a3c1c3e7", checked := Try.checked }
namespace Rows
def none {H : Type} : Left H := { results := [], args := [] }

/-- 'almadrabalaw05.LiftsShort': WHATEVER THE INPUT: true; the input reads as it did. -/
def liftsShortSpec : ChangeSpec := { name := "liftsShort", fn := fun _ => fun
  | [d1, d2] => { results := [.lit (.bool true)], args := [d1, d2] }
  | _ => none }
def liftsShortRow : OpenClaim := { program := "ytgjpllmmpclgaaa", sum := "68ffadddaacda609ba692ac58cd4492ab96b2264a45acd308b363c37a3c1c3e7", func := "almadraba/almadrabalaw05.LiftsShort", spec := "liftsShort", unfollowed := true, recurses := true, apart := false }
def LiftsShortSaid : Prop := liftsShortRow.holds Try.pinned (OpenSpec.ofChange liftsShortSpec)

/-- ITS FALSE NEIGHBOUR: 'it returns false'. Refute it at one input. -/
def liftsShortWrong : ChangeSpec := { name := "liftsShort", fn := fun _ => fun
  | [d1, d2] => { results := [.lit (.bool false)], args := [d1, d2] }
  | _ => none }
def LiftsShortWrongFalsely : Prop := liftsShortRow.holds Try.pinned (OpenSpec.ofChange liftsShortWrong)

/-- 'almadrabalaw05.LiftsHeld': WHATEVER THE INPUT: true; the input reads as it did. -/
def liftsHeldSpec : ChangeSpec := { name := "liftsHeld", fn := fun _ => fun
  | [d1, d2, d3] => { results := [.lit (.bool true)], args := [d1, d2, d3] }
  | _ => none }
def liftsHeldRow : OpenClaim := { program := "ytgjpllmmpclgaaa", sum := "68ffadddaacda609ba692ac58cd4492ab96b2264a45acd308b363c37a3c1c3e7", func := "almadraba/almadrabalaw05.LiftsHeld", spec := "liftsHeld", unfollowed := true, recurses := true, apart := false }
def LiftsHeldSaid : Prop := liftsHeldRow.holds Try.pinned (OpenSpec.ofChange liftsHeldSpec)

/-- ITS FALSE NEIGHBOUR: 'it returns false'. Refute it at one input. -/
def liftsHeldWrong : ChangeSpec := { name := "liftsHeld", fn := fun _ => fun
  | [d1, d2, d3] => { results := [.lit (.bool false)], args := [d1, d2, d3] }
  | _ => none }
def LiftsHeldWrongFalsely : Prop := liftsHeldRow.holds Try.pinned (OpenSpec.ofChange liftsHeldWrong)

/-- 'almadrabalaw05.LiftsChosen': WHATEVER THE INPUT: true; the input reads as it did. -/
def liftsChosenSpec : ChangeSpec := { name := "liftsChosen", fn := fun _ => fun
  | [d1, d2] => { results := [.lit (.bool true)], args := [d1, d2] }
  | _ => none }
def liftsChosenRow : OpenClaim := { program := "ytgjpllmmpclgaaa", sum := "68ffadddaacda609ba692ac58cd4492ab96b2264a45acd308b363c37a3c1c3e7", func := "almadraba/almadrabalaw05.LiftsChosen", spec := "liftsChosen", unfollowed := true, recurses := true, apart := false }
def LiftsChosenSaid : Prop := liftsChosenRow.holds Try.pinned (OpenSpec.ofChange liftsChosenSpec)

/-- ITS FALSE NEIGHBOUR: 'it returns false'. Refute it at one input. -/
def liftsChosenWrong : ChangeSpec := { name := "liftsChosen", fn := fun _ => fun
  | [d1, d2] => { results := [.lit (.bool false)], args := [d1, d2] }
  | _ => none }
def LiftsChosenWrongFalsely : Prop := liftsChosenRow.holds Try.pinned (OpenSpec.ofChange liftsChosenWrong)

/-- 'almadrabalaw05.LiftsMore': WHATEVER THE INPUT: true; the input reads as it did. -/
def liftsMoreSpec : ChangeSpec := { name := "liftsMore", fn := fun _ => fun
  | [d1, d2, d3] => { results := [.lit (.bool true)], args := [d1, d2, d3] }
  | _ => none }
def liftsMoreRow : OpenClaim := { program := "ytgjpllmmpclgaaa", sum := "68ffadddaacda609ba692ac58cd4492ab96b2264a45acd308b363c37a3c1c3e7", func := "almadraba/almadrabalaw05.LiftsMore", spec := "liftsMore", unfollowed := true, recurses := true, apart := false }
def LiftsMoreSaid : Prop := liftsMoreRow.holds Try.pinned (OpenSpec.ofChange liftsMoreSpec)

/-- ITS FALSE NEIGHBOUR: 'it returns false'. Refute it at one input. -/
def liftsMoreWrong : ChangeSpec := { name := "liftsMore", fn := fun _ => fun
  | [d1, d2, d3] => { results := [.lit (.bool false)], args := [d1, d2, d3] }
  | _ => none }
def LiftsMoreWrongFalsely : Prop := liftsMoreRow.holds Try.pinned (OpenSpec.ofChange liftsMoreWrong)

/-- 'almadrabalaw05.LiftsOrder': WHATEVER THE INPUT: true; the input reads as it did. -/
def liftsOrderSpec : ChangeSpec := { name := "liftsOrder", fn := fun _ => fun
  | [d1, d2, d3] => { results := [.lit (.bool true)], args := [d1, d2, d3] }
  | _ => none }
def liftsOrderRow : OpenClaim := { program := "ytgjpllmmpclgaaa", sum := "68ffadddaacda609ba692ac58cd4492ab96b2264a45acd308b363c37a3c1c3e7", func := "almadraba/almadrabalaw05.LiftsOrder", spec := "liftsOrder", unfollowed := true, recurses := true, apart := false }
def LiftsOrderSaid : Prop := liftsOrderRow.holds Try.pinned (OpenSpec.ofChange liftsOrderSpec)

/-- ITS FALSE NEIGHBOUR: 'it returns false'. Refute it at one input. -/
def liftsOrderWrong : ChangeSpec := { name := "liftsOrder", fn := fun _ => fun
  | [d1, d2, d3] => { results := [.lit (.bool false)], args := [d1, d2, d3] }
  | _ => none }
def LiftsOrderWrongFalsely : Prop := liftsOrderRow.holds Try.pinned (OpenSpec.ofChange liftsOrderWrong)

/-- 'almadrabalaw05.LiftsCrew': WHATEVER THE INPUT: true; the input reads as it did. -/
def liftsCrewSpec : ChangeSpec := { name := "liftsCrew", fn := fun _ => fun
  | [d] => { results := [.lit (.bool true)], args := [d] }
  | _ => none }
def liftsCrewRow : OpenClaim := { program := "ytgjpllmmpclgaaa", sum := "68ffadddaacda609ba692ac58cd4492ab96b2264a45acd308b363c37a3c1c3e7", func := "almadraba/almadrabalaw05.LiftsCrew", spec := "liftsCrew", unfollowed := true, recurses := true, apart := false }
def LiftsCrewSaid : Prop := liftsCrewRow.holds Try.pinned (OpenSpec.ofChange liftsCrewSpec)

/-- ITS FALSE NEIGHBOUR: 'it returns false'. Refute it at one input. -/
def liftsCrewWrong : ChangeSpec := { name := "liftsCrew", fn := fun _ => fun
  | [d] => { results := [.lit (.bool false)], args := [d] }
  | _ => none }
def LiftsCrewWrongFalsely : Prop := liftsCrewRow.holds Try.pinned (OpenSpec.ofChange liftsCrewWrong)

/-- 'almadrabalaw05.LiftsEach': WHATEVER THE INPUT: true; the input reads as it did. -/
def liftsEachSpec : ChangeSpec := { name := "liftsEach", fn := fun _ => fun
  | [d1, d2, d3] => { results := [.lit (.bool true)], args := [d1, d2, d3] }
  | _ => none }
def liftsEachRow : OpenClaim := { program := "ytgjpllmmpclgaaa", sum := "68ffadddaacda609ba692ac58cd4492ab96b2264a45acd308b363c37a3c1c3e7", func := "almadraba/almadrabalaw05.LiftsEach", spec := "liftsEach", unfollowed := true, recurses := true, apart := false }
def LiftsEachSaid : Prop := liftsEachRow.holds Try.pinned (OpenSpec.ofChange liftsEachSpec)

/-- ITS FALSE NEIGHBOUR: 'it returns false'. Refute it at one input. -/
def liftsEachWrong : ChangeSpec := { name := "liftsEach", fn := fun _ => fun
  | [d1, d2, d3] => { results := [.lit (.bool false)], args := [d1, d2, d3] }
  | _ => none }
def LiftsEachWrongFalsely : Prop := liftsEachRow.holds Try.pinned (OpenSpec.ofChange liftsEachWrong)

/-- 'almadrabalaw05.LiftsFirst': WHATEVER THE INPUT: true; the input reads as it did. -/
def liftsFirstSpec : ChangeSpec := { name := "liftsFirst", fn := fun _ => fun
  | [d1, d2, d3] => { results := [.lit (.bool true)], args := [d1, d2, d3] }
  | _ => none }
def liftsFirstRow : OpenClaim := { program := "ytgjpllmmpclgaaa", sum := "68ffadddaacda609ba692ac58cd4492ab96b2264a45acd308b363c37a3c1c3e7", func := "almadraba/almadrabalaw05.LiftsFirst", spec := "liftsFirst", unfollowed := true, recurses := true, apart := false }
def LiftsFirstSaid : Prop := liftsFirstRow.holds Try.pinned (OpenSpec.ofChange liftsFirstSpec)

/-- ITS FALSE NEIGHBOUR: 'it returns false'. Refute it at one input. -/
def liftsFirstWrong : ChangeSpec := { name := "liftsFirst", fn := fun _ => fun
  | [d1, d2, d3] => { results := [.lit (.bool false)], args := [d1, d2, d3] }
  | _ => none }
def LiftsFirstWrongFalsely : Prop := liftsFirstRow.holds Try.pinned (OpenSpec.ofChange liftsFirstWrong)

/-- 'almadrabalaw05.LiftsHolds': WHATEVER THE INPUT: true; the input reads as it did. -/
def liftsHoldsSpec : ChangeSpec := { name := "liftsHolds", fn := fun _ => fun
  | [d1, d2, d3] => { results := [.lit (.bool true)], args := [d1, d2, d3] }
  | _ => none }
def liftsHoldsRow : OpenClaim := { program := "ytgjpllmmpclgaaa", sum := "68ffadddaacda609ba692ac58cd4492ab96b2264a45acd308b363c37a3c1c3e7", func := "almadraba/almadrabalaw05.LiftsHolds", spec := "liftsHolds", unfollowed := true, recurses := true, apart := false }
def LiftsHoldsSaid : Prop := liftsHoldsRow.holds Try.pinned (OpenSpec.ofChange liftsHoldsSpec)

/-- ITS FALSE NEIGHBOUR: 'it returns false'. Refute it at one input. -/
def liftsHoldsWrong : ChangeSpec := { name := "liftsHolds", fn := fun _ => fun
  | [d1, d2, d3] => { results := [.lit (.bool false)], args := [d1, d2, d3] }
  | _ => none }
def LiftsHoldsWrongFalsely : Prop := liftsHoldsRow.holds Try.pinned (OpenSpec.ofChange liftsHoldsWrong)

/-- 'almadrabalaw05.LiftsMost': WHATEVER THE INPUT: true; the input reads as it did. -/
def liftsMostSpec : ChangeSpec := { name := "liftsMost", fn := fun _ => fun
  | [d] => { results := [.lit (.bool true)], args := [d] }
  | _ => none }
def liftsMostRow : OpenClaim := { program := "ytgjpllmmpclgaaa", sum := "68ffadddaacda609ba692ac58cd4492ab96b2264a45acd308b363c37a3c1c3e7", func := "almadraba/almadrabalaw05.LiftsMost", spec := "liftsMost", unfollowed := true, recurses := true, apart := false }
def LiftsMostSaid : Prop := liftsMostRow.holds Try.pinned (OpenSpec.ofChange liftsMostSpec)

/-- ITS FALSE NEIGHBOUR: 'it returns false'. Refute it at one input. -/
def liftsMostWrong : ChangeSpec := { name := "liftsMost", fn := fun _ => fun
  | [d] => { results := [.lit (.bool false)], args := [d] }
  | _ => none }
def LiftsMostWrongFalsely : Prop := liftsMostRow.holds Try.pinned (OpenSpec.ofChange liftsMostWrong)

/-- 'almadrabalaw05.LiftsSwap': WHATEVER THE INPUT: true; the input reads as it did. -/
def liftsSwapSpec : ChangeSpec := { name := "liftsSwap", fn := fun _ => fun
  | [d1, d2, d3] => { results := [.lit (.bool true)], args := [d1, d2, d3] }
  | _ => none }
def liftsSwapRow : OpenClaim := { program := "ytgjpllmmpclgaaa", sum := "68ffadddaacda609ba692ac58cd4492ab96b2264a45acd308b363c37a3c1c3e7", func := "almadraba/almadrabalaw05.LiftsSwap", spec := "liftsSwap", unfollowed := true, recurses := true, apart := false }
def LiftsSwapSaid : Prop := liftsSwapRow.holds Try.pinned (OpenSpec.ofChange liftsSwapSpec)

/-- ITS FALSE NEIGHBOUR: 'it returns false'. Refute it at one input. -/
def liftsSwapWrong : ChangeSpec := { name := "liftsSwap", fn := fun _ => fun
  | [d1, d2, d3] => { results := [.lit (.bool false)], args := [d1, d2, d3] }
  | _ => none }
def LiftsSwapWrongFalsely : Prop := liftsSwapRow.holds Try.pinned (OpenSpec.ofChange liftsSwapWrong)

/-- 'almadrabalaw05.LiftsHelps': WHATEVER THE INPUT: true; the input reads as it did. -/
def liftsHelpsSpec : ChangeSpec := { name := "liftsHelps", fn := fun _ => fun
  | [d1, d2, d3] => { results := [.lit (.bool true)], args := [d1, d2, d3] }
  | _ => none }
def liftsHelpsRow : OpenClaim := { program := "ytgjpllmmpclgaaa", sum := "68ffadddaacda609ba692ac58cd4492ab96b2264a45acd308b363c37a3c1c3e7", func := "almadraba/almadrabalaw05.LiftsHelps", spec := "liftsHelps", unfollowed := true, recurses := true, apart := false }
def LiftsHelpsSaid : Prop := liftsHelpsRow.holds Try.pinned (OpenSpec.ofChange liftsHelpsSpec)

/-- ITS FALSE NEIGHBOUR: 'it returns false'. Refute it at one input. -/
def liftsHelpsWrong : ChangeSpec := { name := "liftsHelps", fn := fun _ => fun
  | [d1, d2, d3] => { results := [.lit (.bool false)], args := [d1, d2, d3] }
  | _ => none }
def LiftsHelpsWrongFalsely : Prop := liftsHelpsRow.holds Try.pinned (OpenSpec.ofChange liftsHelpsWrong)

/-- 'almadrabalaw05.LiftsSafe': WHATEVER THE INPUT: true; the input reads as it did. -/
def liftsSafeSpec : ChangeSpec := { name := "liftsSafe", fn := fun _ => fun
  | [d1, d2] => { results := [.lit (.bool true)], args := [d1, d2] }
  | _ => none }
def liftsSafeRow : OpenClaim := { program := "ytgjpllmmpclgaaa", sum := "68ffadddaacda609ba692ac58cd4492ab96b2264a45acd308b363c37a3c1c3e7", func := "almadraba/almadrabalaw05.LiftsSafe", spec := "liftsSafe", unfollowed := true, recurses := true, apart := false }
def LiftsSafeSaid : Prop := liftsSafeRow.holds Try.pinned (OpenSpec.ofChange liftsSafeSpec)

/-- ITS FALSE NEIGHBOUR: 'it returns false'. Refute it at one input. -/
def liftsSafeWrong : ChangeSpec := { name := "liftsSafe", fn := fun _ => fun
  | [d1, d2] => { results := [.lit (.bool false)], args := [d1, d2] }
  | _ => none }
def LiftsSafeWrongFalsely : Prop := liftsSafeRow.holds Try.pinned (OpenSpec.ofChange liftsSafeWrong)

/- THE SECOND FORM. 'bulk': how many values and letters a reading holds, each counted each time it is reached (what is shared counts as often as it is met; a slice's spare places count too). A statement '..UptoSaid' is the law's where the arguments, and the package variables that the reading takes, are together of bulk at most 1048576: NARROWER than '..Said'. Prove '..Said' where nothing that the law and all that it calls make is longer than what came in: it says more and counts as full. Else prove '..UptoSaid'. A law counts once. -/
mutual
def uptoBulk {H : Type} : DataW H → Nat
  | .lit (.string bytes) => bytes.length + 1
  | .lit _ => 1
  | .nil => 1
  | .ptr d => uptoBulk d + 1
  | .slice elems spare => uptoBulkAll elems + uptoBulkAll spare + 1
  | .agg parts => uptoBulkAll parts + 1
  | .iface _ d => uptoBulk d + 1
  | .map entries => uptoBulkEntries entries + 1
  | .held _ => 1
def uptoBulkAll {H : Type} : List (DataW H) → Nat
  | [] => 0
  | d :: r => uptoBulk d + uptoBulkAll r
def uptoBulkEntries {H : Type} : List (Lit × DataW H) → Nat
  | [] => 0
  | x :: r => uptoBulkEntry x + uptoBulkEntries r
def uptoBulkEntry {H : Type} : Lit × DataW H → Nat
  | (.string bytes, d) => bytes.length + uptoBulk d + 1
  | (_, d) => uptoBulk d + 1
 end
def uptoSmall : (H : Type) → List (DataW H) → Bool := fun _ ds => decide (uptoBulkAll ds ≤ 1048576)
def OpenSpec.upto (s : _root_.Go.ChangeSpec) : _root_.Go.OpenSpec := { _root_.Go.OpenSpec.ofChange s with cond := some uptoSmall }

/-- 'almadrabalaw05.LiftsShort', WHERE WHAT IT READS IS OF BULK AT MOST 1048576: true; the input reads as it did. -/
def liftsShortUptoRow : OpenClaim := { program := "ytgjpllmmpclgaaa", sum := "68ffadddaacda609ba692ac58cd4492ab96b2264a45acd308b363c37a3c1c3e7", func := "almadraba/almadrabalaw05.LiftsShort", spec := "liftsShort", unfollowed := true, recurses := true, apart := false, narrowed := true }
def LiftsShortUptoSaid : Prop := liftsShortUptoRow.holds Try.pinned (OpenSpec.upto liftsShortSpec)

/-- 'almadrabalaw05.LiftsHeld', WHERE WHAT IT READS IS OF BULK AT MOST 1048576: true; the input reads as it did. -/
def liftsHeldUptoRow : OpenClaim := { program := "ytgjpllmmpclgaaa", sum := "68ffadddaacda609ba692ac58cd4492ab96b2264a45acd308b363c37a3c1c3e7", func := "almadraba/almadrabalaw05.LiftsHeld", spec := "liftsHeld", unfollowed := true, recurses := true, apart := false, narrowed := true }
def LiftsHeldUptoSaid : Prop := liftsHeldUptoRow.holds Try.pinned (OpenSpec.upto liftsHeldSpec)

/-- 'almadrabalaw05.LiftsChosen', WHERE WHAT IT READS IS OF BULK AT MOST 1048576: true; the input reads as it did. -/
def liftsChosenUptoRow : OpenClaim := { program := "ytgjpllmmpclgaaa", sum := "68ffadddaacda609ba692ac58cd4492ab96b2264a45acd308b363c37a3c1c3e7", func := "almadraba/almadrabalaw05.LiftsChosen", spec := "liftsChosen", unfollowed := true, recurses := true, apart := false, narrowed := true }
def LiftsChosenUptoSaid : Prop := liftsChosenUptoRow.holds Try.pinned (OpenSpec.upto liftsChosenSpec)

/-- 'almadrabalaw05.LiftsMore', WHERE WHAT IT READS IS OF BULK AT MOST 1048576: true; the input reads as it did. -/
def liftsMoreUptoRow : OpenClaim := { program := "ytgjpllmmpclgaaa", sum := "68ffadddaacda609ba692ac58cd4492ab96b2264a45acd308b363c37a3c1c3e7", func := "almadraba/almadrabalaw05.LiftsMore", spec := "liftsMore", unfollowed := true, recurses := true, apart := false, narrowed := true }
def LiftsMoreUptoSaid : Prop := liftsMoreUptoRow.holds Try.pinned (OpenSpec.upto liftsMoreSpec)

/-- 'almadrabalaw05.LiftsOrder', WHERE WHAT IT READS IS OF BULK AT MOST 1048576: true; the input reads as it did. -/
def liftsOrderUptoRow : OpenClaim := { program := "ytgjpllmmpclgaaa", sum := "68ffadddaacda609ba692ac58cd4492ab96b2264a45acd308b363c37a3c1c3e7", func := "almadraba/almadrabalaw05.LiftsOrder", spec := "liftsOrder", unfollowed := true, recurses := true, apart := false, narrowed := true }
def LiftsOrderUptoSaid : Prop := liftsOrderUptoRow.holds Try.pinned (OpenSpec.upto liftsOrderSpec)

/-- 'almadrabalaw05.LiftsCrew', WHERE WHAT IT READS IS OF BULK AT MOST 1048576: true; the input reads as it did. -/
def liftsCrewUptoRow : OpenClaim := { program := "ytgjpllmmpclgaaa", sum := "68ffadddaacda609ba692ac58cd4492ab96b2264a45acd308b363c37a3c1c3e7", func := "almadraba/almadrabalaw05.LiftsCrew", spec := "liftsCrew", unfollowed := true, recurses := true, apart := false, narrowed := true }
def LiftsCrewUptoSaid : Prop := liftsCrewUptoRow.holds Try.pinned (OpenSpec.upto liftsCrewSpec)

/-- 'almadrabalaw05.LiftsEach', WHERE WHAT IT READS IS OF BULK AT MOST 1048576: true; the input reads as it did. -/
def liftsEachUptoRow : OpenClaim := { program := "ytgjpllmmpclgaaa", sum := "68ffadddaacda609ba692ac58cd4492ab96b2264a45acd308b363c37a3c1c3e7", func := "almadraba/almadrabalaw05.LiftsEach", spec := "liftsEach", unfollowed := true, recurses := true, apart := false, narrowed := true }
def LiftsEachUptoSaid : Prop := liftsEachUptoRow.holds Try.pinned (OpenSpec.upto liftsEachSpec)

/-- 'almadrabalaw05.LiftsFirst', WHERE WHAT IT READS IS OF BULK AT MOST 1048576: true; the input reads as it did. -/
def liftsFirstUptoRow : OpenClaim := { program := "ytgjpllmmpclgaaa", sum := "68ffadddaacda609ba692ac58cd4492ab96b2264a45acd308b363c37a3c1c3e7", func := "almadraba/almadrabalaw05.LiftsFirst", spec := "liftsFirst", unfollowed := true, recurses := true, apart := false, narrowed := true }
def LiftsFirstUptoSaid : Prop := liftsFirstUptoRow.holds Try.pinned (OpenSpec.upto liftsFirstSpec)

/-- 'almadrabalaw05.LiftsHolds', WHERE WHAT IT READS IS OF BULK AT MOST 1048576: true; the input reads as it did. -/
def liftsHoldsUptoRow : OpenClaim := { program := "ytgjpllmmpclgaaa", sum := "68ffadddaacda609ba692ac58cd4492ab96b2264a45acd308b363c37a3c1c3e7", func := "almadraba/almadrabalaw05.LiftsHolds", spec := "liftsHolds", unfollowed := true, recurses := true, apart := false, narrowed := true }
def LiftsHoldsUptoSaid : Prop := liftsHoldsUptoRow.holds Try.pinned (OpenSpec.upto liftsHoldsSpec)

/-- 'almadrabalaw05.LiftsMost', WHERE WHAT IT READS IS OF BULK AT MOST 1048576: true; the input reads as it did. -/
def liftsMostUptoRow : OpenClaim := { program := "ytgjpllmmpclgaaa", sum := "68ffadddaacda609ba692ac58cd4492ab96b2264a45acd308b363c37a3c1c3e7", func := "almadraba/almadrabalaw05.LiftsMost", spec := "liftsMost", unfollowed := true, recurses := true, apart := false, narrowed := true }
def LiftsMostUptoSaid : Prop := liftsMostUptoRow.holds Try.pinned (OpenSpec.upto liftsMostSpec)

/-- 'almadrabalaw05.LiftsSwap', WHERE WHAT IT READS IS OF BULK AT MOST 1048576: true; the input reads as it did. -/
def liftsSwapUptoRow : OpenClaim := { program := "ytgjpllmmpclgaaa", sum := "68ffadddaacda609ba692ac58cd4492ab96b2264a45acd308b363c37a3c1c3e7", func := "almadraba/almadrabalaw05.LiftsSwap", spec := "liftsSwap", unfollowed := true, recurses := true, apart := false, narrowed := true }
def LiftsSwapUptoSaid : Prop := liftsSwapUptoRow.holds Try.pinned (OpenSpec.upto liftsSwapSpec)

/-- 'almadrabalaw05.LiftsHelps', WHERE WHAT IT READS IS OF BULK AT MOST 1048576: true; the input reads as it did. -/
def liftsHelpsUptoRow : OpenClaim := { program := "ytgjpllmmpclgaaa", sum := "68ffadddaacda609ba692ac58cd4492ab96b2264a45acd308b363c37a3c1c3e7", func := "almadraba/almadrabalaw05.LiftsHelps", spec := "liftsHelps", unfollowed := true, recurses := true, apart := false, narrowed := true }
def LiftsHelpsUptoSaid : Prop := liftsHelpsUptoRow.holds Try.pinned (OpenSpec.upto liftsHelpsSpec)

/-- 'almadrabalaw05.LiftsSafe', WHERE WHAT IT READS IS OF BULK AT MOST 1048576: true; the input reads as it did. -/
def liftsSafeUptoRow : OpenClaim := { program := "ytgjpllmmpclgaaa", sum := "68ffadddaacda609ba692ac58cd4492ab96b2264a45acd308b363c37a3c1c3e7", func := "almadraba/almadrabalaw05.LiftsSafe", spec := "liftsSafe", unfollowed := true, recurses := true, apart := false, narrowed := true }
def LiftsSafeUptoSaid : Prop := liftsSafeUptoRow.holds Try.pinned (OpenSpec.upto liftsSafeSpec)

end Rows
end Go.Proofs.Ytgjpllmmpclgaaa
