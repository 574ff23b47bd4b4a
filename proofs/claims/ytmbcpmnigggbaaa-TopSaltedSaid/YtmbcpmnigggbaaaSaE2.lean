import Derived.RangeFuncNested
import Derived.RangeFuncLeaves
import Derived.RangeFuncCalls
import Derived.WalkKit
import Derived.Deep.Quiet
import Derived.Deep.QuietTactic
import Derived.OrdersIn
import Derived.BigQuiet
import Derived.WalkSpells
import Derived.BigRegion
import Derived.Below
import Derived.Lib.Hide
import Derived.TacticsInMore
import Derived.LoopNIn
import Derived.LoopIn
import Derived.OwnWalk
import Derived.OwnWalkIn
import Derived.Test.YtmbcpmnigggbaaaProg
import Derived.Deep.RegionHeld3
import Derived.Deep.RegionWith
import Derived.Deep.MidRow
import Derived.KernelRfl
import Derived.Deep.DeepMust
import Derived.Laws.AppendOwn
import Derived.Laws.AppendOwnNone
import Derived.Maps.AppendAt
namespace Go.Proofs.Ytmbcpmnigggbaaa.Sa
open Go.RowKit

/-- What a step keeps: whatever lay below n₀, but for the blocks of S. -/
structure KpB (S : Nat → Prop) (n₀ : Nat) (W W' : World) : Prop where
  os : W'.os = W.os
  tape : W'.tape = W.tape
  output : W'.output = W.output
  size : W.heap.size ≤ W'.heap.size
  block : ∀ k, k < n₀ → ¬ S k → W'.heap[k]? = W.heap[k]?
theorem KpB.trans {S : Nat → Prop} {n₀ : Nat} {A B C : World} (h : KpB S n₀ A B) (k : KpB S n₀ B C) : KpB S n₀ A C :=
  ⟨k.os.trans h.os, k.tape.trans h.tape, k.output.trans h.output, Nat.le_trans h.size k.size, fun i hi hs => (k.block i hi hs).trans (h.block i hi hs)⟩
theorem KpB.refl (S : Nat → Prop) (n₀ : Nat) (W : World) : KpB S n₀ W W := ⟨rfl, rfl, rfl, Nat.le_refl _, fun _ _ _ => rfl⟩
theorem KpB.put {S : Nat → Prop} {n₀ : Nat} {w W : World} (h : KpB S n₀ w W) (l : Nat) (o' : Obj) (hl : S l ∨ n₀ ≤ l) : KpB S n₀ w (W.putObj l o') :=
  h.trans ⟨rfl, rfl, rfl, by simp, fun k hk hs => World.putObj_heap_other (fun e => hl.elim (fun hl => hs (e ▸ hl)) (fun hl => by omega))⟩
theorem kpB_of_below {S : Nat → Prop} {n₀ : Nat} {W W' : World} (h : Below n₀ W W') : KpB S n₀ W W' := ⟨h.os, h.tape, h.output, h.size, fun k hk _ => h.block k hk⟩
theorem KpB.below {S : Nat → Prop} {n₀ : Nat} {W W' : World} (h : KpB S n₀ W W') (hS : ∀ k, S k → n₀ ≤ k) : Below n₀ W W' := ⟨h.os, h.tape, h.output, h.size, fun k hk => h.block k hk (fun hs => by have := hS k hs; omega)⟩
theorem KpB.set {S : Nat → Prop} {n₀ : Nat} {w W : World} (hw : KpB S n₀ w W) {k : Nat} (o : Nat) (v : Value) (h : S k ∨ n₀ ≤ k) : KpB S n₀ w (W.setCell ⟨k, o, none⟩ v) :=
  hw.trans ⟨rfl, rfl, rfl, by simp [World.setCell], fun i hi hs => Below.heap_setCell _ _ _ _ (fun e => by cases e; exact h.elim (fun h => hs h) (fun h => by simp at hi; omega))⟩
theorem KpB.alloc {S : Nat → Prop} {n₀ : Nat} {w W : World} (hw : KpB S n₀ w W) (o : Obj) (h : n₀ ≤ W.heap.size) : KpB S n₀ w (W.alloc o) := hw.trans (kpB_of_below ((Below.refl _ W).alloc h o))
theorem KpB.mono {S S' : Nat → Prop} {n₀ n₁ : Nat} {W W' : World} (h : KpB S n₀ W W') (hn : n₁ ≤ n₀) (hS : ∀ k, k < n₁ → S k → S' k) : KpB S' n₁ W W' := ⟨h.os, h.tape, h.output, h.size, fun k hk hs => h.block k (by omega) (fun hk' => hs (hS k hk hk'))⟩
theorem KpB.cell {S : Nat → Prop} {n₀ : Nat} {W W' : World} (h : KpB S n₀ W W') {b o : Nat} (hb : b < n₀) (hs : ¬ S b) : W'.cell? ⟨b, o, none⟩ = W.cell? ⟨b, o, none⟩ := World.cell?_of_block (h.block b hb hs)
theorem KpB.frozen {S : Nat → Prop} {n₀ : Nat} {W W' : World} (h : KpB S n₀ W W') {b o : Nat} (hb : b < n₀) (hs : ¬ S b) : W'.frozen? ⟨b, o, none⟩ = W.frozen? ⟨b, o, none⟩ := World.frozen?_of_block (h.block b hb hs)

/-- The blocks from B up to D. -/
def Seg (B D : Nat) : Nat → Prop := fun k => B ≤ k ∧ k < D

/-- **AN ITERATOR THAT WRITES BLOCKS OF ITS OWN AND WHOSE YIELDS CAN BE SEEN**: its own blocks lie in 'Seg B D', B the heap's end where it is called; J abides what it writes there; 'Sees B x args X' tells what it hands over at a yield, and how that lies in memory. S: what the round may write of what lay in w₀. -/
def SeqSees {α : Type} (F : Fence) (n : Nat) (P : Program) (g : Nat) (fb lb : Array Value) (S : Nat → Prop) (Sees : Nat → α → Array Value → World → Prop) (xs : List α) (w₀ : World) : Prop :=
  ∀ (l : Nat) (J Jx : Nat → List α → World → Prop) (W : World), Below w₀.heap.size w₀ W →
    (∀ D s X Y, W.heap.size ≤ D → D ≤ X.heap.size → J D s X → KpB (Seg W.heap.size D) X.heap.size X Y → J D s Y) →
    (∀ D s X Y, W.heap.size ≤ D → D ≤ X.heap.size → Jx D s X → KpB (Seg W.heap.size D) X.heap.size X Y → Jx D s Y) →
    (∀ D pre x args X, W.heap.size ≤ D → D ≤ X.heap.size → J D pre X → Sees W.heap.size x args X → pre ++ [x] <+: xs →
      YieldAt F (n - 1) P l args X fun e X' => KpB (fun k => S k ∨ Seg w₀.heap.size W.heap.size k) D X X' ∧
        ((e = .returned (.bool true) ∧ J D (pre ++ [x]) X') ∨ (e = .returned (.bool false) ∧ Jx D (pre ++ [x]) X'))) →
    (∀ D X, W.heap.size ≤ D → D ≤ X.heap.size → Below W.heap.size W X → J D [] X) →
    CallsIn F n P g (fb ++ #[.func (.yield l) #[] #[]] ++ lb) W fun e W' => (∃ v, e = .returned v) ∧
      ∃ D, W.heap.size ≤ D ∧ D ≤ W'.heap.size ∧ (J D xs W' ∨ ∃ pre, pre <+: xs ∧ Jx D pre W')

/-- How the body of a round may be left. -/
def seesPost {α : Type} (S : Nat → Prop) (D : Nat) (I : Nat → List α → World → Prop) (Ix : Code → Nat → List α → World → Prop) (xs : List α) (X : World) : Exit → Act → World → Prop
  | .normal, _, X' => KpB S D X X' ∧ I D xs X'
  | .ret, _, X' => KpB S D X X' ∧ Ix .ret D xs X'
  | .exit id, _, X' => KpB S D X X' ∧ Ix (.exit id) D xs X'
  | .goto t, _, X' => KpB S D X X' ∧ Ix (.goto t) D xs X'
  | .panic _, _, _ => False
  | .outgrown, _, _ => False

variable {F : Fence} {n : Nat} {P : Program}

theorem wpIn_rangeFunc_sees {α : Type} {g : Operand} {ps : Array Tmp} {assign body : Code} {Q : Exit → Act → World → Prop} {a : Act} {w : World}
    (hro : F.round = none) (h1 : 1 ≤ n) {gf : Nat} {fb lb : Array Value} (hg : a.eval g = .func (.func gf) fb lb) (hFg : F.fn gf) (eg : ∀ args w, (callFunc gf args).run P w = .ok (.enter gf args) w)
    {S : Nat → Prop} {Sees : Nat → α → Array Value → World → Prop} {xs : List α} {w0 : World} (hseq : SeqSees F (n - 1) P gf fb lb S Sees xs w0) (hb0 : Below w0.heap.size w0 w) (hS : ∀ k, S k → k < w.heap.size)
    (hps : ∀ B x args X, Sees B x args X → args.size = ps.size)
    (hSees : ∀ B x args X Y, B ≤ X.heap.size → Sees B x args X → KpB (fun k => k < B) X.heap.size X Y → Sees B x args Y)
    (I : Nat → List α → World → Prop) (Ix : Code → Nat → List α → World → Prop)
    (hI : ∀ D s X Y, w.heap.size + 2 ≤ D → D ≤ X.heap.size → I D s X → KpB (Seg w.heap.size D) X.heap.size X Y → I D s Y)
    (hIx : ∀ c D s X Y, w.heap.size + 2 ≤ D → D ≤ X.heap.size → Ix c D s X → KpB (Seg w.heap.size D) X.heap.size X Y → Ix c D s Y)
    (h0 : ∀ D X, w.heap.size + 2 ≤ D → D ≤ X.heap.size → Below w.heap.size w X → I D [] X)
    (Ax : α → Array Value → Act → World → Prop) (hAx : ∀ x args a' X Y, w.heap.size + 2 ≤ X.heap.size → Ax x args a' X → KpB (fun k => k < w.heap.size + 2) X.heap.size X Y → Ax x args a' Y)
    (hassign : ∀ (l : Nat) (x : α) (args : Array Value) (X : World) (K : Act → World → Prop), w.heap.size + 2 ≤ X.heap.size → Sees (w.heap.size + 2) x args X → (∀ a' X', (X' = X ∨ ∃ o, X' = X.alloc o) → Ax x args a' X' → K a' X') →
      assign.wpIn (F.inRound l) (n - 1 - 1) P (Exit.then K (fun _ _ _ => False)) { tmps := (ps.zip args).foldl (fun t (p, v) => t.setIfInBounds p v) a.tmps, defers := [] } X)
    (hbody : ∀ (l D : Nat) (pre : List α) (x : α) (args : Array Value) (a' : Act) (X : World), w.heap.size + 2 ≤ D → D ≤ X.heap.size → pre ++ [x] <+: xs → I D pre X → Sees (w.heap.size + 2) x args X → Ax x args a' X →
      body.wpIn (F.inRound l) (n - 1 - 1) P (seesPost S D I Ix (pre ++ [x]) X) a' X)
    (hdone : ∀ (D : Nat) (X : World), w.heap.size + 2 ≤ D → D ≤ X.heap.size → I D xs X → X.heap[w.heap.size]? = some (.deferred (some [])) → Q .normal { a with defers := { target := .collected w.heap.size, args := #[] } :: a.defers } X)
    (hstop : ∀ (D : Nat) (c : Code) (pre : List α) (X : World), w.heap.size + 2 ≤ D → D ≤ X.heap.size → pre <+: xs → Ix c D pre X → X.heap[w.heap.size]? = some (.deferred (some [])) →
      c.wpIn F n P Q { a with defers := { target := .collected w.heap.size, args := #[] } :: a.defers } X) :
    (Code.rangeFunc g ps assign body).wpIn F n P Q a w := by
  refine wpIn_rangeFunc ?_
  intro fn hfn
  rw [hro]
  obtain ⟨rec, hrec⟩ : ∃ rec : LoopState → Option Code → Loop, rec = fun st pe => { state := st, pending := pe, fn, tmps := a.tmps, params := ps, assign, body, defers := w.heap.size } := ⟨_, rfl⟩
  obtain ⟨W1, hW1⟩ : ∃ W1, (w.alloc (.deferred (some []))).alloc (.loop (rec .ready none)) = W1 := ⟨_, rfl⟩
  have hL1 : W1.heap[w.heap.size + 1]? = some (.loop (rec .ready none)) := by
    rw [← hW1]; have := World.alloc_heap_new (w.alloc (.deferred (some []))) (.loop (rec .ready none)); rwa [World.size_alloc] at this
  have hK1 : W1.heap[w.heap.size]? = some (.deferred (some [])) := by
    rw [← hW1]; exact (Below.heap_alloc _ _ _ (by simp)).trans (World.alloc_heap_new w _)
  have hb1w : Below w.heap.size w W1 := by
    rw [← hW1]; exact ((Below.refl _ w).alloc (Nat.le_refl _) _).alloc (by simp) _
  have hb1 : Below w0.heap.size w0 W1 := hb0.trans (hb1w.mono hb0.size)
  have hz1 : W1.heap.size = w.heap.size + 2 := by rw [← hW1]; simp
  refine ⟨w.heap.size + 1, [{ target := .collected w.heap.size, args := #[] }], W1, { target := .fn (.func gf) lb, args := fb ++ #[.func (.yield (w.heap.size + 1)) #[] #[]] }, W1, gf,
    fb ++ #[.func (.yield (w.heap.size + 1)) #[] #[]] ++ lb, W1, ?_, ?_, ?_, ?_, fun _ => h1, ?_⟩
  · rw [← hW1, hrec]; exact run_enterLoop_outer _ _ _ _ _
  · simp only [resolve, hg]
    simp [go_sem, Deferred.ofValue]
  · intro f' hf'; simp [Target.leads] at hf'; subst hf'; exact hFg
  · simp [invoke, go_sem, eg]
  · have hsub : ∀ {D k}, Seg W1.heap.size D k → Seg w.heap.size D k := fun h => ⟨by have := h.1; omega, h.2⟩
    refine (hseq (w.heap.size + 1)
      (fun D pre X => I D pre X ∧ X.heap[w.heap.size + 1]? = some (.loop (rec .ready none)) ∧ X.heap[w.heap.size]? = some (.deferred (some [])))
      (fun D pre X => ∃ c, Ix c D pre X ∧ X.heap[w.heap.size + 1]? = some (.loop (rec .done (some c))) ∧ X.heap[w.heap.size]? = some (.deferred (some [])))
      W1 hb1
      (fun D s X Y hD hX hs hk => ⟨hI D s X Y (by omega) hX hs.1 (hk.mono (Nat.le_refl _) fun _ _ h => hsub h), (hk.block _ (by omega) (fun h => by have := h.1; omega)).trans hs.2.1, (hk.block _ (by omega) (fun h => by have := h.1; omega)).trans hs.2.2⟩)
      (fun D s X Y hD hX hs hk => by
        obtain ⟨c, hc, hl, hkk⟩ := hs
        exact ⟨c, hIx c D s X Y (by omega) hX hc (hk.mono (Nat.le_refl _) fun _ _ h => hsub h), (hk.block _ (by omega) (fun h => by have := h.1; omega)).trans hl, (hk.block _ (by omega) (fun h => by have := h.1; omega)).trans hkk⟩)
      ?_ (fun D X hD hX hbX => ⟨h0 D X (by omega) hX (hb1w.trans (hbX.mono (by omega))), (hbX.block _ (by omega)).trans hL1, (hbX.block _ (by omega)).trans hK1⟩)).mono ?_
    · -- one round
      rintro D pre x args X hD hX ⟨hi, hl, hk⟩ hsee hpre
      rw [hz1] at hsee
      have hy := run_yield (P := P) (args := args) hl (by rw [hrec]; exact hps _ x args X hsee)
      rw [hrec] at hy
      refine ⟨fn, _, assign, body, hy, roundIn_of_wpIn hfn (hassign _ x args X _ (by omega) hsee ?_)⟩
      clear hy
      intro a' Xa hXa hax
      have hka : KpB (fun _ => False) X.heap.size X Xa := by
        rcases hXa with rfl | ⟨o, rfl⟩
        · exact KpB.refl _ _ _
        · exact (KpB.refl _ _ _).alloc _ (Nat.le_refl _)
      have hza : X.heap.size ≤ Xa.heap.size := hka.size
      have hla : Xa.heap[w.heap.size + 1]? = some (.loop (rec .ready none)) := (hka.block _ (by omega) (fun h => h)).trans hl
      have hkka : Xa.heap[w.heap.size]? = some (.deferred (some [])) := (hka.block _ (by omega) (fun h => h)).trans hk
      have hia : I D pre Xa := hI D pre X Xa (by omega) hX hi (hka.mono (Nat.le_refl _) fun _ _ h => h.elim)
      have hseea : Sees (w.heap.size + 2) x args Xa := hSees _ _ _ _ _ (by omega) hsee (hka.mono (Nat.le_refl _) fun _ _ h => h.elim)
      refine ⟨_, run_beginRound hla (by rw [hrec]), ?_⟩
      obtain ⟨Xb, hXb⟩ : ∃ Xb, Xa.putObj (w.heap.size + 1) (.loop { rec .ready none with state := .busy }) = Xb := ⟨_, rfl⟩
      have hlb : Xb.heap[w.heap.size + 1]? = some (.loop { rec .ready none with state := .busy }) := by rw [← hXb]; exact World.putObj_heap_same (by omega)
      have hkb : Xb.heap[w.heap.size]? = some (.deferred (some [])) := by rw [← hXb]; exact (World.putObj_heap_other (by omega)).trans hkka
      have hzb : Xb.heap.size = Xa.heap.size := by rw [← hXb]; simp
      have hab : KpB (fun k => k = w.heap.size + 1) Xa.heap.size Xa Xb := by rw [← hXb]; exact (KpB.refl _ _ _).put _ _ (.inl rfl)
      rw [hXb]
      have hib : I D pre Xb := hI D pre Xa Xb (by omega) (by omega) hia (hab.mono (Nat.le_refl _) fun k _ h => ⟨by omega, by omega⟩)
      have hseeb : Sees (w.heap.size + 2) x args Xb := hSees _ _ _ _ _ (by omega) hseea (hab.mono (Nat.le_refl _) fun k _ h => (by have h' : k = w.heap.size + 1 := h; omega : k < w.heap.size + 2))
      have haxb : Ax x args a' Xb := hAx _ _ _ _ _ (by omega) hax (hab.mono (Nat.le_refl _) fun k _ h => (by have h' : k = w.heap.size + 1 := h; omega : k < w.heap.size + 2))
      refine wpIn_mono (hbody _ D pre x args a' Xb (by omega) (by omega) hpre hib hseeb haxb) ?_
      have hS' : ∀ {X3}, KpB S D Xb X3 → ∀ (o : Obj), KpB (fun k => S k ∨ Seg w0.heap.size W1.heap.size k) D X (X3.putObj (w.heap.size + 1) o) := fun {X3} h3 o => by
        have hw0 := hb0.size
        have hl' : Seg w0.heap.size W1.heap.size (w.heap.size + 1) := ⟨by omega, by omega⟩
        have k1 : KpB (fun k => S k ∨ Seg w0.heap.size W1.heap.size k) D X Xa := hka.mono (by omega) fun _ _ h => h.elim
        have k2 : KpB (fun k => S k ∨ Seg w0.heap.size W1.heap.size k) D Xa Xb := hab.mono (by omega) fun k _ h => by have h' : k = w.heap.size + 1 := h; subst h'; exact .inr hl'
        have k3 : KpB (fun k => S k ∨ Seg w0.heap.size W1.heap.size k) D Xb X3 := h3.mono (Nat.le_refl _) fun _ _ h => .inl h
        exact ((k1.trans k2).trans k3).put _ _ (.inl (.inr hl'))
      have fin : ∀ (jump : Option Code) (X3 : World), KpB S D Xb X3 →
          (Instr.endRound (w.heap.size + 1) jump).run P X3 = .ok (.bool jump.isNone) (X3.putObj (w.heap.size + 1) (.loop (rec (if jump.isNone then .ready else .done) jump))) ∧
          D ≤ X3.heap.size ∧
          (X3.putObj (w.heap.size + 1) (.loop (rec (if jump.isNone then .ready else .done) jump))).heap[w.heap.size + 1]? = some (.loop (rec (if jump.isNone then .ready else .done) jump)) ∧
          (X3.putObj (w.heap.size + 1) (.loop (rec (if jump.isNone then .ready else .done) jump))).heap[w.heap.size]? = some (.deferred (some [])) ∧
          KpB (Seg w.heap.size D) X3.heap.size X3 (X3.putObj (w.heap.size + 1) (.loop (rec (if jump.isNone then .ready else .done) jump))) := fun jump X3 hk3 => by
        have hns : ¬ S (w.heap.size + 1) := fun h => by have := hS _ h; omega
        have hns' : ¬ S w.heap.size := fun h => by have := hS _ h; omega
        have hl3 := (hk3.block _ (by omega) hns).trans hlb
        have hk3' := (hk3.block _ (by omega) hns').trans hkb
        have hz3 := hk3.size
        have := run_endRound (P := P) jump hl3
        rw [hrec] at this ⊢
        exact ⟨this, by omega, World.putObj_heap_same (by omega), (World.putObj_heap_other (by omega)).trans hk3', (KpB.refl _ _ _).put _ _ (.inl ⟨by omega, by omega⟩)⟩
      rintro e a3 X3 hp
      cases e with
      | normal =>
        obtain ⟨hk3, hi3⟩ := hp
        obtain ⟨hr, hz3, hl4, hk4, hs4⟩ := fin none X3 hk3
        exact ⟨_, _, hr, hS' hk3 _, .inl ⟨rfl, hI _ _ _ _ (by omega) hz3 hi3 hs4, hl4, hk4⟩⟩
      | ret =>
        obtain ⟨hk3, hi3⟩ := hp
        obtain ⟨hr, hz3, hl4, hk4, hs4⟩ := fin (some .ret) X3 hk3
        exact ⟨_, _, hr, hS' hk3 _, .inr ⟨rfl, .ret, hIx _ _ _ _ _ (by omega) hz3 hi3 hs4, hl4, hk4⟩⟩
      | exit id =>
        obtain ⟨hk3, hi3⟩ := hp
        obtain ⟨hr, hz3, hl4, hk4, hs4⟩ := fin (some (.exit id)) X3 hk3
        exact ⟨_, _, hr, hS' hk3 _, .inr ⟨rfl, .exit id, hIx _ _ _ _ _ (by omega) hz3 hi3 hs4, hl4, hk4⟩⟩
      | goto t =>
        obtain ⟨hk3, hi3⟩ := hp
        obtain ⟨hr, hz3, hl4, hk4, hs4⟩ := fin (some (.goto t)) X3 hk3
        exact ⟨_, _, hr, hS' hk3 _, .inr ⟨rfl, .goto t, hIx _ _ _ _ _ (by omega) hz3 hi3 hs4, hl4, hk4⟩⟩
      | panic ch => exact hp.elim
      | outgrown => exact hp.elim
    · -- behind the iterator
      rintro e W2 ⟨⟨v, rfl⟩, D, hD, hD2, (⟨hi, hl, hk⟩ | ⟨pre, hpre, c, hi, hl, hk⟩)⟩
      · refine ⟨none, _, by have := run_endLoop (P := P) hl (by rw [hrec]; simp); rw [hrec] at this; exact this, hdone D _ (by omega) (by simp; omega) (hI _ _ _ _ (by omega) hD2 hi ((KpB.refl _ _ _).put _ _ (.inl ⟨by omega, by omega⟩))) ((World.putObj_heap_other (by omega)).trans hk)⟩
      · refine ⟨some c, _, by have := run_endLoop (P := P) hl (by rw [hrec]; simp); rw [hrec] at this; exact this, hstop D c pre _ (by omega) (by simp; omega) hpre (hIx _ _ _ _ _ (by omega) hD2 hi ((KpB.refl _ _ _).put _ _ (.inl ⟨by omega, by omega⟩))) ((World.putObj_heap_other (by omega)).trans hk)⟩

#print axioms wpIn_rangeFunc_sees
open Go.RowKit

/-! A region that draws its order, inside a round of a range over a function: walked once, as outside. -/
/-- No operation of the region defers. -/
def noDefer (l : List Oper) : Bool := l.all fun o => match o.op with | .defer _ => false | _ => true
theorem noDefer_at {l : List Oper} (h : noDefer l = true) {i : Nat} {o : Oper} (ho : l[i]? = some o) : ∀ c, o.op ≠ .defer c := by
  intro c hc
  have := List.all_eq_true.1 h o (List.mem_of_getElem? ho)
  rw [hc] at this
  cases this
theorem wpOpIn_round {l n : Nat} {P : Program} {ops : Array Oper} {Q : Exit → Act → World → Prop} (hd : ∀ (i : Nat) (o : Oper), ops[i]? = some o → ∀ c, o.op ≠ .defer c) (hQ : ¬ LetsOut Q) {i : Nat} {K K' : Act → World → Prop} {a : Act} {w : World} (hK : ∀ a w, K a w → K' a w)
    (h : wpOp P ops Q i K a w) : wpOpIn (Fence.wide.inRound l) n P ops Q i K' a w := by
  unfold wpOp at h
  unfold wpOpIn
  cases ho : ops[i]? with
  | none => rw [ho] at h; exact hK _ _ h
  | some o =>
    rw [ho] at h
    simp only at h ⊢
    by_cases hw : Region.wanted o (yielded ops a.tmps) = true
    · rw [if_pos hw] at h ⊢
      have h := h.resolve_right (fun hh => hQ hh.2)
      refine ⟨fun _ _ => trivial, ?_⟩
      rw [Fence.inRound_round, Oper.semAt_some _ _ _ (hd i o ho)]
      unfold Oper.wp at h
      revert h
      generalize (execOp a.eval o).run P w = r
      intro h
      cases r with
      | ok x w' =>
        cases x with
        | enter f args =>
          refine ⟨(fun hh => by cases hh), CallsIn.inRound l (callsIn_wide.2 (Calls.mono h ?_))⟩
          intro e w'' he
          cases e with
          | returned v => exact hK _ _ he
          | panicked chain => exact he
          | outgrown => exact he
        | row row args => exact ⟨(fun hh => by cases hh), fun c cs _ => let ⟨v, w', r, s⟩ := h c cs; ⟨v, w', hK _ _ r, stepsIn_wide.2 s⟩⟩
        | value v => exact hK _ _ h
        | skip => exact hK _ _ h
        | defer d => exact hK _ _ h
        | _ => exact h.elim
      | halt x w' => cases x <;> simp only [Oper.upon] at h <;> simp only [Oper.uponIn] <;> first | exact h | exact h.elim
    · rw [if_neg hw] at h ⊢
      exact ⟨fun _ _ => trivial, hK _ _ h⟩
theorem wpAnyIn_round {l n : Nat} {P : Program} {md : Region.Mode} {ops : Array Oper} {Q : Exit → Act → World → Prop} (hd : ∀ (i : Nat) (o : Oper), ops[i]? = some o → ∀ c, o.op ≠ .defer c) (hQ : ¬ LetsOut Q) : ∀ (fuel : Nat) (listed : Array Bool) (a : Act) (w : World),
    wpAny P md ops Q fuel listed a w → wpAnyIn (Fence.wide.inRound l) n P md ops Q fuel listed a w
  | 0, _, _, _, h => h
  | fuel + 1, _, _, _, h => ⟨h.1, fun i hi => wpOpIn_round hd hQ (fun a w hh => wpAnyIn_round hd hQ fuel _ a w hh) (h.2 i hi)⟩
/-! A region whose last operation (a store, a builtin without a slot) waits for all others, which are quiet. -/
/-- The same operation, that does nothing. -/
def idle (o : Oper) : Oper := { o with op := .move (.const undef) }
def waitsAll (n : Nat) (o : Oper) : Bool := (List.range n).all fun j => o.after.any fun e => Region.binds .any e && e.on == j
def lastOK (n : Nat) (o : Oper) : Bool := o.guard.isNone && (o.dst.isNone && waitsAll n o)
/-- Each operation waits for earlier ones alone. -/
def backB (L : List Oper) : Bool := (List.range L.length).all fun j => (L.getD j default).after.all fun e => decide (e.on < j)
theorem backB_at {L : List Oper} (h : backB L = true) {j : Nat} {o : Oper} (ho : L[j]? = some o) : ∀ e ∈ o.after, e.on < j := by
  obtain ⟨hj, e1⟩ := List.getElem?_eq_some_iff.1 ho
  have := List.all_eq_true.1 h j (List.mem_range.2 hj)
  rw [List.getD, ho] at this
  intro e he
  obtain ⟨i, hi, rfl⟩ := Array.getElem_of_mem he
  have := Array.all_eq_true.1 this i hi
  simpa using this
theorem ready_none {L : List Oper} (h : backB L = true) {listed : Array Bool} (hz : listed.size = L.length) (hr : Region.ready .any L.toArray listed = []) : ∀ j, j < L.length → listed.getD j true = true := by
  intro j
  induction j using Nat.strongRecOn with
  | ind j ih =>
    intro hj
    cases hb : listed.getD j true with
    | true => rfl
    | false =>
      have : j ∈ Region.ready .any L.toArray listed := by
        rw [mem_ready]
        refine ⟨hb, L[j], by simp [hj], fun e he _ => ?_⟩
        have h1 := backB_at h (List.getElem?_eq_getElem hj) e he
        have h2 := ih e.on h1 (by omega)
        have h3 : e.on < listed.size := by omega
        simpa [h3] using h2
      rw [hr] at this
      simp at this
theorem waitsAll_at {n : Nat} {o : Oper} (h : waitsAll n o = true) {j : Nat} (hj : j < n) : ∃ e ∈ o.after, Region.binds .any e = true ∧ e.on = j := by
  have := List.all_eq_true.1 h j (List.mem_range.2 hj)
  obtain ⟨i, hi, h1⟩ := Array.any_eq_true.1 this
  simp only [Bool.and_eq_true, beq_iff_eq] at h1
  exact ⟨_, Array.getElem_mem hi, h1⟩
theorem snoc_at {α : Type} (l : List α) (x : α) (j : Nat) : (l ++ [x]).toArray[j]? = if j = l.length then some x else l[j]? := by
  simp only [List.getElem?_toArray]
  by_cases h : j = l.length
  · subst h; simp
  · rw [if_neg h]
    by_cases h2 : j < l.length
    · rw [List.getElem?_append_left h2]
    · rw [List.getElem?_append_right (by omega), List.getElem?_eq_none (by simp; omega), List.getElem?_eq_none (by omega)]
theorem ready_idle {l : List Oper} {o : Oper} {listed : Array Bool} {j : Nat} : j ∈ Region.ready .any (l ++ [idle o]).toArray listed ↔ j ∈ Region.ready .any (l ++ [o]).toArray listed := by
  rw [mem_ready, mem_ready, snoc_at, snoc_at]
  by_cases h : j = l.length
  · rw [if_pos h, if_pos h]; simp [idle]
  · rw [if_neg h, if_neg h]
theorem yielded_idle {l : List Oper} {o : Oper} (hd : o.dst = none) (tmps : Array Value) : yielded (l ++ [idle o]).toArray tmps = yielded (l ++ [o]).toArray tmps := by
  funext j
  unfold yielded
  rw [snoc_at, snoc_at]
  by_cases h : j = l.length
  · rw [if_pos h, if_pos h]; simp [idle, hd]
  · rw [if_neg h, if_neg h]
/-- What is asked behind the quiet operations: the last one. -/
def lastQ (P : Program) (o : Oper) (Q : Exit → Act → World → Prop) : Exit → Act → World → Prop
  | .normal, a, w => o.wp P a w (fun a' w' => Q .normal a' w') Q
  | e, a, w => Q e a w
theorem upon_lastQ {P : Program} {o o' : Oper} {a : Act} {w : World} {K K' : Act → World → Prop} {Q : Exit → Act → World → Prop} (hK : ∀ a w, K a w → K' a w) (h : o'.wp P a w K (lastQ P o Q)) : o'.wp P a w K' Q := by
  unfold Oper.wp at *
  generalize (execOp a.eval o').run P w = r at *
  cases r with
  | ok x w' =>
    cases x with
    | enter f args =>
      refine Calls.mono h ?_
      intro e w'' he
      cases e with
      | returned v => exact hK _ _ he
      | panicked chain => exact he
      | outgrown => exact he
    | row row args => exact Rows.mono h fun v w' r => hK _ _ r
    | value v => exact hK _ _ h
    | skip => exact hK _ _ h
    | defer d => exact hK _ _ h
    | _ => exact h.elim
  | halt x w' => cases x <;> first | exact h | exact h.elim
theorem wpAny_idle {P : Program} {l : List Oper} {o : Oper} {Q : Exit → Act → World → Prop} (hl : lastOK l.length o = true) (hb : backB (l ++ [o]) = true) : ∀ (fuel : Nat) (listed : Array Bool) (a : Act) (w : World), listed.size = l.length + 1 →
    listed.getD l.length true = false → wpAny P .any (l ++ [idle o]).toArray (lastQ P o Q) fuel listed a w → wpAny P .any (l ++ [o]).toArray Q fuel listed a w := by
  simp only [lastOK, Bool.and_eq_true, Option.isNone_iff_eq_none] at hl
  obtain ⟨hg, hd, hw⟩ := hl
  have hlast : ∀ {listed : Array Bool}, l.length ∈ Region.ready .any (l ++ [o]).toArray listed → ∀ j, j < l.length → listed.getD j false = true := fun {listed} hm j hj => by
    obtain ⟨_, o', ho', h⟩ := mem_ready.1 hm
    rw [snoc_at, if_pos rfl] at ho'
    cases ho'
    obtain ⟨e, he, hbb, hon⟩ := waitsAll_at hw hj
    rw [← hon]; exact h e he hbb
  have hno : ∀ {listed : Array Bool}, listed.size = l.length + 1 → listed.getD l.length true = false → Region.ready .any (l ++ [o]).toArray listed ≠ [] := fun {listed} hz hu hr => by
    have := ready_none hb (by rw [List.length_append]; exact hz) hr l.length (by simp)
    rw [this] at hu; cases hu
  intro fuel
  induction fuel with
  | zero =>
    intro listed a w hz hu h
    exact (hno hz hu (List.eq_nil_iff_forall_not_mem.2 fun j hj => by rw [← ready_idle, h.1] at hj; cases hj)).elim
  | succ fuel ih =>
    intro listed a w hz hu h
    refine ⟨fun hr => (hno hz hu hr).elim, fun i hi => ?_⟩
    have h1 := h.2 i (ready_idle.2 hi)
    by_cases hil : i = l.length
    · subst hil
      have hall := hlast hi
      have hrn : ∀ j, j ∉ Region.ready .any (l ++ [o]).toArray (listed.setIfInBounds l.length true) := fun j hj => by
        obtain ⟨h2, o', ho', -⟩ := mem_ready.1 hj
        have hjl : j < l.length + 1 := by
          have := (Array.getElem?_eq_some_iff.1 ho').1
          simpa using this
        by_cases e : j = l.length
        · subst e
          rw [Array.getD_eq_getD_getElem?, Array.getElem?_setIfInBounds_self_of_lt (by omega)] at h2
          simp at h2
        · rw [getD_set_ne true (Ne.symm e)] at h2
          have h3 := hall j (by omega)
          have h4 : j < listed.size := by omega
          simp [h4] at h2 h3
          rw [h2] at h3; cases h3
      have hend : ∀ {Q0 : Exit → Act → World → Prop} {a' : Act} {w' : World}, Q0 .normal a' w' → wpAny P .any (l ++ [o]).toArray Q0 fuel (listed.setIfInBounds l.length true) a' w' := fun {Q0 a' w'} hq => by
        cases fuel with
        | zero => exact ⟨List.eq_nil_iff_forall_not_mem.2 hrn, hq⟩
        | succ fuel => exact ⟨fun _ => hq, fun j hj => (hrn j hj).elim⟩
      -- what the idle operation leaves
      have hq : lastQ P o Q .normal a w := by
        unfold wpOp at h1
        rw [snoc_at, if_pos rfl] at h1
        have hgi : (idle o).guard = none := hg
        have hdi : (idle o).dst = none := hd
        have hex : execOp a.eval (idle o) = pure (.value (a.eval (.const undef))) := rfl
        simp only [Region.wanted, hgi, if_true] at h1
        have hk : wpAny P .any (l ++ [idle o]).toArray (lastQ P o Q) fuel (listed.setIfInBounds l.length true) a w := by
          rcases h1 with h1 | ⟨h1, _⟩
          · unfold Oper.wp at h1
            rw [hex] at h1
            simpa [Oper.upon, Act.put, hdi] using h1
          · unfold Oper.asks at h1
            rw [hex] at h1
            exact absurd (show noRoomEvent ∈ (#[] : Array Event) from h1.1) (by simp)
        cases fuel with
        | zero => exact hk.2
        | succ fuel => exact hk.1 (List.eq_nil_iff_forall_not_mem.2 fun j hj => hrn j (ready_idle.1 hj))
      unfold wpOp
      rw [snoc_at, if_pos rfl]
      simp only [Region.wanted, hg, if_true]
      refine .inl (Oper.wp_mono (fun a' w' h' => hend h') hq)
    · have hi2 : (l ++ [idle o]).toArray[i]? = (l ++ [o]).toArray[i]? := by rw [snoc_at, snoc_at, if_neg hil, if_neg hil]
      unfold wpOp at h1 ⊢
      rw [hi2, yielded_idle hd] at h1
      have hset : (listed.setIfInBounds i true).size = l.length + 1 := by simp [hz]
      have hun : (listed.setIfInBounds i true).getD l.length true = false := by rw [getD_set_ne true hil]; exact hu
      cases ho : (l ++ [o]).toArray[i]? with
      | none => rw [ho] at h1; exact ih _ _ _ hset hun h1
      | some o' =>
        rw [ho] at h1
        simp only at h1 ⊢
        split at h1
        · rename_i hwt
          rw [if_pos hwt]
          rcases h1 with h1 | ⟨h1, a', w', h2⟩
          · exact .inl (upon_lastQ (fun a w hh => ih _ a w hset hun hh) h1)
          · exact .inr ⟨h1, a', w', h2⟩
        · rename_i hwt
          rw [if_neg hwt]
          exact ih _ _ _ hset hun h1
theorem wpQuiet_snoc {P : Program} {ops : Array Oper} {C : World → Prop} {Q : Act → Prop} {o : Oper} (hg : o.guard = none) (hd : o.dst = none) : ∀ (l : List Oper) (a : Act), wpQuiet P ops C Q l a → wpQuiet P ops C Q (l ++ [idle o]) a
  | [], a, h => by
    have hgi : (idle o).guard = none := hg
    have hdi : (idle o).dst = none := hd
    rw [List.nil_append, wpQuiet, if_pos (by simp [Region.wanted, hgi])]
    refine ⟨a.eval (.const undef), fun w _ => ?_, by simpa [Act.put, hdi] using h⟩
    exact ⟨rfl, rfl⟩
  | o' :: l, a, h => by
    rw [wpQuiet] at h
    rw [List.cons_append, wpQuiet]
    split
    · rename_i hw
      rw [if_pos hw] at h
      exact Oper.quiet_mono (fun a' h' => wpQuiet_snoc hg hd l a' h') h
    · rename_i hw
      rw [if_neg hw] at h
      exact wpQuiet_snoc hg hd l _ h
theorem wpAny_tail {P : Program} {l : List Oper} {o : Oper} {Q : Exit → Act → World → Prop} {C : World → Prop} {a : Act} {w : World} (hl : lastOK l.length o = true) (hb : backB (l ++ [o]) = true) (hB : Region.lexB .any (l ++ [idle o]).toArray = true) (hC : C { w with drawn := w.drawn + 1 })
    (h : wpQuiet P (l ++ [idle o]).toArray C (fun a' => ∀ w', C w' → o.wp P a' w' (fun a'' w'' => Q .normal a'' w'') Q) l a) :
    wpAny P .any (l ++ [o]).toArray Q (l ++ [o]).toArray.size (Array.replicate (l ++ [o]).toArray.size false) a { w with drawn := w.drawn + 1 } := by
  simp only [Region.lexB, Bool.and_eq_true] at hB
  have hl' := hl
  simp only [lastOK, Bool.and_eq_true, Option.isNone_iff_eq_none] at hl'
  refine wpAny_idle hl hb _ _ _ _ (by simp) (by simp) ?_
  refine wpAny_of_quiet (Q := fun a' => ∀ w', C w' → o.wp P a' w' (fun a'' w'' => Q .normal a'' w'') Q) (fun _ w' hw' h => h w' hw') _ _ _ _ hC ?_
  have := wpAnyQ_lex (C := C) (md := .any) hB.1 (l ++ [idle o]).toArray.toList 0 (Array.replicate (l ++ [idle o]).toArray.size false) a (by simp) (by simpa using hB.2) (by simpa using wpQuiet_snoc hl'.1 hl'.2.1 l a h)
  simpa using this
/-- The region as the walk meets it: its first N operations are quiet. -/
theorem wpIn_region_tail {k n id : Nat} {P : Program} {L : List Oper} {Q : Exit → Act → World → Prop} {C : World → Prop} {a : Act} {w : World} (l : List Oper) (o : Oper) (hL : L = l ++ [o]) (hQ : ¬ LetsOut Q) (hd : noDefer L = true) (hm : P.follows .mixedOrders = true) (hl : lastOK l.length o = true) (hb : backB L = true) (hB : Region.lexB .any (l ++ [idle o]).toArray = true)
    (hC : C { w with drawn := w.drawn + 1 }) (h : wpQuiet P (l ++ [idle o]).toArray C (fun a' => ∀ w', C w' → o.wp P a' w' (fun a'' w'' => Q .normal a'' w'') Q) l a) : (Code.region id L.toArray true).wpIn (Fence.wide.inRound k) n P Q a w := by
  subst hL
  exact wpIn_region_any hm (wpAnyIn_round (fun i o ho => noDefer_at hd (by simpa using ho)) hQ _ _ _ _ (wpAny_tail hl hb hB hC h))
end Go.Proofs.Ytmbcpmnigggbaaa.Sa
namespace Go.Proofs.Ytmbcpmnigggbaaa.Sa
open Go.RowKit

/-! A region that draws its order, whose operations read and whose calls make memory of their own: walked once, in the order of the text. -/
open Classical in
/-- The world x, if it lies over w; else w itself. -/
noncomputable def extB (w x : World) : World := if Below w.heap.size w x then x else w
theorem extB_below (w x : World) : Below w.heap.size w (extB w x) := by
  unfold extB
  split
  · assumption
  · exact Below.refl _ _
theorem extB_of {w W : World} (h : Below w.heap.size w W) : ∃ x, W = extB w x := ⟨W, by unfold extB; rw [if_pos h]⟩
theorem cell_lt {w : World} {a : Addr} {v : Value} (h : w.cell? a = some v) : a.block < w.heap.size := by
  unfold World.cell? at h
  split at h
  · rename_i hh
    exact (Array.getElem?_eq_some_iff.1 hh).1
  · cases h
theorem extB_cell {w : World} {a : Addr} {v : Value} (h : w.cell? a = some v) : ∀ x, (extB w x).cell? a = some v := fun x => ((extB_below w x).cell (cell_lt h)).trans h
theorem below_cell {w W : World} (hb : Below w.heap.size w W) {a : Addr} {v : Value} (h : w.cell? a = some v) : W.cell? a = some v := (hb.cell (cell_lt h)).trans h
theorem wp_region_ext {P : Program} {id : Nat} {Q : Exit → Act → World → Prop} {a : Act} {w : World} {l : List Oper} (hm : P.follows .mixedOrders = true) (hB : Region.lexB .any l.toArray = true)
    (h : wpQuiet P l.toArray (fun w' => ∃ x, w' = extB w x) (fun a' => ∀ w', (∃ x, w' = extB w x) → Q .normal a' w') l a) : (Code.region id l.toArray true).wp P Q a w :=
  wp_region_quiet (C := fun w' => ∃ x, w' = extB w x) hm hB (extB_of (Below.refl _ w).drew) (by simpa using h)
theorem ext_call {P : Program} {f : FuncId} {args : Array Value} {w x : World} {v : Value} (h : Calls P f args (extB w x) fun e w' => e = .returned v ∧ Below (extB w x).heap.size (extB w x) w') :
    Calls P f args (extB w x) fun e w'' => e = .returned v ∧ ∃ y, w'' = extB w y :=
  h.mono fun _ _ ⟨he, hb⟩ => ⟨he, extB_of ((extB_below w x).trans (hb.mono (extB_below w x).size))⟩
theorem ext_same {P : Program} {f : FuncId} {args : Array Value} {w x : World} {v : Value} (h : Calls P f args (extB w x) fun e w' => e = .returned v ∧ extB w x = w') :
    Calls P f args (extB w x) fun e w'' => e = .returned v ∧ ∃ y, w'' = extB w y :=
  h.mono fun _ _ ⟨he, hb⟩ => ⟨he, x, hb.symm⟩

/-- n lies from lo to hi. -/
def inR (n lo hi : Int) : Bool := decide (lo ≤ n) && decide (n ≤ hi)
theorem inR_true {n lo hi : Int} : inR n lo hi = true ↔ lo ≤ n ∧ n ≤ hi := by simp [inR]
theorem addr_add (b o j : Nat) : (⟨b, o, none⟩ : Addr).add j = ⟨b, o + j, none⟩ := by
  cases j with
  | zero => rfl
  | succ j => simp [Addr.add]

/-- The slice at A holds the numbers l. -/
def IntsAt (W : World) (B : Nat) (A : Option Addr) (l : List Int) : Prop :=
  l = [] ∨ ∃ b off, A = some ⟨b, off, none⟩ ∧ b < B ∧ ∀ i x, l[i]? = some x → W.cell? ⟨b, off + i, none⟩ = some (.int .i64 x)
theorem IntsAt.keep {W W' : World} {B B' : Nat} {A : Option Addr} {l : List Int} (h : IntsAt W B A l) (hB : B ≤ B') (hk : ∀ b o, b < B → W'.cell? ⟨b, o, none⟩ = W.cell? ⟨b, o, none⟩) : IntsAt W' B' A l := by
  rcases h with h | ⟨b, off, hA, hb, hc⟩
  · exact .inl h
  · exact .inr ⟨b, off, hA, by omega, fun i x hx => by rw [hk _ _ hb]; exact hc i x hx⟩
theorem IntsAt.at_ {W : World} {B : Nat} {A : Option Addr} {l : List Int} (h : IntsAt W B A l) {k : Nat} {x : Int} (hx : l[k]? = some x) : ∃ b off, A = some ⟨b, off, none⟩ ∧ b < B ∧ W.cell? ⟨b, off + k, none⟩ = some (.int .i64 x) := by
  rcases h with h | ⟨b, off, hA, hb, hc⟩
  · subst h; simp at hx
  · exact ⟨b, off, hA, hb, hc k x hx⟩
/-- The slice at A holds the pairs l (kinds, parts). -/
def PairsAt (W : World) (B : Nat) (A : Option Addr) (l : List (Int × Int)) : Prop :=
  l = [] ∨ ∃ b off, A = some ⟨b, off, none⟩ ∧ b < B ∧ ∀ i x, l[i]? = some x → W.cell? ⟨b, off + i * 2, none⟩ = some (.int .i64 x.1) ∧ W.cell? ⟨b, off + i * 2 + 1, none⟩ = some (.int .i64 x.2)
theorem PairsAt.keep {W W' : World} {B B' : Nat} {A : Option Addr} {l : List (Int × Int)} (h : PairsAt W B A l) (hB : B ≤ B') (hk : ∀ b o, b < B → W'.cell? ⟨b, o, none⟩ = W.cell? ⟨b, o, none⟩) : PairsAt W' B' A l := by
  rcases h with h | ⟨b, off, hA, hb, hc⟩
  · exact .inl h
  · exact .inr ⟨b, off, hA, by omega, fun i x hx => by rw [hk _ _ hb, hk _ _ hb]; exact hc i x hx⟩
theorem PairsAt.at_ {W : World} {B : Nat} {A : Option Addr} {l : List (Int × Int)} (h : PairsAt W B A l) {k : Nat} {x : Int × Int} (hx : l[k]? = some x) : ∃ b off, A = some ⟨b, off, none⟩ ∧ b < B ∧
    W.cell? ⟨b, off + k * 2, none⟩ = some (.int .i64 x.1) ∧ W.cell? ⟨b, off + k * 2 + 1, none⟩ = some (.int .i64 x.2) := by
  rcases h with h | ⟨b, off, hA, hb, hc⟩
  · subst h; simp at hx
  · exact ⟨b, off, hA, hb, hc k x hx⟩

/-- A house: kinds (Salt, Days), the floor's salt, parts (Kind, Pounds), barrels. -/
structure House where
  ks : List (Int × Int)
  fl : Int
  ps : List (Int × Int)
  bs : List Int

/-- Where the slices of a house lie. -/
structure HL where
  Ak : Option Addr
  ck : Nat
  Ap : Option Addr
  cp : Nat
  Ab : Option Addr
  cb : Nat

abbrev HL.enc (L : HL) (h : House) : Value := .agg #[.slice L.Ak h.ks.length L.ck, .int .i64 h.fl, .slice L.Ap h.ps.length L.cp, .slice L.Ab h.bs.length L.cb]
structure HouseAt (W : World) (B : Nat) (L : HL) (h : House) : Prop where
  k : PairsAt W B L.Ak h.ks
  p : PairsAt W B L.Ap h.ps
  b : IntsAt W B L.Ab h.bs
theorem HouseAt.keep {W W' : World} {B B' : Nat} {L : HL} {h : House} (hh : HouseAt W B L h) (hB : B ≤ B') (hk : ∀ b o, b < B → W'.cell? ⟨b, o, none⟩ = W.cell? ⟨b, o, none⟩) : HouseAt W' B' L h :=
  ⟨hh.k.keep hB hk, hh.p.keep hB hk, hh.b.keep hB hk⟩
theorem HouseAt.below {W W' : World} {L : HL} {h : House} (hh : HouseAt W W.heap.size L h) (hb : Below W.heap.size W W') : HouseAt W' W'.heap.size L h :=
  hh.keep hb.size fun _ _ hlt => hb.cell (p := ⟨_, _, none⟩) hlt

/-- A house that is valid. -/
def kindOK (x : Int × Int) : Bool := inR x.1 0 9 && inR x.2 0 20
def partOK (nk : Nat) (x : Int × Int) : Bool := inR x.1 0 (nk - 1) && inR x.2 0 40
def bigOK (h : House) : Bool := decide (h.ks.length ≤ 3) && (inR h.fl 0 9 && (decide (h.ps.length ≤ 6) && decide (h.bs.length ≤ 4)))
def validH (h : House) : Bool := bigOK h && (h.ks.all kindOK && (h.ps.all (partOK h.ks.length) && h.bs.all fun b => inR b 0 99))
def ckH (h : House) : Int := if validH h then 0 else 80

/-- What is in a barrel: how many parts, pounds, the greatest Salt, the greatest Days. -/
structure Cask where
  n : Int
  p : Int
  s : Int
  d : Int
abbrev Cask.enc (c : Cask) : Value := .agg #[.int .i64 c.n, .int .i64 c.p, .int .i64 c.s, .int .i64 c.d]
def c0 : Cask := ⟨0, 0, 0, 0⟩
def layC (c : Cask) (k p : Int × Int) : Cask := ⟨c.n + 1, c.p + p.2, max c.s k.1, max c.d k.2⟩
def saltC (fl : Int) (c : Cask) : Int := if c.n = 0 then 0 else fl + (c.p * c.s + 9) / 10
/-- Bounds that no arithmetic on a cask leaves. -/
structure Cask.ok (c : Cask) : Prop where
  n0 : 0 ≤ c.n
  n1 : c.n ≤ 100
  p0 : 0 ≤ c.p
  p1 : c.p ≤ 10000
  s0 : 0 ≤ c.s
  s1 : c.s ≤ 9
  d0 : 0 ≤ c.d
  d1 : c.d ≤ 20
open Go.RowKit

theorem between_any (n lo hi : Int) (w : World) : Calls Try.prog 171 #[.int .i64 n, .int .i64 lo, .int .i64 hi] w fun e w' => e = .returned (.bool (inR n lo hi)) ∧ w = w' := by
  by_cases h : lo ≤ n <;> by_cases h2 : n ≤ hi
  all_goals
    have e : inR n lo hi = (decide (lo ≤ n) && decide (n ≤ hi)) := rfl
    have E := Lib.hid e
    clear e
    go_enter Try.func171, Try.ntmps171
    go_wp2
    go_ret
    exact ⟨by rw [E.out]; simp <;> omega, rfl⟩

theorem saltC_any (c : Cask) (fl : Int) (hc : c.ok) (hf : 0 ≤ fl ∧ fl ≤ 9) (w : World) : Calls Try.prog 129 #[c.enc, .int .i64 fl] w fun e w' => e = .returned (.int .i64 (saltC fl c)) ∧ Below w.heap.size w w' := by
  obtain ⟨n, p, s, d⟩ := c
  obtain ⟨hn0, hn1, hp0, hp1, hs0, hs1, hd0, hd1⟩ := hc
  simp only at hn0 hn1 hp0 hp1 hs0 hs1 hd0 hd1
  have hps : 0 ≤ p * s := Int.mul_nonneg hp0 hs0
  have hps2 : p * s ≤ 10000 * 9 := Int.mul_le_mul hp1 hs1 hs0 (by omega)
  by_cases h0 : n = 0
  · have hd : (n == 0) = true := by simpa using h0
    have H0 := Lib.hid h0
    clear h0
    go_enter Try.func129, Try.ntmps129
    go_wp2
    go_ret
    exact ⟨by simp [saltC, H0.out], (Below.refl _ _).alloc (Nat.le_refl _) _⟩
  · have hd : (n == 0) = false := by simpa using h0
    have H0 := Lib.hid h0
    clear h0
    go_enter Try.func129, Try.ntmps129
    go_wp2
    go_ret
    exact ⟨by simp [saltC, H0.out], (Below.refl _ _).alloc (Nat.le_refl _) _⟩
open Go.RowKit

/-- The cask at the cells from o on of block b. -/
structure CaskAt (W : World) (b o : Nat) (c : Cask) : Prop where
  n : W.cell? ⟨b, o, none⟩ = some (.int .i64 c.n)
  p : W.cell? ⟨b, o + 1, none⟩ = some (.int .i64 c.p)
  s : W.cell? ⟨b, o + 2, none⟩ = some (.int .i64 c.s)
  d : W.cell? ⟨b, o + 3, none⟩ = some (.int .i64 c.d)

theorem heap_set {W : World} {b o : Nat} {arr : Array Value} {t : TypeId} (v : Value) (h : W.heap[b]? = some (.cells arr t (0, 0))) : (W.setCell ⟨b, o, none⟩ v).heap[b]? = some (.cells (arr.setIfInBounds o v) t (0, 0)) := by
  obtain ⟨hlt, e⟩ := Array.getElem?_eq_some_iff.1 h
  have : (W.setCell ⟨b, o, none⟩ v).heap[b]? = some ((W.setCell ⟨b, o, none⟩ v).heap[b]'(by simp [World.setCell]; exact hlt)) := Array.getElem?_eq_getElem _
  rw [this]
  simp only [World.setCell]
  rw [Array.getElem_modify_self, e]
  rfl

theorem lay_end (w W1 W2 : World) (arr : Array Value) (t : TypeId) (b o : Nat) (c : Cask) (k p : Int × Int) (o1 o2 o3 : Obj) (s' d' : Int)
    (hb : w.heap[b]? = some (.cells arr t (0, 0))) (h1 : W1 = (((w.setCell ⟨b, o, none⟩ (.int .i64 (c.n + 1))).alloc o1).alloc o2).alloc o3) (h2 : W2 = (W1.setCell ⟨b, o + 1, none⟩ (.int .i64 (c.p + p.2))).drew)
    (hs : s' = (layC c k p).s) (hd : d' = (layC c k p).d) :
    KpB (fun k => k = b) w.heap.size w ((W2.setCell ⟨b, o + 2, none⟩ (.int .i64 s')).setCell ⟨b, o + 3, none⟩ (.int .i64 d')).drew ∧
      ((W2.setCell ⟨b, o + 2, none⟩ (.int .i64 s')).setCell ⟨b, o + 3, none⟩ (.int .i64 d')).drew.heap[b]? = some (.cells ((((arr.setIfInBounds o (.int .i64 (layC c k p).n)).setIfInBounds (o + 1) (.int .i64 (layC c k p).p)).setIfInBounds (o + 2) (.int .i64 (layC c k p).s)).setIfInBounds (o + 3) (.int .i64 (layC c k p).d)) t (0, 0)) := by
  subst hs hd
  have hbl : b < w.heap.size := (Array.getElem?_eq_some_iff.1 hb).1
  have k0 : KpB (fun k => k = b) w.heap.size w (w.setCell ⟨b, o, none⟩ (.int .i64 (c.n + 1))) := (KpB.refl _ _ _).set _ _ (.inl rfl)
  have g0 := heap_set (o := o) (.int .i64 (c.n + 1)) hb
  have b1 : Below w.heap.size (w.setCell ⟨b, o, none⟩ (.int .i64 (c.n + 1))) W1 := by
    rw [h1]; exact (((Below.refl _ _).alloc (by simp [World.setCell]) _).alloc (by simp [World.setCell] <;> omega) _).alloc (by simp [World.setCell] <;> omega) _
  have k1 : KpB (fun k => k = b) w.heap.size w W1 := k0.trans (kpB_of_below b1)
  have g1 : W1.heap[b]? = _ := (b1.block b hbl).trans g0
  have g2 := heap_set (o := o + 1) (.int .i64 (c.p + p.2)) g1
  have k2 : KpB (fun k => k = b) w.heap.size w (W1.setCell ⟨b, o + 1, none⟩ (.int .i64 (c.p + p.2))) := k1.set _ _ (.inl rfl)
  have k3 : KpB (fun k => k = b) w.heap.size w W2 := by rw [h2]; exact ⟨k2.os, k2.tape, k2.output, k2.size, k2.block⟩
  have e3 : W2.heap = (W1.setCell ⟨b, o + 1, none⟩ (.int .i64 (c.p + p.2))).heap := by rw [h2]; rfl
  have g3 := g2
  rw [← e3] at g3
  have k4 := (k3.set (o + 2) (.int .i64 (layC c k p).s) (.inl rfl)).set (o + 3) (.int .i64 (layC c k p).d) (.inl rfl)
  exact ⟨⟨k4.os, k4.tape, k4.output, k4.size, k4.block⟩, heap_set _ (heap_set _ g3)⟩

set_option maxRecDepth 100000 in
set_option maxHeartbeats 4000000 in
theorem lay_any (L : HL) (hs : House) (i kk : Nat) (k p : Int × Int) (c : Cask) (hc : c.ok) (b o : Nat) (w : World) (arr : Array Value) (t : TypeId)
    (hH : HouseAt w w.heap.size L hs) (hp : hs.ps[i]? = some p) (hkk : p.1 = (kk : Int)) (hk : hs.ks[kk]? = some k) (hpb : 0 ≤ p.2 ∧ p.2 ≤ 40) (hkb : 0 ≤ k.1 ∧ k.1 ≤ 9 ∧ 0 ≤ k.2 ∧ k.2 ≤ 20) (_hi : hs.ps.length ≤ 40 ∧ hs.ks.length ≤ 40)
    (hb : w.heap[b]? = some (.cells arr t (0, 0))) (hC : CaskAt w b o c) :
    Calls Try.prog 197 #[.pointer (some ⟨b, o, none⟩), L.enc hs, .int .i64 i] w fun e w' => (∃ v, e = .returned v) ∧
      KpB (fun k => k = b) w.heap.size w w' ∧ w'.heap[b]? = some (.cells ((((arr.setIfInBounds o (.int .i64 (layC c k p).n)).setIfInBounds (o + 1) (.int .i64 (layC c k p).p)).setIfInBounds (o + 2) (.int .i64 (layC c k p).s)).setIfInBounds (o + 3) (.int .i64 (layC c k p).d)) t (0, 0)) := by
  obtain ⟨Ak, ck, Ap, cp, Ab, cb⟩ := L
  obtain ⟨n0, n1, p0, p1, s0, s1, d0, d1⟩ := hc
  obtain ⟨cn, cp', cs, cd⟩ := hC
  obtain ⟨bp, op, e1, hbp, q1, q2⟩ := hH.p.at_ hp
  obtain ⟨bk, ok, e2, hbk, r1, r2⟩ := hH.k.at_ hk
  simp only at e1 e2
  subst e1 e2
  obtain ⟨pk, pp⟩ := p
  obtain ⟨kS, kD⟩ := k
  simp only at hkk hpb hkb q1 q2 r1 r2
  subst hkk
  have hi1 : i < hs.ps.length := (List.getElem?_eq_some_iff.1 hp).1
  have hi2 : kk < hs.ks.length := (List.getElem?_eq_some_iff.1 hk).1
  have fr : ∀ o, w.frozen? ⟨b, o, none⟩ = false := fun o => by simp [World.frozen?, hb]
  have hbl : b < w.heap.size := (Array.getElem?_eq_some_iff.1 hb).1
  have hb1 : b < w.heap.size + 1 := by omega
  have hb2 : b < w.heap.size + 1 + 1 := by omega
  have hn0 : ¬ b = w.heap.size := by omega
  have hn1 : ¬ b = w.heap.size + 1 := by omega
  have hn2 : ¬ b = w.heap.size + 1 + 1 := by omega
  clear hH hp hk
  have HB := Lib.hid hb
  clear hb
  go_enter Try.func197, Try.ntmps197
  go_wp2
  obtain ⟨W1, hW1⟩ : ∃ W1, W1 = ((((w.setCell ⟨b, o, none⟩ (.int .i64 (c.n + 1))).alloc (.cells #[.slice (some ⟨bk, ok, none⟩) hs.ks.length ck, .int .i64 hs.fl, .slice (some ⟨bp, op, none⟩) hs.ps.length cp, .slice Ab hs.bs.length cb] 27)).alloc (.cells #[.int .i64 kk, .int .i64 pp] 97)).alloc (.cells #[.int .i64 kS, .int .i64 kD] 95)) := ⟨_, rfl⟩
  have f1 : W1.cell? ⟨b, o + 1, none⟩ = some (.int .i64 c.p) := by rw [hW1]; clear hW1; simp [go_sem, *]
  have f2 : W1.cell? ⟨b, o + 2, none⟩ = some (.int .i64 c.s) := by rw [hW1]; clear hW1; simp [go_sem, *]
  have f3 : W1.cell? ⟨b, o + 3, none⟩ = some (.int .i64 c.d) := by rw [hW1]; clear hW1; simp [go_sem, *]
  have g1 : W1.cell? ⟨w.heap.size + 1, 1, none⟩ = some (.int .i64 pp) := by rw [hW1]; clear hW1; simp [go_sem, *]
  have g2 : W1.cell? ⟨w.heap.size + 1 + 1, 0, none⟩ = some (.int .i64 kS) := by rw [hW1]; clear hW1; simp [go_sem, *]
  have g3 : W1.cell? ⟨w.heap.size + 1 + 1, 1, none⟩ = some (.int .i64 kD) := by rw [hW1]; clear hW1; simp [go_sem, *]
  have fr1 : ∀ o, W1.frozen? ⟨b, o, none⟩ = false := fun o => by rw [hW1]; clear hW1; simp [go_sem, *]
  have HW := Lib.hid hW1
  rw [← hW1]
  clear hW1
  go_region
  go_wp2
  obtain ⟨W2, hW2⟩ : ∃ W2, W2 = (W1.setCell ⟨b, o + 1, none⟩ (.int .i64 (c.p + pp))).drew := ⟨_, rfl⟩
  have h2 : W2.cell? ⟨b, o + 2, none⟩ = some (.int .i64 c.s) := by rw [hW2]; clear hW2; simp [go_sem, *]
  have h3 : W2.cell? ⟨b, o + 3, none⟩ = some (.int .i64 c.d) := by rw [hW2]; clear hW2; simp [go_sem, *]
  have k2 : W2.cell? ⟨w.heap.size + 1 + 1, 0, none⟩ = some (.int .i64 kS) := by rw [hW2]; clear hW2; simp [go_sem, *]
  have k3 : W2.cell? ⟨w.heap.size + 1 + 1, 1, none⟩ = some (.int .i64 kD) := by rw [hW2]; clear hW2; simp [go_sem, *]
  have fr2 : ∀ o, W2.frozen? ⟨b, o, none⟩ = false := fun o => by rw [hW2]; clear hW2; simp [go_sem, *]
  have HV := Lib.hid hW2
  rw [← hW2]
  clear hW2
  go_region
  all_goals go_wp2
  all_goals
    go_end0
    exact ⟨⟨_, rfl⟩, lay_end w W1 W2 arr t b o c (kS, kD) (kk, pp) _ _ _ _ _ HB.out HW.out HV.out (by simp [layC] <;> omega) (by simp [layC] <;> omega)⟩
open Go.RowKit

/-- A house whose numbers are in their bounds. -/
structure HOK (h : House) : Prop where
  kl : h.ks.length ≤ 3
  f0 : 0 ≤ h.fl
  f1 : h.fl ≤ 9
  pl : h.ps.length ≤ 6
  bl : h.bs.length ≤ 4
  k : ∀ (i : Nat) (x : Int × Int), h.ks[i]? = some x → 0 ≤ x.1 ∧ x.1 ≤ 9 ∧ 0 ≤ x.2 ∧ x.2 ≤ 20
  p : ∀ (i : Nat) (x : Int × Int), h.ps[i]? = some x → 0 ≤ x.1 ∧ x.1 < h.ks.length ∧ 0 ≤ x.2 ∧ x.2 ≤ 40
  b : ∀ (i : Nat) (x : Int), h.bs[i]? = some x → 0 ≤ x ∧ x ≤ 99

def flatC : List Cask → List Value
  | [] => []
  | c :: l => .int .i64 c.n :: .int .i64 c.p :: .int .i64 c.s :: .int .i64 c.d :: flatC l
theorem flatC_len : ∀ l, (flatC l).length = l.length * 4
  | [] => rfl
  | c :: l => by simp only [flatC, List.length_cons, flatC_len l]; omega
theorem flatC_at : ∀ (l : List Cask) (j : Nat) (c : Cask), l[j]? = some c → (flatC l)[j * 4]? = some (.int .i64 c.n) ∧ (flatC l)[j * 4 + 1]? = some (.int .i64 c.p) ∧ (flatC l)[j * 4 + 2]? = some (.int .i64 c.s) ∧ (flatC l)[j * 4 + 3]? = some (.int .i64 c.d)
  | [], j, c, h => by simp at h
  | x :: l, 0, c, h => by simp at h; subst h; exact ⟨rfl, rfl, rfl, rfl⟩
  | x :: l, j + 1, c, h => by
    have := flatC_at l j c (by simpa using h)
    have e : (j + 1) * 4 = j * 4 + 1 + 1 + 1 + 1 := by omega
    rw [e]
    simp only [flatC, List.getElem?_cons_succ]
    exact this
theorem flatC_set : ∀ (l : List Cask) (j : Nat) (c : Cask), ((((flatC l).set (j * 4) (.int .i64 c.n)).set (j * 4 + 1) (.int .i64 c.p)).set (j * 4 + 2) (.int .i64 c.s)).set (j * 4 + 3) (.int .i64 c.d) = flatC (l.set j c)
  | [], j, c => by simp [flatC]
  | x :: l, 0, c => rfl
  | x :: l, j + 1, c => by
    have := flatC_set l j c
    have e : (j + 1) * 4 = j * 4 + 1 + 1 + 1 + 1 := by omega
    rw [e]
    simp only [flatC, List.set_cons_succ]
    rw [this]

/-- All casks of a house, in the block cb. -/
def CasksAt (W : World) (cb : Nat) (l : List Cask) : Prop := W.heap[cb]? = some (.cells (flatC l).toArray 169 (0, 0))
theorem CasksAt.at_ {W : World} {cb : Nat} {l : List Cask} (h : CasksAt W cb l) {j : Nat} {c : Cask} (hj : l[j]? = some c) : CaskAt W cb (j * 4) c := by
  obtain ⟨h1, h2, h3, h4⟩ := flatC_at l j c hj
  have h : W.heap[cb]? = some (.cells (flatC l).toArray 169 (0, 0)) := h
  exact ⟨by simp [World.cell?, h, h1], by simp [World.cell?, h, h2], by simp [World.cell?, h, h3], by simp [World.cell?, h, h4]⟩

def barrelOf (pack : List Int) (k : Nat) : Int := pack.getD k (-1)
def partOf (h : House) (k : Nat) : Int × Int := h.ps.getD k (0, 0)
def kindOf (h : House) (p : Int × Int) : Int × Int := h.ks.getD p.1.toNat (0, 0)
/-- The casks behind the first k parts. -/
def casksTo (h : House) (pack : List Int) : Nat → List Cask
  | 0 => [c0, c0, c0, c0, c0]
  | k + 1 => if barrelOf pack k = -1 then casksTo h pack k else
    (casksTo h pack k).set (barrelOf pack k).toNat (layC ((casksTo h pack k).getD (barrelOf pack k).toNat c0) (kindOf h (partOf h k)) (partOf h k))
theorem casksTo_len (h : House) (pack : List Int) : ∀ k, (casksTo h pack k).length = 5
  | 0 => rfl
  | k + 1 => by
    unfold casksTo
    split
    · exact casksTo_len h pack k
    · rw [List.length_set]; exact casksTo_len h pack k

theorem HOK.part {h : House} (hv : HOK h) {k : Nat} (hk : k < h.ps.length) : ∃ kk : Nat, h.ps[k]? = some (partOf h k) ∧ (partOf h k).1 = (kk : Int) ∧ h.ks[kk]? = some (kindOf h (partOf h k)) ∧ (0 ≤ (partOf h k).2 ∧ (partOf h k).2 ≤ 40) ∧
    0 ≤ (kindOf h (partOf h k)).1 ∧ (kindOf h (partOf h k)).1 ≤ 9 ∧ 0 ≤ (kindOf h (partOf h k)).2 ∧ (kindOf h (partOf h k)).2 ≤ 20 := by
  have e : h.ps[k]? = some (partOf h k) := by simp [partOf, List.getD, List.getElem?_eq_getElem hk]
  obtain ⟨p0, p1, p2, p3⟩ := hv.p k _ e
  obtain ⟨kk, hkk⟩ := Int.eq_ofNat_of_zero_le p0
  have hkk : (partOf h k).1 = (kk : Int) := hkk
  have hlt : kk < h.ks.length := by omega
  have e2 : h.ks[kk]? = some (kindOf h (partOf h k)) := by
    simp [kindOf, hkk, List.getD, List.getElem?_eq_getElem hlt]
  exact ⟨kk, e, hkk, e2, ⟨p2, p3⟩, hv.k kk _ e2⟩

/-- Bounds of a cask with at most k parts. -/
structure Cask.upto (c : Cask) (k : Nat) : Prop where
  n0 : 0 ≤ c.n
  n1 : c.n ≤ k
  p0 : 0 ≤ c.p
  p1 : c.p ≤ 40 * k
  s0 : 0 ≤ c.s
  s1 : c.s ≤ 9
  d0 : 0 ≤ c.d
  d1 : c.d ≤ 20
theorem Cask.upto.ok {c : Cask} {k : Nat} (h : c.upto k) (hk : k ≤ 100) : c.ok := ⟨h.n0, by have := h.n1; omega, h.p0, by have := h.p1; omega, h.s0, h.s1, h.d0, h.d1⟩
theorem casksTo_upto {h : House} (hv : HOK h) (pack : List Int) : ∀ k, k ≤ h.ps.length → ∀ (j : Nat) (c : Cask), (casksTo h pack k)[j]? = some c → c.upto k
  | 0, _, j, c, hc => by
    have : c = c0 := by
      simp only [casksTo] at hc
      have := List.mem_of_getElem? hc
      simpa using this
    subst this
    exact ⟨by decide, by decide, by decide, by decide, by decide, by decide, by decide, by decide⟩
  | k + 1, hk, j, c, hc => by
    have ih := casksTo_upto hv pack k (by omega)
    have up : ∀ {c : Cask}, c.upto k → c.upto (k + 1) := fun h => ⟨h.n0, by have := h.n1; omega, h.p0, by have := h.p1; omega, h.s0, h.s1, h.d0, h.d1⟩
    unfold casksTo at hc
    split at hc
    · exact up (ih j c hc)
    · rw [List.getElem?_set] at hc
      split at hc
      · split at hc
        · obtain rfl := Option.some.inj hc
          rename_i hlt
          have hb := ih (barrelOf pack k).toNat ((casksTo h pack k).getD (barrelOf pack k).toNat c0) (by simp [List.getD, List.getElem?_eq_getElem hlt])
          obtain ⟨kk, -, -, -, ⟨p2, p3⟩, k0, k1, k2, k3⟩ := hv.part (k := k) (by omega)
          obtain ⟨n0, n1, p0, p1, s0, s1, d0, d1⟩ := hb
          exact ⟨by simp only [layC]; omega, by simp only [layC]; omega, by simp only [layC]; omega, by simp only [layC]; omega, by simp only [layC]; omega, by simp only [layC]; omega, by simp only [layC]; omega, by simp only [layC]; omega⟩
        · cases hc
      · exact up (ih j c hc)
/-- All casks of a packing. -/
def packedC (h : House) (pack : List Int) : List Cask := casksTo h pack h.ps.length
def encCs (l : List Cask) : Value := .agg (flatC l).toArray
open Go.RowKit

/-- The box of a house. -/
def HBox (W : World) (b : Nat) (L : HL) (h : House) : Prop := W.heap[b]? = some (.cells #[.slice L.Ak h.ks.length L.ck, .int .i64 h.fl, .slice L.Ap h.ps.length L.cp, .slice L.Ab h.bs.length L.cb] 27 (0, 0))
theorem HBox.cells {W : World} {b : Nat} {L : HL} {h : House} (hb : HBox W b L h) : W.cell? ⟨b, 0, none⟩ = some (.slice L.Ak h.ks.length L.ck) ∧ W.cell? ⟨b, 1, none⟩ = some (.int .i64 h.fl) ∧ W.cell? ⟨b, 2, none⟩ = some (.slice L.Ap h.ps.length L.cp) ∧ W.cell? ⟨b, 3, none⟩ = some (.slice L.Ab h.bs.length L.cb) := by
  simp [World.cell?, show W.heap[b]? = _ from hb]
theorem HBox.new (W : World) (L : HL) (h : House) : HBox (W.alloc (.cells #[.slice L.Ak h.ks.length L.ck, .int .i64 h.fl, .slice L.Ap h.ps.length L.cp, .slice L.Ab h.bs.length L.cb] 27)) W.heap.size L h := World.alloc_heap_new W _
theorem HBox.lt {W : World} {b : Nat} {L : HL} {h : House} (hb : HBox W b L h) : b < W.heap.size := (Array.getElem?_eq_some_iff.1 hb).1
theorem HBox.of {W W' : World} {b : Nat} {L : HL} {h : House} (hb : HBox W b L h) (e : W'.heap[b]? = W.heap[b]?) : HBox W' b L h := e.trans hb

theorem HouseAt.drew {W : World} {B : Nat} {L : HL} {h : House} (hh : HouseAt W B L h) : HouseAt W.drew B L h := ⟨hh.k, hh.p, hh.b⟩
theorem CaskAt.drew {W : World} {b o : Nat} {c : Cask} (h : CaskAt W b o c) : CaskAt W.drew b o c := ⟨h.n, h.p, h.s, h.d⟩
theorem setIf_same {c : Array Value} {o : Nat} {v : Value} (h : c[o]? = some v) : c.setIfInBounds o v = c := by
  obtain ⟨hlt, e⟩ := Array.getElem?_eq_some_iff.1 h
  apply Array.ext
  · simp
  · intro i h1 h2
    rw [Array.getElem_setIfInBounds]
    split
    · rename_i ei; subst ei; exact e.symm
    · rfl
theorem set_same {W : World} {b o : Nat} {v : Value} (h : W.cell? ⟨b, o, none⟩ = some v) : W.setCell ⟨b, o, none⟩ v = W := by
  unfold World.cell? at h
  cases hb : W.heap[b]? with
  | none => simp [hb] at h
  | some ob =>
    obtain ⟨hlt, e⟩ := Array.getElem?_eq_some_iff.1 hb
    have hh : (W.setCell ⟨b, o, none⟩ v).heap = W.heap := by
      apply Array.ext
      · simp [World.setCell]
      · intro i h1 h2
        simp only [World.setCell]
        by_cases ei : i = b
        · subst ei
          rw [Array.getElem_modify_self, e]
          cases ob <;> simp_all [setIf_same]
        · rw [Array.getElem_modify_of_ne (Ne.symm ei)]
    show ({ W with heap := (W.setCell ⟨b, o, none⟩ v).heap } : World) = W
    rw [hh]

theorem casks_set {W : World} {cb : Nat} {l : List Cask} {j : Nat} {c : Cask} (h : W.heap[cb]? = some (.cells (((((flatC l).toArray.setIfInBounds (j * 4) (.int .i64 c.n)).setIfInBounds (j * 4 + 1) (.int .i64 c.p)).setIfInBounds (j * 4 + 2) (.int .i64 c.s)).setIfInBounds (j * 4 + 3) (.int .i64 c.d)) 169 (0, 0))) : CasksAt W cb (l.set j c) := by
  unfold CasksAt
  rw [← flatC_set, h]
  simp
theorem KpB.ofDrew {S : Nat → Prop} {n : Nat} {W W' : World} (h : KpB S n W.drew W') : KpB S n W W' := ⟨h.os, h.tape, h.output, h.size, h.block⟩

theorem list5 {α : Type} {l : List α} (h : l.length = 5) : ∃ a b c d e, l = [a, b, c, d, e] := by
  match l, h with
  | [a, b, c, d, e], _ => exact ⟨a, b, c, d, e, rfl⟩

theorem results_cell {P : Program} {fn : Func} {t : Tmp} {ty : TypeId} (h : fn.results = #[.cell t ty]) {tmps : Array Value} {w : World} {v : Value} {p : Addr} (ht : tmps.getD t undef = .pointer (some p))
    (hl : (Instr.loadAt ty (.pointer (some p))).run P w = .ok v w) : (results fn tmps).run P w = .ok v w := by
  have e : (results fn tmps).run P w = (Instr.loadAt ty (tmps.getD t undef)).run P w := by
    have ht' : tmps[t]?.getD undef = .pointer (some p) := by simpa using ht
    rw [ht]
    simp [results, h, ht', Instr.loadAt, Instr.sureAddr, asAddr]
  rw [e, ht]; exact hl
theorem casks_range {W : World} {cb : Nat} {l : List Cask} (hC : CasksAt W cb l) : W.rangeAt cb 0 (flatC l) := fun j v hj => by
  simp [World.cell?, show W.heap[cb]? = _ from hC, hj]
theorem load81 {W : World} {cb : Nat} {l : List Cask} (hl : l.length = 5) (hC : CasksAt W cb l) : (Instr.loadAt 169 (.pointer (some ⟨cb, 0, none⟩))).run Try.prog W = .ok (encCs l) W :=
  run_loadAt_mid W cb 0 169 (flatC l) _ (casks_range hC) Try.underlying169 rfl (by rw [flatC_len, hl]; kernel_rfl)
theorem setCells_same (W : World) (b : Nat) : ∀ (l : List Value) (o : Nat), W.rangeAt b o l → W.setCells b o l = W
  | [], o, _ => rfl
  | v :: l, o, h => by
    have h0 := h 0 v rfl
    simp only [Nat.add_zero] at h0
    rw [World.setCells, set_same h0]
    exact setCells_same W b l (o + 1) (fun j u hj => by have := h (j + 1) u (by simpa using hj); rwa [show o + (j + 1) = o + 1 + j by omega] at this)
theorem flatC_one : ∀ l, (flatC l).all (·.oneCell') = true
  | [] => rfl
  | c :: l => by simp only [flatC, List.all_cons, flatC_one l]; rfl
theorem casks_there {W : World} {cb : Nat} {l : List Cask} (hC : CasksAt W cb l) : W.there cb 0 (flatC l).toArray.size := fun j hj => by
  have hj' : j < (flatC l).length := by simpa using hj
  exact ⟨by simp [World.cell?, show W.heap[cb]? = _ from hC, hj'], by simp [World.frozen?, show W.heap[cb]? = _ from hC]⟩
theorem info81 {l : List Cask} (hl : l.length = 5) : (Try.prog.info? 169).map (·.size) = some (flatC l).length := by rw [flatC_len, hl]; kernel_rfl
theorem info81' {l : List Cask} (hl : l.length = 5) : (Try.prog.info? 169).map (·.size) = some (flatC l).toArray.size := by rw [List.size_toArray, flatC_len, hl]; kernel_rfl
theorem flatC_one' (l : List Cask) : (flatC l).toArray.all (·.oneCell') = true := by have := flatC_one l; simpa using this
/-- The load of a whole array of casks, and the store of what is there already, as the walk meets them. -/
theorem wpl_load81 {ops : Array Oper} {rest : List Oper} {o : Oper} {a : Act} {w : World} {Q : Exit → Act → World → Prop} (hgd : o.guard = none) (x : Operand) (ho : o.op = .load 169 x) (cb : Nat)
    (hx : a.eval x = .pointer (some ⟨cb, 0, none⟩)) (l : List Cask) (hl : l.length = 5) (hC : CasksAt w cb l) (h : wpList Try.prog ops Q rest (a.put o.dst (encCs l)) w) : wpList Try.prog ops Q (o :: rest) a w :=
  wpList_load_mid hgd 169 x ho cb 0 hx (flatC l) _ (casks_range hC) Try.underlying169 rfl (info81 hl) h
theorem wpl_store81 {ops : Array Oper} {rest : List Oper} {o : Oper} {a : Act} {w : World} {Q : Exit → Act → World → Prop} (hgd : o.guard = none) (x y : Operand) (ho : o.op = .store 169 x y) (cb : Nat)
    (hx : a.eval x = .pointer (some ⟨cb, 0, none⟩)) (l : List Cask) (hy : a.eval y = encCs l) (hl : l.length = 5) (hC : CasksAt w cb l) (h : wpList Try.prog ops Q rest (a.put o.dst undef) w) : wpList Try.prog ops Q (o :: rest) a w := by
  refine wpList_store_mid hgd 169 x y ho cb 0 (flatC l).toArray hx hy (casks_there hC) (info81' hl) (flatC_one' l) ?_
  rw [List.toList_toArray, setCells_same w cb _ 0 (casks_range hC)]
  exact h
set_option maxRecDepth 100000 in
set_option maxHeartbeats 4000000 in
theorem packed_any (L : HL) (h : House) (hv : HOK h) (pack : List Int) (hl : pack.length = h.ps.length) (hr : ∀ (k : Nat) (b : Int), pack[k]? = some b → -1 ≤ b ∧ b ≤ 4) (A : Option Addr) (c : Nat) (w : World)
    (hH : HouseAt w w.heap.size L h) (hP : IntsAt w w.heap.size A pack) :
    Calls Try.prog 175 #[L.enc h, .slice A pack.length c] w fun e w' => e = .returned (encCs (packedC h pack)) ∧ Below w.heap.size w w' := by
  have hpl := hv.pl
  have hkl := hv.kl
  have HH := Lib.hid hH
  have HP := Lib.hid hP
  have HR := Lib.hid hr
  have HV := Lib.hid hv
  have HL' := Lib.hid hl
  have hp6 : pack.length ≤ 6 := by omega
  clear hH hP hr hv hl
  go_enter Try.func175, Try.ntmps175
  go_wp2
  go_loopw [9] (fun i wr => ∃ k : Nat, k ≤ pack.length ∧ i = .int .i64 k ∧ Below w.heap.size w wr ∧ HBox wr w.heap.size L h ∧ CasksAt wr (w.heap.size + 1) (casksTo h pack k)) (fun i _ => pack.length - (intOf i).toNat)
  case atStart =>
    refine ⟨0, Nat.zero_le _, rfl, ((Below.refl _ _).alloc (Nat.le_refl _) _).alloc (by simp) _, (HBox.new w L h).of (Below.heap_alloc _ _ _ (by simp)), ?_⟩
    have := World.alloc_heap_new (w.alloc (.cells #[.slice L.Ak h.ks.length L.ck, .int .i64 h.fl, .slice L.Ap h.ps.length L.cp, .slice L.Ab h.bs.length L.cb] 27)) (.cells (flatC [c0, c0, c0, c0, c0]).toArray 169)
    rw [World.size_alloc] at this
    exact this
  case round =>
    obtain ⟨k, hk, rfl, hb, hB, hC⟩ := hrel
    by_cases hlt : k < pack.length
    · as_aux_lemma =>
      obtain ⟨x, hx⟩ : ∃ x, pack[k]? = some x := ⟨_, List.getElem?_eq_getElem hlt⟩
      obtain ⟨b1, o1, rfl, b1lt, d1⟩ := IntsAt.at_ (HP.out.keep hb.size fun _ _ hlt => hb.cell (p := ⟨_, _, none⟩) hlt) hx
      obtain ⟨hx0, hx4⟩ := HR.out k x hx
      obtain ⟨e0, e1, e2, e3⟩ := hB.cells
      have hbx : barrelOf pack k = x := by simp [barrelOf, List.getD, hx]
      by_cases hm : x = -1
      · have hd : (x != -1) = false := by simp [hm]
        go_wp2
        go_roundw
        case rel => exact ⟨k + 1, by omega, by go_num, hb, hB, by rw [casksTo, if_pos (hbx.trans hm)]; exact hC⟩
        case measure => simp [intOf]; omega
      · obtain ⟨xn, rfl⟩ : ∃ xn : Nat, x = (xn : Int) := ⟨x.toNat, by omega⟩
        have hd : decide ((xn : Int) ≠ -1) = true := by simp <;> omega
        obtain ⟨kk, p1, p2, p3, p4, p5⟩ := HV.out.part (k := k) (by rw [← HL'.out]; exact hlt)
        have hxl : xn < (casksTo h pack k).length := by rw [casksTo_len]; omega
        obtain ⟨cc, hcc⟩ : ∃ cc, (casksTo h pack k)[xn]? = some cc := ⟨_, List.getElem?_eq_getElem hxl⟩
        have hcok := (casksTo_upto HV.out pack k (by rw [← HL'.out]; exact hk) xn cc hcc).ok (by omega)
        have hCC := hC.at_ hcc
        have hHr := HH.out.below hb
        have P1 := Lib.hid p1
        have P2 := Lib.hid p2
        have P3 := Lib.hid p3
        have X1 := Lib.hid hx
        have C1 := Lib.hid hcc
        clear p1 p2 p3 hx hcc
        go_wp2
        go_region_with (go_at_call 197; go_must (refine (lay_any L h k kk _ _ cc hcok (w.heap.size + 1) (xn * 4) wr.drew (flatC (casksTo h pack k)).toArray 169 hHr.drew P1.out P2.out P3.out p4 p5 ⟨by omega, by omega⟩ hC hCC.drew).mono ?_); rintro e W5 ⟨⟨v, rfl⟩, g1, g2⟩)
        all_goals go_wp2
        all_goals
          go_roundw
          case rel =>
            have hle := hb.size
            have g1' : KpB (fun j => j = w.heap.size + 1) wr.heap.size wr W5 := g1.ofDrew
            refine ⟨k + 1, by omega, by go_num, hb.trans ((g1'.mono hle (S' := fun j => j = w.heap.size + 1) fun _ _ h => h).below fun j hj => by have hj' : j = w.heap.size + 1 := hj; omega), hB.of (g1'.block _ hB.lt (fun hj => by have hj' : w.heap.size = w.heap.size + 1 := hj; omega)), ?_⟩
            have hne : ¬ barrelOf pack k = -1 := by rw [hbx]; exact hm
            rw [casksTo, if_neg hne, hbx]
            have e5 : ((casksTo h pack k).getD (xn : Int).toNat c0) = cc := by simp [List.getD, C1.out]
            rw [e5, Int.toNat_natCast]
            exact casks_set g2
          case measure => simp [intOf]; omega
    · obtain rfl : k = pack.length := by omega
      have hl5 := casksTo_len h pack pack.length
      have e1 := HL'.out
      as_aux_lemma =>
        go_wp2_with (first
          | (refine wpl_load81 rfl (.tmp 4) rfl (w.heap.size + 1) rfl _ hl5 hC ?_)
          | (refine wpl_store81 rfl (.tmp 4) (.tmp 22) rfl (w.heap.size + 1) rfl (casksTo h pack pack.length) rfl hl5 hC ?_))
        refine bodyPost_ret (results_cell rfl rfl (load81 hl5 hC)) rfl ⟨?_, hb⟩
        rw [packedC, e1]
end Go.Proofs.Ytmbcpmnigggbaaa.Sa
namespace Go.Proofs.Ytmbcpmnigggbaaa.Sa
open Go.RowKit

/-! Appending: numbers, pairs of numbers, and lists of numbers, in memory of the call's own. -/
theorem own_below {W W' : World} {base e size : Nat} {v : Value} {n : Nat} {xs : List Value} {n₀ : Nat} (h : W.ownsRow base e size v n xs) (hg : W.grownBy W' v.ownBlock) (hn : n₀ ≤ W.heap.size) (hb : n₀ ≤ base) : Below n₀ W W' := by
  refine (Below.refl n₀ W).grown hg hn fun j ej => ?_
  rcases h.2 with ⟨rfl, _⟩ | ⟨g, cap, cur, rfl, hb2, _, _⟩
  · simp [Value.ownBlock] at ej
  · obtain rfl : g = j := by simpa [Value.ownBlock] using ej
    omega
theorem info3' : (Try.prog.info? 3).map (fun i => (i.zero, i.size, i.bytes)) = some (some (.int .i64 0), 1, 8) := by kernel_rfl
/-- The slice v owns the numbers l, in a row of its own (from base on). -/
def Ints (W : World) (base : Nat) (v : Value) (l : List Int) : Prop := W.ownsRow base 3 1 v l.length (l.map (Value.int .i64))
theorem ints_made (w : World) (n₀ : Nat) (hn : n₀ ≤ w.heap.size) : Ints (w.alloc (.cells #[] 3)) n₀ (.slice (some ⟨w.heap.size, 0, none⟩) 0 0) [] :=
  World.ownsRow_made w #[] 0 hn (by unfold maxLen; omega) rfl
/-- What a slice of numbers reads as: with its block. -/
def IntsIn (W : World) (lo hi : Nat) (A : Option Addr) (l : List Int) : Prop :=
  l = [] ∨ ∃ b off, A = some ⟨b, off, none⟩ ∧ lo ≤ b ∧ b < hi ∧ ∀ i x, l[i]? = some x → W.cell? ⟨b, off + i, none⟩ = some (.int .i64 x)
theorem IntsIn.at_ {W : World} {lo hi : Nat} {A : Option Addr} {l : List Int} (h : IntsIn W lo hi A l) : IntsAt W hi A l := by
  rcases h with h | ⟨b, off, h1, _, h2, h3⟩
  · exact .inl h
  · exact .inr ⟨b, off, h1, h2, h3⟩
theorem IntsIn.keep {W W' : World} {lo hi lo' hi' : Nat} {A : Option Addr} {l : List Int} (h : IntsIn W lo hi A l) (h1 : lo' ≤ lo) (h2 : hi ≤ hi') (hk : ∀ b o, lo ≤ b → b < hi → W'.cell? ⟨b, o, none⟩ = W.cell? ⟨b, o, none⟩) : IntsIn W' lo' hi' A l := by
  rcases h with h | ⟨b, off, e, h3, h4, h5⟩
  · exact .inl h
  · exact .inr ⟨b, off, e, by omega, by omega, fun i x hx => by rw [hk _ _ h3 h4]; exact h5 i x hx⟩
theorem IntsIn.below {W W' : World} {lo hi n : Nat} {A : Option Addr} {l : List Int} (h : IntsIn W lo hi A l) (hb : Below n W W') (hn : hi ≤ n) : IntsIn W' lo hi A l :=
  h.keep (Nat.le_refl _) (Nat.le_refl _) fun b o _ hlt => hb.cell (p := ⟨b, o, none⟩) (by show b < n; omega)
theorem Ints.lay {W : World} {base : Nat} {v : Value} {l : List Int} (h : Ints W base v l) : ∃ A c, v = .slice A l.length c ∧ (A = none → c = 0 ∧ l = []) ∧ l.length ≤ c ∧ IntsIn W base W.heap.size A l := by
  rcases h.2 with ⟨rfl, h0⟩ | ⟨g, cap, cur, rfl, hb, hg, h4, h5, h6, h7⟩
  · have : l = [] := List.length_eq_zero_iff.1 h0
    exact ⟨none, 0, by rw [h0], fun _ => ⟨rfl, this⟩, by omega, .inl this⟩
  · refine ⟨some ⟨g, 0, none⟩, cap, rfl, fun h => (by cases h), h4, .inr ⟨g, 0, rfl, hb, (Array.getElem?_eq_some_iff.1 hg).1, fun i x hx => ?_⟩⟩
    have hc := World.ownsRow.cells h (g := g) rfl i (.int .i64 x) (by rw [List.getElem?_map, hx]; rfl)
    rw [addr_add] at hc; exact hc
theorem Ints.below_ {W W' : World} {base n : Nat} {v : Value} {l : List Int} (h : Ints W base v l) (hb : Below n W W') (hn : W.heap.size ≤ n) : Ints W' base v l := by
  refine ⟨h.1, ?_⟩
  rcases h.2 with h2 | ⟨g, cap, cur, e, hb2, hg, h4⟩
  · exact .inl h2
  · exact .inr ⟨g, cap, cur, e, hb2, (hb.block g (Nat.lt_of_lt_of_le (Array.getElem?_eq_some_iff.1 hg).1 hn)).trans hg, h4⟩
theorem Ints.mono {W : World} {base base' : Nat} {v : Value} {l : List Int} (h : Ints W base v l) (hb : base' ≤ base) : Ints W base' v l := by
  refine ⟨h.1, ?_⟩
  rcases h.2 with h2 | ⟨g, cap, cur, e, hb2, hg, h4⟩
  · exact .inl h2
  · exact .inr ⟨g, cap, cur, e, by omega, hg, h4⟩
theorem Ints.alloc {W : World} {base : Nat} {v : Value} {l : List Int} (h : Ints W base v l) (o : Obj) : Ints (W.alloc o) base v l := World.ownsRow.alloc h o

theorem ints_news {w : World} {hi : Nat} {ad : Addr} {l : List Int} (hI : IntsAt w hi (some ad) l) : ∀ j u, (l.map (Value.int .i64))[j]? = some u → w.cell? (ad.add j) = some u := by
  intro j u hj
  rcases hI with rfl | ⟨b, off, e, _, hc⟩
  · simp at hj
  · cases e
    rw [List.getElem?_map] at hj
    cases hx : l[j]? with
    | none => rw [hx] at hj; simp at hj
    | some y =>
      rw [hx] at hj
      simp at hj
      subst hj
      rw [addr_add]
      exact hc j y hx
theorem ints_one (l : List Int) : ∀ u ∈ l.map (Value.int .i64), u.oneCell' = true := by
  intro u hu
  obtain ⟨y, _, rfl⟩ := List.mem_map.1 hu
  rfl
/-- 'append(out, xs...)', out the call's own. -/
theorem wpl_copyI {ops : Array Oper} {rest : List Oper} {o : Oper} {a : Act} {w : World} {Q : Exit → Act → World → Prop} (hgd : o.guard = none) (s x : Operand)
    (ho : o.op = .call { callee := .builtin .append, args := #[s, x], argTypes := #[25, 25] }) (n₀ : Nat) (v : Value) (l0 : List Int) (hs : a.eval s = v) (hown : Ints w n₀ v l0)
    (A : Option Addr) (c : Nat) (l : List Int) (hA : A = none → c = 0 ∧ l = []) (hx : a.eval x = .slice A l.length c) (hI : IntsAt w w.heap.size A l) (hl0 : l0.length ≤ 1000) (hl : l.length ≤ 1000) (hn : n₀ ≤ w.heap.size)
    (h : ∀ v' w', Ints w' n₀ v' (l0 ++ l) → Below n₀ w w' → wpList Try.prog ops Q rest (a.put o.dst v') w') : wpList Try.prog ops Q (o :: rest) a w := by
  obtain ⟨i0, hi, hz0, hz1, hz2⟩ := info_parts info3'
  cases A with
  | none =>
    obtain ⟨rfl, rfl⟩ := hA rfl
    refine wpList_append_own_none hgd s x 25 ho n₀ 3 i0 1 Try.underlying25 hi v l0.length _ hs hown hx (h v w ?_ (Below.refl _ _))
    rw [List.append_nil]; exact hown
  | some ad =>
    refine wpList_append_own w hgd s x 25 ho n₀ 3 i0 (.int .i64 0) 1 8 Try.underlying25 hi hz0 hz1 hz2 rfl (by decide) v l0.length _ hs hown ad l.length c (l.map (.int .i64)) hx (by simp) (ints_news hI) (ints_one l) ?_ ?_ hn ?_
    · unfold maxLen; omega
    · omega
    · intro v' w' h2 h3 _
      refine h v' w' ?_ (own_below hown h3 hn (Nat.le_refl _))
      unfold Ints
      rw [List.length_append, List.map_append]
      exact h2
/-! Pairs. -/
def pairCells : List (Int × Int) → List Value
  | [] => []
  | x :: xs => .int .i64 x.1 :: .int .i64 x.2 :: pairCells xs
theorem pairCells_len : ∀ (ns : List (Int × Int)), (pairCells ns).length = ns.length * 2
  | [] => rfl
  | x :: xs => by simp only [pairCells, List.length_cons, pairCells_len xs]; omega
theorem pairCells_one : ∀ (ns : List (Int × Int)), ∀ u ∈ pairCells ns, u.oneCell' = true
  | [], _, h => by simp [pairCells] at h
  | x :: xs, u, h => by
    simp only [pairCells, List.mem_cons] at h
    rcases h with rfl | rfl | h
    · rfl
    · rfl
    · exact pairCells_one xs u h
theorem pairCells_at : ∀ (ns : List (Int × Int)) (i : Nat) (x : Int × Int), ns[i]? = some x → (pairCells ns)[i * 2]? = some (.int .i64 x.1) ∧ (pairCells ns)[i * 2 + 1]? = some (.int .i64 x.2)
  | [], i, x, h => by simp at h
  | y :: ys, 0, x, h => by
    simp at h; subst h; exact ⟨rfl, rfl⟩
  | y :: ys, i + 1, x, h => by
    have := pairCells_at ys i x (by simpa using h)
    have e : (i + 1) * 2 = i * 2 + 1 + 1 := by omega
    rw [e]
    simp only [pairCells, List.getElem?_cons_succ]
    exact this
theorem pairCells_app : ∀ (a b : List (Int × Int)), pairCells (a ++ b) = pairCells a ++ pairCells b
  | [], b => rfl
  | x :: a, b => by simp only [List.cons_append, pairCells, pairCells_app a b]
theorem pairs_news {W : World} {B : Nat} {ad : Addr} {ns : List (Int × Int)} (h : PairsAt W B (some ad) ns) : ∀ j u, (pairCells ns)[j]? = some u → W.cell? (ad.add j) = some u := by
  intro j u hj
  have hlt := (List.getElem?_eq_some_iff.1 hj).1
  rw [pairCells_len] at hlt
  have hi : j / 2 < ns.length := by omega
  obtain ⟨b', off', e, _, c1, c2⟩ := h.at_ (List.getElem?_eq_getElem hi)
  cases e
  obtain ⟨d1, d2⟩ := pairCells_at ns _ _ (List.getElem?_eq_getElem hi)
  have : j = j / 2 * 2 ∨ j = j / 2 * 2 + 1 := by omega
  rcases this with e | e
  · rw [e] at hj ⊢; rw [d1] at hj; cases hj; rw [addr_add]; exact c1
  · rw [e] at hj ⊢; rw [d2] at hj; cases hj; rw [addr_add]; exact c2
/-- The slice v owns the pairs. -/
def OwnsP (W : World) (t : TypeId) (base : Nat) (v : Value) (ns : List (Int × Int)) : Prop := W.ownsRow base t 2 v ns.length (pairCells ns)
theorem OwnsP.lay {W : World} {t : TypeId} {base : Nat} {v : Value} {ns : List (Int × Int)} (h : OwnsP W t base v ns) : ∃ A c, v = .slice A ns.length c ∧ (A = none → c = 0 ∧ ns = []) ∧ PairsAt W W.heap.size A ns := by
  rcases h.2 with ⟨rfl, h0⟩ | ⟨g, cap, cur, rfl, hb, hg, h4, h5, h6, h7⟩
  · have : ns = [] := List.length_eq_zero_iff.1 h0
    exact ⟨none, 0, by rw [h0], fun _ => ⟨rfl, this⟩, .inl this⟩
  · refine ⟨some ⟨g, 0, none⟩, cap, rfl, fun h => (by cases h), .inr ⟨g, 0, rfl, (Array.getElem?_eq_some_iff.1 hg).1, fun i x hx => ?_⟩⟩
    obtain ⟨d1, d2⟩ := pairCells_at ns i x hx
    have c1 := World.ownsRow.cells h (g := g) rfl _ _ d1
    have c2 := World.ownsRow.cells h (g := g) rfl _ _ d2
    rw [addr_add] at c1 c2
    exact ⟨c1, c2⟩
theorem OwnsP.below_ {W W' : World} {t : TypeId} {base n : Nat} {v : Value} {l : List (Int × Int)} (h : OwnsP W t base v l) (hb : Below n W W') (hn : W.heap.size ≤ n) : OwnsP W' t base v l := by
  refine ⟨h.1, ?_⟩
  rcases h.2 with h2 | ⟨g, cap, cur, e, hb2, hg, h4⟩
  · exact .inl h2
  · exact .inr ⟨g, cap, cur, e, hb2, (hb.block g (Nat.lt_of_lt_of_le (Array.getElem?_eq_some_iff.1 hg).1 hn)).trans hg, h4⟩
/-- 'append(out, xs...)', pairs. -/
theorem wpl_copyP2 {ops : Array Oper} {rest : List Oper} {o : Oper} {a : Act} {w : World} {Q : Exit → Act → World → Prop} (hgd : o.guard = none) (s x : Operand) (st et : TypeId) {it : TypeInfo}
    (hst : Try.prog.underlying st = some (.slice et)) (hi : Try.prog.info? et = some it) (hz0 : it.zero = some (.agg #[.int .i64 0, .int .i64 0])) (hz1 : it.size = 2) (hz2 : it.bytes = 16)
    (ho : o.op = .call { callee := .builtin .append, args := #[s, x], argTypes := #[st, st] }) (n₀ : Nat) (v : Value) (l0 : List (Int × Int)) (hs : a.eval s = v) (hown : OwnsP w et n₀ v l0)
    (A : Option Addr) (c : Nat) (ns : List (Int × Int)) (hA : A = none → c = 0 ∧ ns = []) (hx : a.eval x = .slice A ns.length c) (hN : PairsAt w w.heap.size A ns) (hl0 : l0.length ≤ 1000) (hl : ns.length ≤ 1000) (hn : n₀ ≤ w.heap.size)
    (h : ∀ v' w', OwnsP w' et n₀ v' (l0 ++ ns) → Below n₀ w w' → wpList Try.prog ops Q rest (a.put o.dst v') w') : wpList Try.prog ops Q (o :: rest) a w := by
  cases A with
  | none =>
    obtain ⟨rfl, rfl⟩ := hA rfl
    refine wpList_append_own_none hgd s x st ho n₀ et it 2 hst hi v l0.length _ hs hown hx (h v w ?_ (Below.refl _ _))
    rw [List.append_nil]; exact hown
  | some ad =>
    refine wpList_append_own w hgd s x st ho n₀ et it _ 2 16 hst hi hz0 hz1 hz2 rfl (by decide) v l0.length _ hs hown ad ns.length c (pairCells ns) hx (pairCells_len ns) (pairs_news hN) (pairCells_one ns) ?_ ?_ hn ?_
    · unfold maxLen; omega
    · omega
    · intro v' w' h2 h3 _
      refine h v' w' ?_ (own_below hown h3 hn (Nat.le_refl _))
      unfold OwnsP
      rw [List.length_append, pairCells_app]
      exact h2
theorem ownsP_made (w : World) (t : TypeId) (n₀ : Nat) (hn : n₀ ≤ w.heap.size) : OwnsP (w.alloc (.cells #[] t)) t n₀ (.slice (some ⟨w.heap.size, 0, none⟩) 0 0) [] :=
  World.ownsRow_made w #[] 0 hn (by unfold maxLen; omega) rfl

/-! Lists of lists. -/
/-- The slice at A holds the lists; each lies in a block from lo on. -/
def RowsIn (W : World) (lo hi : Nat) (A : Option Addr) (rs : List (List Int)) : Prop :=
  rs = [] ∨ ∃ b off, A = some ⟨b, off, none⟩ ∧ lo ≤ b ∧ b < hi ∧ ∀ i r, rs[i]? = some r → ∃ A' c', W.cell? ⟨b, off + i, none⟩ = some (.slice A' r.length c') ∧ (A' = none → c' = 0 ∧ r = []) ∧ IntsIn W lo hi A' r
theorem RowsIn.keep {W W' : World} {lo hi lo' hi' : Nat} {A : Option Addr} {l : List (List Int)} (h : RowsIn W lo hi A l) (h1 : lo' ≤ lo) (h2 : hi ≤ hi') (hk : ∀ b o, lo ≤ b → b < hi → W'.cell? ⟨b, o, none⟩ = W.cell? ⟨b, o, none⟩) : RowsIn W' lo' hi' A l := by
  rcases h with h | ⟨b, off, e, h3, h4, h5⟩
  · exact .inl h
  · refine .inr ⟨b, off, e, by omega, by omega, fun i x hx => ?_⟩
    obtain ⟨A', c', g1, g2, g3⟩ := h5 i x hx
    exact ⟨A', c', by rw [hk _ _ h3 h4]; exact g1, g2, g3.keep h1 h2 hk⟩
theorem RowsIn.below {W W' : World} {lo hi n : Nat} {A : Option Addr} {l : List (List Int)} (h : RowsIn W lo hi A l) (hb : Below n W W') (hn : hi ≤ n) : RowsIn W' lo hi A l :=
  h.keep (Nat.le_refl _) (Nat.le_refl _) fun b o _ hlt => hb.cell (p := ⟨b, o, none⟩) (by show b < n; omega)
theorem RowsIn.at_ {W : World} {lo hi : Nat} {A : Option Addr} {rs : List (List Int)} (h : RowsIn W lo hi A rs) {k : Nat} {r : List Int} (hr : rs[k]? = some r) : ∃ b off A' c', A = some ⟨b, off, none⟩ ∧ b < hi ∧ W.cell? ⟨b, off + k, none⟩ = some (.slice A' r.length c') ∧ (A' = none → c' = 0 ∧ r = []) ∧ IntsIn W lo hi A' r := by
  rcases h with h | ⟨b, off, e, h3, h4, h5⟩
  · subst h; simp at hr
  · obtain ⟨A', c', g1, g2, g3⟩ := h5 k r hr
    exact ⟨b, off, A', c', e, h4, g1, g2, g3⟩
/-- The cells of a slice of lists. -/
def RowV (W : World) (lo hi : Nat) (no : Option Nat) (u : Value) (r : List Int) : Prop := ∃ A' c', u = .slice A' r.length c' ∧ (A' = none → c' = 0 ∧ r = []) ∧ (r = [] ∨ ∃ b off, A' = some ⟨b, off, none⟩ ∧ lo ≤ b ∧ b < hi ∧ some b ≠ no ∧ ∀ i x, r[i]? = some x → W.cell? ⟨b, off + i, none⟩ = some (.int .i64 x))
/-- The slice v owns a row of lists, each of which lies elsewhere, in a block from lo on. -/
def OwnsR (W : World) (lo base : Nat) (v : Value) (rs : List (List Int)) : Prop :=
  ∃ vs : List Value, W.ownsRow base 25 1 v rs.length vs ∧ ∀ (i : Nat) (r : List Int), rs[i]? = some r → ∃ u, vs[i]? = some u ∧ RowV W lo W.heap.size v.ownBlock u r
theorem OwnsR.lay {W : World} {lo base : Nat} {v : Value} {rs : List (List Int)} (h : OwnsR W lo base v rs) (hlo : lo ≤ base) : ∃ A c, v = .slice A rs.length c ∧ (A = none → c = 0 ∧ rs = []) ∧ RowsIn W lo W.heap.size A rs := by
  obtain ⟨vs, h, hv⟩ := h
  have hh := h
  rcases hh.2 with ⟨rfl, h0⟩ | ⟨g, cap, cur, rfl, hb, hg, h4, h5, h6, h7⟩
  · have : rs = [] := List.length_eq_zero_iff.1 h0
    exact ⟨none, 0, by rw [h0], fun _ => ⟨rfl, this⟩, .inl this⟩
  · refine ⟨some ⟨g, 0, none⟩, cap, rfl, fun h => (by cases h), .inr ⟨g, 0, rfl, by omega, (Array.getElem?_eq_some_iff.1 hg).1, fun i r hr => ?_⟩⟩
    obtain ⟨u, hu, A', c', rfl, hA', hr'⟩ := hv i r hr
    have hc := World.ownsRow.cells h (g := g) rfl i _ hu
    rw [addr_add] at hc
    refine ⟨A', c', hc, hA', ?_⟩
    rcases hr' with hr' | ⟨b, off, e, q1, q2, q3, q4⟩
    · exact .inl hr'
    · exact .inr ⟨b, off, e, q1, q2, q4⟩
theorem OwnsR.below_ {W W' : World} {lo base n : Nat} {v : Value} {l : List (List Int)} (h : OwnsR W lo base v l) (hb : Below n W W') (hn : W.heap.size ≤ n) : OwnsR W' lo base v l := by
  obtain ⟨vs, h, hv⟩ := h
  refine ⟨vs, ⟨h.1, ?_⟩, fun i r hr => ?_⟩
  · rcases h.2 with h2 | ⟨g, cap, cur, e, hb2, hg, h4⟩
    · exact .inl h2
    · exact .inr ⟨g, cap, cur, e, hb2, (hb.block g (Nat.lt_of_lt_of_le (Array.getElem?_eq_some_iff.1 hg).1 hn)).trans hg, h4⟩
  · obtain ⟨u, hu, A', c', rfl, hA', hr'⟩ := hv i r hr
    refine ⟨_, hu, A', c', rfl, hA', ?_⟩
    rcases hr' with hr' | ⟨b, off, e, q1, q2, q3, q4⟩
    · exact .inl hr'
    · exact .inr ⟨b, off, e, q1, Nat.lt_of_lt_of_le q2 hb.size, q3, fun i x hx => (hb.cell (p := ⟨b, off + i, none⟩) (Nat.lt_of_lt_of_le q2 hn)).trans (q4 i x hx)⟩
theorem OwnsR.alloc {W : World} {lo base : Nat} {v : Value} {l : List (List Int)} (h : OwnsR W lo base v l) (o : Obj) : OwnsR (W.alloc o) lo base v l := h.below_ ((Below.refl _ W).alloc (Nat.le_refl _) o) (Nat.le_refl _)
open Go.RowKit

end Go.Proofs.Ytmbcpmnigggbaaa.Sa
