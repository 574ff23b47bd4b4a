import Derived.Test.YtmbcpmnigggbaaaGreatE2
import Derived.Laws.EntriesVeiled
import Derived.Deep.RegionHeld3
import Derived.Deep.QuietTactic
import Derived.ArgAppend
import Derived.Test.YtmbcpmnigggbaaaGreatUF
import Derived.Outline
import Derived.WalkMore
namespace Go.Proofs.YtmbcpmnigggbaaaGreat
open Go.RowKit

/-! A law of an iterator that makes memory; words on blocks. -/
theorem set_other_heap {W : World} {b o k : Nat} {u : Value} (hk : k < W.heap.size) (hne : k ≠ b) : (W.setCell ⟨b, o, none⟩ u).heap[k]? = W.heap[k]? := ((KpB.refl (fun k => k = b) W.heap.size W).set o u (.inl rfl)).block k hk hne
theorem al_below (W : World) (o : Obj) : Below W.heap.size W (W.alloc o) := (Below.refl _ W).alloc (Nat.le_refl _) o
theorem cell_of_heap {W : World} {b o : Nat} {arr : Array Value} {t : TypeId} {v : Value} (h : W.heap[b]? = some (.cells arr t (0, 0))) (hv : arr[o]? = some v) : W.cell? ⟨b, o, none⟩ = some v := by
  unfold World.cell?
  simp only [h]
  exact hv
theorem frozen_of_heap {W : World} {b : Nat} {arr : Array Value} {t : TypeId} (h : W.heap[b]? = some (.cells arr t (0, 0))) (o : Nat) : W.frozen? ⟨b, o, none⟩ = false := by
  unfold World.frozen?
  simp only [h]
  simp
theorem heap_keep {W : World} {b : Nat} {o o' : Obj} (h : W.heap[b]? = some o) : (W.alloc o').heap[b]? = some o := (Below.heap_alloc _ _ _ (heap_lt h)).trans h
theorem heap_new1 (W : World) (o : Obj) : (W.alloc o).heap[W.heap.size]? = some o := World.alloc_heap_new W o
theorem heap_new2 (W : World) (o1 o2 : Obj) : ((W.alloc o1).alloc o2).heap[W.heap.size + 1]? = some o2 := by
  have := World.alloc_heap_new (W.alloc o1) o2; rwa [World.size_alloc] at this
theorem heap_new3 (W : World) (o1 o2 o3 : Obj) : (((W.alloc o1).alloc o2).alloc o3).heap[W.heap.size + 1 + 1]? = some o3 := by
  have := World.alloc_heap_new ((W.alloc o1).alloc o2) o3; rwa [World.size_alloc, World.size_alloc] at this
/-- **AN ITERATOR THAT MAKES MEMORY AND WRITES NOTHING ELDER, WHOSE YIELDS CAN BE SEEN**: 'Sees B x args X' tells what it hands over at a yield, and how that lies in memory (from B on). S: what the round may write of what lay in w₀. -/
def SeqMakes {α : Type} (F : Fence) (n : Nat) (P : Program) (g : Nat) (fb lb : Array Value) (S : Nat → Prop) (Sees : Nat → α → Array Value → World → Prop) (xs : List α) (w₀ : World) : Prop :=
  ∀ (l : Nat) (J Jx : List α → World → Prop) (W : World), Below w₀.heap.size w₀ W →
    (∀ s X Y, W.heap.size ≤ X.heap.size → J s X → Below X.heap.size X Y → J s Y) →
    (∀ s X Y, W.heap.size ≤ X.heap.size → Jx s X → Below X.heap.size X Y → Jx s Y) →
    (∀ pre x args X, W.heap.size ≤ X.heap.size → J pre X → Sees W.heap.size x args X → pre ++ [x] <+: xs →
      YieldAt F (n - 1) P l args X fun e X' => KpB (fun k => S k ∨ Seg w₀.heap.size W.heap.size k) X.heap.size X X' ∧
        ((e = .returned (.bool true) ∧ J (pre ++ [x]) X') ∨ (e = .returned (.bool false) ∧ Jx (pre ++ [x]) X'))) →
    J [] W →
    CallsIn F n P g (fb ++ #[.func (.yield l) #[] #[]] ++ lb) W fun e W' => (∃ v, e = .returned v) ∧ W.heap.size ≤ W'.heap.size ∧ (J xs W' ∨ ∃ pre, pre <+: xs ∧ Jx pre W')

/-- How the body of a round may be left. -/
def makesPost {α : Type} (S : Nat → Prop) (I : List α → World → Prop) (Ix : Code → List α → World → Prop) (xs : List α) (X : World) : Exit → Act → World → Prop
  | .normal, _, X' => KpB S X.heap.size X X' ∧ I xs X'
  | .ret, _, X' => KpB S X.heap.size X X' ∧ Ix .ret xs X'
  | .exit id, _, X' => KpB S X.heap.size X X' ∧ Ix (.exit id) xs X'
  | .goto t, _, X' => KpB S X.heap.size X X' ∧ Ix (.goto t) xs X'
  | .panic _, _, _ => False
  | .outgrown, _, _ => False

variable {F : Fence} {n : Nat} {P : Program}

theorem wpIn_rangeFunc_makes {α : Type} {g : Operand} {ps : Array Tmp} {assign body : Code} {Q : Exit → Act → World → Prop} {a : Act} {w : World}
    (hro : F.round = none) (h1 : 1 ≤ n) {gf : Nat} {fb lb : Array Value} (hg : a.eval g = .func (.func gf) fb lb) (hFg : F.fn gf) (eg : ∀ args w, (callFunc gf args).run P w = .ok (.enter gf args) w)
    {S : Nat → Prop} {Sees : Nat → α → Array Value → World → Prop} {xs : List α} {w0 : World} (hseq : SeqMakes F (n - 1) P gf fb lb S Sees xs w0) (hb0 : Below w0.heap.size w0 w) (hS : ∀ k, S k → k < w.heap.size)
    (hps : ∀ B x args X, Sees B x args X → args.size = ps.size)
    (hSees : ∀ B x args X Y, B ≤ X.heap.size → Sees B x args X → KpB (fun k => k < B) X.heap.size X Y → Sees B x args Y)
    (I : List α → World → Prop) (Ix : Code → List α → World → Prop)
    (hI : ∀ s X Y, w.heap.size + 2 ≤ X.heap.size → I s X → KpB (Seg w.heap.size (w.heap.size + 2)) X.heap.size X Y → I s Y)
    (hIx : ∀ c s X Y, w.heap.size + 2 ≤ X.heap.size → Ix c s X → KpB (Seg w.heap.size (w.heap.size + 2)) X.heap.size X Y → Ix c s Y)
    (h0 : ∀ X, w.heap.size + 2 ≤ X.heap.size → Below w.heap.size w X → I [] X)
    (Ax : α → Array Value → Act → World → Prop) (hAx : ∀ x args a' X Y, w.heap.size + 2 ≤ X.heap.size → Ax x args a' X → KpB (fun k => k < w.heap.size + 2) X.heap.size X Y → Ax x args a' Y)
    (hassign : ∀ (l : Nat) (x : α) (args : Array Value) (X : World) (K : Act → World → Prop), w.heap.size + 2 ≤ X.heap.size → Sees (w.heap.size + 2) x args X → (∀ a' X', (X' = X ∨ ∃ o, X' = X.alloc o) → Ax x args a' X' → K a' X') →
      assign.wpIn (F.inRound l) (n - 1 - 1) P (Exit.then K (fun _ _ _ => False)) { tmps := (ps.zip args).foldl (fun t (p, v) => t.setIfInBounds p v) a.tmps, defers := [] } X)
    (hbody : ∀ (l : Nat) (pre : List α) (x : α) (args : Array Value) (a' : Act) (X : World), w.heap.size + 2 ≤ X.heap.size → pre ++ [x] <+: xs → I pre X → Sees (w.heap.size + 2) x args X → Ax x args a' X →
      body.wpIn (F.inRound l) (n - 1 - 1) P (makesPost S I Ix (pre ++ [x]) X) a' X)
    (hdone : ∀ (X : World), w.heap.size + 2 ≤ X.heap.size → I xs X → X.heap[w.heap.size]? = some (.deferred (some [])) → Q .normal { a with defers := { target := .collected w.heap.size, args := #[] } :: a.defers } X)
    (hstop : ∀ (c : Code) (pre : List α) (X : World), w.heap.size + 2 ≤ X.heap.size → pre <+: xs → Ix c pre X → X.heap[w.heap.size]? = some (.deferred (some [])) →
      c.wpIn F n P Q { a with defers := { target := .collected w.heap.size, args := #[] } :: a.defers } X) :
    (Code.rangeFunc g ps assign body).wpIn F n P Q a w := by
  refine wpIn_rangeFunc ?_
  intro fn hfn
  rw [hro]
  obtain ⟨rec, hrec⟩ : ∃ rec : LoopState → Option Code → Loop, rec = fun st pe => { state := st, pending := pe, fn, tmps := a.tmps, params := ps, assign, body, defers := w.heap.size } := ⟨_, rfl⟩
  obtain ⟨W1, hW1⟩ : ∃ W1, (w.alloc (.deferred (some []))).alloc (.loop (rec .ready none)) = W1 := ⟨_, rfl⟩
  have hL1 : W1.heap[w.heap.size + 1]? = some (.loop (rec .ready none)) := by
    rw [← hW1]; have := World.alloc_heap_new (w.alloc (.deferred (some []))) (.loop (rec .ready none)); rwa [World.size_alloc] at this
  have hK1 : W1.heap[w.heap.size]? = some (.deferred (some [])) := by
    rw [← hW1]; exact (Below.heap_alloc _ _ _ (by simp)).trans (World.alloc_heap_new w _)
  have hb1w : Below w.heap.size w W1 := by
    rw [← hW1]; exact ((Below.refl _ w).alloc (Nat.le_refl _) _).alloc (by simp) _
  have hb1 : Below w0.heap.size w0 W1 := hb0.trans (hb1w.mono hb0.size)
  have hz1 : W1.heap.size = w.heap.size + 2 := by rw [← hW1]; simp
  refine ⟨w.heap.size + 1, [{ target := .collected w.heap.size, args := #[] }], W1, { target := .fn (.func gf) lb, args := fb ++ #[.func (.yield (w.heap.size + 1)) #[] #[]] }, W1, gf,
    fb ++ #[.func (.yield (w.heap.size + 1)) #[] #[]] ++ lb, W1, ?_, ?_, ?_, ?_, fun _ => h1, ?_⟩
  · rw [← hW1, hrec]; exact run_enterLoop_outer _ _ _ _ _
  · simp only [resolve, hg]
    simp [go_sem, Deferred.ofValue]
  · intro f' hf'; simp [Target.leads] at hf'; subst hf'; exact hFg
  · simp [invoke, go_sem, eg]
  · have hbk : ∀ {X Y : World}, Below X.heap.size X Y → KpB (Seg w.heap.size (w.heap.size + 2)) X.heap.size X Y := fun h => kpB_of_below h
    refine (hseq (w.heap.size + 1)
      (fun pre X => I pre X ∧ X.heap[w.heap.size + 1]? = some (.loop (rec .ready none)) ∧ X.heap[w.heap.size]? = some (.deferred (some [])))
      (fun pre X => ∃ c, Ix c pre X ∧ X.heap[w.heap.size + 1]? = some (.loop (rec .done (some c))) ∧ X.heap[w.heap.size]? = some (.deferred (some [])))
      W1 hb1
      (fun s X Y hX hs hk => ⟨hI s X Y (by omega) hs.1 (hbk hk), (hk.block _ (by omega)).trans hs.2.1, (hk.block _ (by omega)).trans hs.2.2⟩)
      (fun s X Y hX hs hk => by
        obtain ⟨c, hc, hl, hkk⟩ := hs
        exact ⟨c, hIx c s X Y (by omega) hc (hbk hk), (hk.block _ (by omega)).trans hl, (hk.block _ (by omega)).trans hkk⟩)
      ?_ ⟨h0 _ (by omega) hb1w, hL1, hK1⟩).mono ?_
    · -- one round
      rintro pre x args X hX ⟨hi, hl, hk⟩ hsee hpre
      rw [hz1] at hsee
      have hy := run_yield (P := P) (args := args) hl (by rw [hrec]; exact hps _ x args X hsee)
      rw [hrec] at hy
      refine ⟨fn, _, assign, body, hy, roundIn_of_wpIn hfn (hassign _ x args X _ (by omega) hsee ?_)⟩
      clear hy
      intro a' Xa hXa hax
      have hka : KpB (fun _ => False) X.heap.size X Xa := by
        rcases hXa with rfl | ⟨o, rfl⟩
        · exact KpB.refl _ _ _
        · exact (KpB.refl _ _ _).alloc _ (Nat.le_refl _)
      have hza : X.heap.size ≤ Xa.heap.size := hka.size
      have hla : Xa.heap[w.heap.size + 1]? = some (.loop (rec .ready none)) := (hka.block _ (by omega) (fun h => h)).trans hl
      have hkka : Xa.heap[w.heap.size]? = some (.deferred (some [])) := (hka.block _ (by omega) (fun h => h)).trans hk
      have hia : I pre Xa := hI pre X Xa (by omega) hi (hka.mono (Nat.le_refl _) fun _ _ h => h.elim)
      have hseea : Sees (w.heap.size + 2) x args Xa := hSees _ _ _ _ _ (by omega) hsee (hka.mono (Nat.le_refl _) fun _ _ h => h.elim)
      refine ⟨_, run_beginRound hla (by rw [hrec]), ?_⟩
      obtain ⟨Xb, hXb⟩ : ∃ Xb, Xa.putObj (w.heap.size + 1) (.loop { rec .ready none with state := .busy }) = Xb := ⟨_, rfl⟩
      have hlb : Xb.heap[w.heap.size + 1]? = some (.loop { rec .ready none with state := .busy }) := by rw [← hXb]; exact World.putObj_heap_same (by omega)
      have hkb : Xb.heap[w.heap.size]? = some (.deferred (some [])) := by rw [← hXb]; exact (World.putObj_heap_other (by omega)).trans hkka
      have hzb : Xb.heap.size = Xa.heap.size := by rw [← hXb]; simp
      have hab : KpB (fun k => k = w.heap.size + 1) Xa.heap.size Xa Xb := by rw [← hXb]; exact (KpB.refl _ _ _).put _ _ (.inl rfl)
      rw [hXb]
      have hib : I pre Xb := hI pre Xa Xb (by omega) hia (hab.mono (Nat.le_refl _) fun k _ h => ⟨by omega, by omega⟩)
      have hseeb : Sees (w.heap.size + 2) x args Xb := hSees _ _ _ _ _ (by omega) hseea (hab.mono (Nat.le_refl _) fun k _ h => (by have h' : k = w.heap.size + 1 := h; omega : k < w.heap.size + 2))
      have haxb : Ax x args a' Xb := hAx _ _ _ _ _ (by omega) hax (hab.mono (Nat.le_refl _) fun k _ h => (by have h' : k = w.heap.size + 1 := h; omega : k < w.heap.size + 2))
      refine wpIn_mono (hbody _ pre x args a' Xb (by omega) hpre hib hseeb haxb) ?_
      have hS' : ∀ {X3}, KpB S Xb.heap.size Xb X3 → ∀ (o : Obj), KpB (fun k => S k ∨ Seg w0.heap.size W1.heap.size k) X.heap.size X (X3.putObj (w.heap.size + 1) o) := fun {X3} h3 o => by
        have hw0 := hb0.size
        have hl' : Seg w0.heap.size W1.heap.size (w.heap.size + 1) := ⟨by omega, by omega⟩
        have k1 : KpB (fun k => S k ∨ Seg w0.heap.size W1.heap.size k) X.heap.size X Xa := hka.mono (by omega) fun _ _ h => h.elim
        have k2 : KpB (fun k => S k ∨ Seg w0.heap.size W1.heap.size k) X.heap.size Xa Xb := hab.mono (by omega) fun k _ h => by have h' : k = w.heap.size + 1 := h; subst h'; exact .inr hl'
        have k3 : KpB (fun k => S k ∨ Seg w0.heap.size W1.heap.size k) X.heap.size Xb X3 := h3.mono (by omega) fun _ _ h => .inl h
        exact ((k1.trans k2).trans k3).put _ _ (.inl (.inr hl'))
      have fin : ∀ (jump : Option Code) (X3 : World), KpB S Xb.heap.size Xb X3 →
          (Instr.endRound (w.heap.size + 1) jump).run P X3 = .ok (.bool jump.isNone) (X3.putObj (w.heap.size + 1) (.loop (rec (if jump.isNone then .ready else .done) jump))) ∧
          w.heap.size + 2 ≤ X3.heap.size ∧
          (X3.putObj (w.heap.size + 1) (.loop (rec (if jump.isNone then .ready else .done) jump))).heap[w.heap.size + 1]? = some (.loop (rec (if jump.isNone then .ready else .done) jump)) ∧
          (X3.putObj (w.heap.size + 1) (.loop (rec (if jump.isNone then .ready else .done) jump))).heap[w.heap.size]? = some (.deferred (some [])) ∧
          KpB (Seg w.heap.size (w.heap.size + 2)) X3.heap.size X3 (X3.putObj (w.heap.size + 1) (.loop (rec (if jump.isNone then .ready else .done) jump))) := fun jump X3 hk3 => by
        have hns : ¬ S (w.heap.size + 1) := fun h => by have := hS _ h; omega
        have hns' : ¬ S w.heap.size := fun h => by have := hS _ h; omega
        have hl3 := (hk3.block _ (by omega) hns).trans hlb
        have hk3' := (hk3.block _ (by omega) hns').trans hkb
        have hz3 := hk3.size
        have := run_endRound (P := P) jump hl3
        rw [hrec] at this ⊢
        exact ⟨this, by omega, World.putObj_heap_same (by omega), (World.putObj_heap_other (by omega)).trans hk3', (KpB.refl _ _ _).put _ _ (.inl ⟨by omega, by omega⟩)⟩
      rintro e a3 X3 hp
      cases e with
      | normal =>
        obtain ⟨hk3, hi3⟩ := hp
        obtain ⟨hr, hz3, hl4, hk4, hs4⟩ := fin none X3 hk3
        exact ⟨_, _, hr, hS' hk3 _, .inl ⟨rfl, hI _ _ _ hz3 hi3 hs4, hl4, hk4⟩⟩
      | ret =>
        obtain ⟨hk3, hi3⟩ := hp
        obtain ⟨hr, hz3, hl4, hk4, hs4⟩ := fin (some .ret) X3 hk3
        exact ⟨_, _, hr, hS' hk3 _, .inr ⟨rfl, .ret, hIx _ _ _ _ hz3 hi3 hs4, hl4, hk4⟩⟩
      | exit id =>
        obtain ⟨hk3, hi3⟩ := hp
        obtain ⟨hr, hz3, hl4, hk4, hs4⟩ := fin (some (.exit id)) X3 hk3
        exact ⟨_, _, hr, hS' hk3 _, .inr ⟨rfl, .exit id, hIx _ _ _ _ hz3 hi3 hs4, hl4, hk4⟩⟩
      | goto t =>
        obtain ⟨hk3, hi3⟩ := hp
        obtain ⟨hr, hz3, hl4, hk4, hs4⟩ := fin (some (.goto t)) X3 hk3
        exact ⟨_, _, hr, hS' hk3 _, .inr ⟨rfl, .goto t, hIx _ _ _ _ hz3 hi3 hs4, hl4, hk4⟩⟩
      | panic ch => exact hp.elim
      | outgrown => exact hp.elim
    · -- behind the iterator
      rintro e W2 ⟨⟨v, rfl⟩, hD2, (⟨hi, hl, hk⟩ | ⟨pre, hpre, c, hi, hl, hk⟩)⟩
      · refine ⟨none, _, by have := run_endLoop (P := P) hl (by rw [hrec]; simp); rw [hrec] at this; exact this, hdone _ (by simp; omega) (hI _ _ _ (by omega) hi ((KpB.refl _ _ _).put _ _ (.inl ⟨by omega, by omega⟩))) ((World.putObj_heap_other (by omega)).trans hk)⟩
      · refine ⟨some c, _, by have := run_endLoop (P := P) hl (by rw [hrec]; simp); rw [hrec] at this; exact this, hstop c pre _ (by simp; omega) hpre (hIx _ _ _ _ (by omega) hi ((KpB.refl _ _ _).put _ _ (.inl ⟨by omega, by omega⟩))) ((World.putObj_heap_other (by omega)).trans hk)⟩
end Go.Proofs.YtmbcpmnigggbaaaGreat
