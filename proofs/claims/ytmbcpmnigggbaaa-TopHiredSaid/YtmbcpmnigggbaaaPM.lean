import Derived.Test.YtmbcpmnigggbaaaE2
import Derived.Laws.EntriesVeiled
import Derived.Deep.RegionHeld3
import Derived.Deep.QuietTactic
import Derived.ArgAppend
import Derived.Test.YtmbcpmnigggbaaaUF
import Derived.Outline
import Derived.WalkMore
import Derived.Test.YtmbcpmnigggbaaaPL
namespace Go.Proofs.Ytmbcpmnigggbaaa
open Go.RowKit

/-! A law of an iterator that makes memory; words on blocks. -/
theorem set_other_heap {W : World} {b o k : Nat} {u : Value} (hk : k < W.heap.size) (hne : k ≠ b) : (W.setCell ⟨b, o, none⟩ u).heap[k]? = W.heap[k]? := ((KpB.refl (fun k => k = b) W.heap.size W).set o u (.inl rfl)).block k hk hne
theorem al_below (W : World) (o : Obj) : Below W.heap.size W (W.alloc o) := (Below.refl _ W).alloc (Nat.le_refl _) o
theorem cell_of_heap {W : World} {b o : Nat} {arr : Array Value} {t : TypeId} {v : Value} (h : W.heap[b]? = some (.cells arr t (0, 0))) (hv : arr[o]? = some v) : W.cell? ⟨b, o, none⟩ = some v := by
  unfold World.cell?
  simp only [h]
  exact hv
theorem frozen_of_heap {W : World} {b : Nat} {arr : Array Value} {t : TypeId} (h : W.heap[b]? = some (.cells arr t (0, 0))) (o : Nat) : W.frozen? ⟨b, o, none⟩ = false := by
  unfold World.frozen?
  simp only [h]
  simp
theorem heap_keep {W : World} {b : Nat} {o o' : Obj} (h : W.heap[b]? = some o) : (W.alloc o').heap[b]? = some o := (Below.heap_alloc _ _ _ (heap_lt h)).trans h
theorem heap_new1 (W : World) (o : Obj) : (W.alloc o).heap[W.heap.size]? = some o := World.alloc_heap_new W o
theorem heap_new2 (W : World) (o1 o2 : Obj) : ((W.alloc o1).alloc o2).heap[W.heap.size + 1]? = some o2 := by
  have := World.alloc_heap_new (W.alloc o1) o2; rwa [World.size_alloc] at this
theorem heap_new3 (W : World) (o1 o2 o3 : Obj) : (((W.alloc o1).alloc o2).alloc o3).heap[W.heap.size + 1 + 1]? = some o3 := by
  have := World.alloc_heap_new ((W.alloc o1).alloc o2) o3; rwa [World.size_alloc, World.size_alloc] at this
/-- **AN ITERATOR THAT MAKES MEMORY AND WRITES NOTHING ELDER, WHOSE YIELDS CAN BE SEEN**: 'Sees B x args X' tells what it hands over at a yield, and how that lies in memory (from B on). S: what the round may write of what lay in w₀. -/
def SeqMakes {α : Type} (F : Fence) (n : Nat) (P : Program) (g : Nat) (fb lb : Array Value) (S : Nat → Prop) (Sees : Nat → α → Array Value → World → Prop) (xs : List α) (w₀ : World) : Prop :=
  ∀ (l : Nat) (J Jx : List α → World → Prop) (W : World), Below w₀.heap.size w₀ W →
    (∀ s X Y, W.heap.size ≤ X.heap.size → J s X → Below X.heap.size X Y → J s Y) →
    (∀ s X Y, W.heap.size ≤ X.heap.size → Jx s X → Below X.heap.size X Y → Jx s Y) →
    (∀ pre x args X, W.heap.size ≤ X.heap.size → J pre X → Sees W.heap.size x args X → pre ++ [x] <+: xs →
      YieldAt F (n - 1) P l args X fun e X' => KpB (fun k => S k ∨ Seg w₀.heap.size W.heap.size k) X.heap.size X X' ∧
        ((e = .returned (.bool true) ∧ J (pre ++ [x]) X') ∨ (e = .returned (.bool false) ∧ Jx (pre ++ [x]) X'))) →
    J [] W →
    CallsIn F n P g (fb ++ #[.func (.yield l) #[] #[]] ++ lb) W fun e W' => (∃ v, e = .returned v) ∧ W.heap.size ≤ W'.heap.size ∧ (J xs W' ∨ ∃ pre, pre <+: xs ∧ Jx pre W')

/-- How the body of a round may be left. -/
def makesPost {α : Type} (S : Nat → Prop) (I : List α → World → Prop) (Ix : Code → List α → World → Prop) (xs : List α) (X : World) : Exit → Act → World → Prop
  | .normal, _, X' => KpB S X.heap.size X X' ∧ I xs X'
  | .ret, _, X' => KpB S X.heap.size X X' ∧ Ix .ret xs X'
  | .exit id, _, X' => KpB S X.heap.size X X' ∧ Ix (.exit id) xs X'
  | .goto t, _, X' => KpB S X.heap.size X X' ∧ Ix (.goto t) xs X'
  | .panic _, _, _ => False
  | .outgrown, _, _ => False

variable {F : Fence} {n : Nat} {P : Program}

theorem wpIn_rangeFunc_makes {α : Type} {g : Operand} {ps : Array Tmp} {assign body : Code} {Q : Exit → Act → World → Prop} {a : Act} {w : World}
    (hro : F.round = none) (h1 : 1 ≤ n) {gf : Nat} {fb lb : Array Value} (hg : a.eval g = .func (.func gf) fb lb) (hFg : F.fn gf) (eg : ∀ args w, (callFunc gf args).run P w = .ok (.enter gf args) w)
    {S : Nat → Prop} {Sees : Nat → α → Array Value → World → Prop} {xs : List α} {w0 : World} (hseq : SeqMakes F (n - 1) P gf fb lb S Sees xs w0) (hb0 : Below w0.heap.size w0 w) (hS : ∀ k, S k → k < w.heap.size)
    (hps : ∀ B x args X, Sees B x args X → args.size = ps.size)
    (hSees : ∀ B x args X Y, B ≤ X.heap.size → Sees B x args X → KpB (fun k => k < B) X.heap.size X Y → Sees B x args Y)
    (I : List α → World → Prop) (Ix : Code → List α → World → Prop)
    (hI : ∀ s X Y, w.heap.size + 2 ≤ X.heap.size → I s X → KpB (Seg w.heap.size (w.heap.size + 2)) X.heap.size X Y → I s Y)
    (hIx : ∀ c s X Y, w.heap.size + 2 ≤ X.heap.size → Ix c s X → KpB (Seg w.heap.size (w.heap.size + 2)) X.heap.size X Y → Ix c s Y)
    (h0 : ∀ X, w.heap.size + 2 ≤ X.heap.size → Below w.heap.size w X → I [] X)
    (Ax : α → Array Value → Act → World → Prop) (hAx : ∀ x args a' X Y, w.heap.size + 2 ≤ X.heap.size → Ax x args a' X → KpB (fun k => k < w.heap.size + 2) X.heap.size X Y → Ax x args a' Y)
    (hassign : ∀ (l : Nat) (x : α) (args : Array Value) (X : World) (K : Act → World → Prop), w.heap.size + 2 ≤ X.heap.size → Sees (w.heap.size + 2) x args X → (∀ a' X', (X' = X ∨ ∃ o, X' = X.alloc o) → Ax x args a' X' → K a' X') →
      assign.wpIn (F.inRound l) (n - 1 - 1) P (Exit.then K (fun _ _ _ => False)) { tmps := (ps.zip args).foldl (fun t (p, v) => t.setIfInBounds p v) a.tmps, defers := [] } X)
    (hbody : ∀ (l : Nat) (pre : List α) (x : α) (args : Array Value) (a' : Act) (X : World), w.heap.size + 2 ≤ X.heap.size → pre ++ [x] <+: xs → I pre X → Sees (w.heap.size + 2) x args X → Ax x args a' X →
      body.wpIn (F.inRound l) (n - 1 - 1) P (makesPost S I Ix (pre ++ [x]) X) a' X)
    (hdone : ∀ (X : World), w.heap.size + 2 ≤ X.heap.size → I xs X → X.heap[w.heap.size]? = some (.deferred (some [])) → Q .normal { a with defers := { target := .collected w.heap.size, args := #[] } :: a.defers } X)
    (hstop : ∀ (c : Code) (pre : List α) (X : World), w.heap.size + 2 ≤ X.heap.size → pre <+: xs → Ix c pre X → X.heap[w.heap.size]? = some (.deferred (some [])) →
      c.wpIn F n P Q { a with defers := { target := .collected w.heap.size, args := #[] } :: a.defers } X) :
    (Code.rangeFunc g ps assign body).wpIn F n P Q a w := by
  refine wpIn_rangeFunc ?_
  intro fn hfn
  rw [hro]
  obtain ⟨rec, hrec⟩ : ∃ rec : LoopState → Option Code → Loop, rec = fun st pe => { state := st, pending := pe, fn, tmps := a.tmps, params := ps, assign, body, defers := w.heap.size } := ⟨_, rfl⟩
  obtain ⟨W1, hW1⟩ : ∃ W1, (w.alloc (.deferred (some []))).alloc (.loop (rec .ready none)) = W1 := ⟨_, rfl⟩
  have hL1 : W1.heap[w.heap.size + 1]? = some (.loop (rec .ready none)) := by
    rw [← hW1]; have := World.alloc_heap_new (w.alloc (.deferred (some []))) (.loop (rec .ready none)); rwa [World.size_alloc] at this
  have hK1 : W1.heap[w.heap.size]? = some (.deferred (some [])) := by
    rw [← hW1]; exact (Below.heap_alloc _ _ _ (by simp)).trans (World.alloc_heap_new w _)
  have hb1w : Below w.heap.size w W1 := by
    rw [← hW1]; exact ((Below.refl _ w).alloc (Nat.le_refl _) _).alloc (by simp) _
  have hb1 : Below w0.heap.size w0 W1 := hb0.trans (hb1w.mono hb0.size)
  have hz1 : W1.heap.size = w.heap.size + 2 := by rw [← hW1]; simp
  refine ⟨w.heap.size + 1, [{ target := .collected w.heap.size, args := #[] }], W1, { target := .fn (.func gf) lb, args := fb ++ #[.func (.yield (w.heap.size + 1)) #[] #[]] }, W1, gf,
    fb ++ #[.func (.yield (w.heap.size + 1)) #[] #[]] ++ lb, W1, ?_, ?_, ?_, ?_, fun _ => h1, ?_⟩
  · rw [← hW1, hrec]; exact run_enterLoop_outer _ _ _ _ _
  · simp only [resolve, hg]
    simp [go_sem, Deferred.ofValue]
  · intro f' hf'; simp [Target.leads] at hf'; subst hf'; exact hFg
  · simp [invoke, go_sem, eg]
  · have hbk : ∀ {X Y : World}, Below X.heap.size X Y → KpB (Seg w.heap.size (w.heap.size + 2)) X.heap.size X Y := fun h => kpB_of_below h
    refine (hseq (w.heap.size + 1)
      (fun pre X => I pre X ∧ X.heap[w.heap.size + 1]? = some (.loop (rec .ready none)) ∧ X.heap[w.heap.size]? = some (.deferred (some [])))
      (fun pre X => ∃ c, Ix c pre X ∧ X.heap[w.heap.size + 1]? = some (.loop (rec .done (some c))) ∧ X.heap[w.heap.size]? = some (.deferred (some [])))
      W1 hb1
      (fun s X Y hX hs hk => ⟨hI s X Y (by omega) hs.1 (hbk hk), (hk.block _ (by omega)).trans hs.2.1, (hk.block _ (by omega)).trans hs.2.2⟩)
      (fun s X Y hX hs hk => by
        obtain ⟨c, hc, hl, hkk⟩ := hs
        exact ⟨c, hIx c s X Y (by omega) hc (hbk hk), (hk.block _ (by omega)).trans hl, (hk.block _ (by omega)).trans hkk⟩)
      ?_ ⟨h0 _ (by omega) hb1w, hL1, hK1⟩).mono ?_
    · -- one round
      rintro pre x args X hX ⟨hi, hl, hk⟩ hsee hpre
      rw [hz1] at hsee
      have hy := run_yield (P := P) (args := args) hl (by rw [hrec]; exact hps _ x args X hsee)
      rw [hrec] at hy
      refine ⟨fn, _, assign, body, hy, roundIn_of_wpIn hfn (hassign _ x args X _ (by omega) hsee ?_)⟩
      clear hy
      intro a' Xa hXa hax
      have hka : KpB (fun _ => False) X.heap.size X Xa := by
        rcases hXa with rfl | ⟨o, rfl⟩
        · exact KpB.refl _ _ _
        · exact (KpB.refl _ _ _).alloc _ (Nat.le_refl _)
      have hza : X.heap.size ≤ Xa.heap.size := hka.size
      have hla : Xa.heap[w.heap.size + 1]? = some (.loop (rec .ready none)) := (hka.block _ (by omega) (fun h => h)).trans hl
      have hkka : Xa.heap[w.heap.size]? = some (.deferred (some [])) := (hka.block _ (by omega) (fun h => h)).trans hk
      have hia : I pre Xa := hI pre X Xa (by omega) hi (hka.mono (Nat.le_refl _) fun _ _ h => h.elim)
      have hseea : Sees (w.heap.size + 2) x args Xa := hSees _ _ _ _ _ (by omega) hsee (hka.mono (Nat.le_refl _) fun _ _ h => h.elim)
      refine ⟨_, run_beginRound hla (by rw [hrec]), ?_⟩
      obtain ⟨Xb, hXb⟩ : ∃ Xb, Xa.putObj (w.heap.size + 1) (.loop { rec .ready none with state := .busy }) = Xb := ⟨_, rfl⟩
      have hlb : Xb.heap[w.heap.size + 1]? = some (.loop { rec .ready none with state := .busy }) := by rw [← hXb]; exact World.putObj_heap_same (by omega)
      have hkb : Xb.heap[w.heap.size]? = some (.deferred (some [])) := by rw [← hXb]; exact (World.putObj_heap_other (by omega)).trans hkka
      have hzb : Xb.heap.size = Xa.heap.size := by rw [← hXb]; simp
      have hab : KpB (fun k => k = w.heap.size + 1) Xa.heap.size Xa Xb := by rw [← hXb]; exact (KpB.refl _ _ _).put _ _ (.inl rfl)
      rw [hXb]
      have hib : I pre Xb := hI pre Xa Xb (by omega) hia (hab.mono (Nat.le_refl _) fun k _ h => ⟨by omega, by omega⟩)
      have hseeb : Sees (w.heap.size + 2) x args Xb := hSees _ _ _ _ _ (by omega) hseea (hab.mono (Nat.le_refl _) fun k _ h => (by have h' : k = w.heap.size + 1 := h; omega : k < w.heap.size + 2))
      have haxb : Ax x args a' Xb := hAx _ _ _ _ _ (by omega) hax (hab.mono (Nat.le_refl _) fun k _ h => (by have h' : k = w.heap.size + 1 := h; omega : k < w.heap.size + 2))
      refine wpIn_mono (hbody _ pre x args a' Xb (by omega) hpre hib hseeb haxb) ?_
      have hS' : ∀ {X3}, KpB S Xb.heap.size Xb X3 → ∀ (o : Obj), KpB (fun k => S k ∨ Seg w0.heap.size W1.heap.size k) X.heap.size X (X3.putObj (w.heap.size + 1) o) := fun {X3} h3 o => by
        have hw0 := hb0.size
        have hl' : Seg w0.heap.size W1.heap.size (w.heap.size + 1) := ⟨by omega, by omega⟩
        have k1 : KpB (fun k => S k ∨ Seg w0.heap.size W1.heap.size k) X.heap.size X Xa := hka.mono (by omega) fun _ _ h => h.elim
        have k2 : KpB (fun k => S k ∨ Seg w0.heap.size W1.heap.size k) X.heap.size Xa Xb := hab.mono (by omega) fun k _ h => by have h' : k = w.heap.size + 1 := h; subst h'; exact .inr hl'
        have k3 : KpB (fun k => S k ∨ Seg w0.heap.size W1.heap.size k) X.heap.size Xb X3 := h3.mono (by omega) fun _ _ h => .inl h
        exact ((k1.trans k2).trans k3).put _ _ (.inl (.inr hl'))
      have fin : ∀ (jump : Option Code) (X3 : World), KpB S Xb.heap.size Xb X3 →
          (Instr.endRound (w.heap.size + 1) jump).run P X3 = .ok (.bool jump.isNone) (X3.putObj (w.heap.size + 1) (.loop (rec (if jump.isNone then .ready else .done) jump))) ∧
          w.heap.size + 2 ≤ X3.heap.size ∧
          (X3.putObj (w.heap.size + 1) (.loop (rec (if jump.isNone then .ready else .done) jump))).heap[w.heap.size + 1]? = some (.loop (rec (if jump.isNone then .ready else .done) jump)) ∧
          (X3.putObj (w.heap.size + 1) (.loop (rec (if jump.isNone then .ready else .done) jump))).heap[w.heap.size]? = some (.deferred (some [])) ∧
          KpB (Seg w.heap.size (w.heap.size + 2)) X3.heap.size X3 (X3.putObj (w.heap.size + 1) (.loop (rec (if jump.isNone then .ready else .done) jump))) := fun jump X3 hk3 => by
        have hns : ¬ S (w.heap.size + 1) := fun h => by have := hS _ h; omega
        have hns' : ¬ S w.heap.size := fun h => by have := hS _ h; omega
        have hl3 := (hk3.block _ (by omega) hns).trans hlb
        have hk3' := (hk3.block _ (by omega) hns').trans hkb
        have hz3 := hk3.size
        have := run_endRound (P := P) jump hl3
        rw [hrec] at this ⊢
        exact ⟨this, by omega, World.putObj_heap_same (by omega), (World.putObj_heap_other (by omega)).trans hk3', (KpB.refl _ _ _).put _ _ (.inl ⟨by omega, by omega⟩)⟩
      rintro e a3 X3 hp
      cases e with
      | normal =>
        obtain ⟨hk3, hi3⟩ := hp
        obtain ⟨hr, hz3, hl4, hk4, hs4⟩ := fin none X3 hk3
        exact ⟨_, _, hr, hS' hk3 _, .inl ⟨rfl, hI _ _ _ hz3 hi3 hs4, hl4, hk4⟩⟩
      | ret =>
        obtain ⟨hk3, hi3⟩ := hp
        obtain ⟨hr, hz3, hl4, hk4, hs4⟩ := fin (some .ret) X3 hk3
        exact ⟨_, _, hr, hS' hk3 _, .inr ⟨rfl, .ret, hIx _ _ _ _ hz3 hi3 hs4, hl4, hk4⟩⟩
      | exit id =>
        obtain ⟨hk3, hi3⟩ := hp
        obtain ⟨hr, hz3, hl4, hk4, hs4⟩ := fin (some (.exit id)) X3 hk3
        exact ⟨_, _, hr, hS' hk3 _, .inr ⟨rfl, .exit id, hIx _ _ _ _ hz3 hi3 hs4, hl4, hk4⟩⟩
      | goto t =>
        obtain ⟨hk3, hi3⟩ := hp
        obtain ⟨hr, hz3, hl4, hk4, hs4⟩ := fin (some (.goto t)) X3 hk3
        exact ⟨_, _, hr, hS' hk3 _, .inr ⟨rfl, .goto t, hIx _ _ _ _ hz3 hi3 hs4, hl4, hk4⟩⟩
      | panic ch => exact hp.elim
      | outgrown => exact hp.elim
    · -- behind the iterator
      rintro e W2 ⟨⟨v, rfl⟩, hD2, (⟨hi, hl, hk⟩ | ⟨pre, hpre, c, hi, hl, hk⟩)⟩
      · refine ⟨none, _, by have := run_endLoop (P := P) hl (by rw [hrec]; simp); rw [hrec] at this; exact this, hdone _ (by simp; omega) (hI _ _ _ (by omega) hi ((KpB.refl _ _ _).put _ _ (.inl ⟨by omega, by omega⟩))) ((World.putObj_heap_other (by omega)).trans hk)⟩
      · refine ⟨some c, _, by have := run_endLoop (P := P) hl (by rw [hrec]; simp); rw [hrec] at this; exact this, hstop c pre _ (by simp; omega) hpre (hIx _ _ _ _ (by omega) hi ((KpB.refl _ _ _).put _ _ (.inl ⟨by omega, by omega⟩))) ((World.putObj_heap_other (by omega)).trans hk)⟩
end Go.Proofs.Ytmbcpmnigggbaaa
namespace Go.Proofs.Ytmbcpmnigggbaaa
/-! Sales in plain words: what can be reckoned: sets, the most, the winners. -/
def saleB (q : List Bid) (rd : List Int) (l : List Nat) : Bool :=
  decide (l.Pairwise (· < ·)) && (l.all (fun i => match q[i]? with | some b => readyB rd b | none => false) &&
    l.all fun i => l.all fun j => decide (i = j) || match q[i]?, q[j]? with | some a, some b => apartB a b | _, _ => true)
theorem saleB_iff {q : List Bid} {rd : List Int} {l : List Nat} : saleB q rd l = true ↔ SaleL q rd l := by
  unfold saleB
  rw [Bool.and_eq_true, Bool.and_eq_true, decide_eq_true_eq, List.all_eq_true, List.all_eq_true]
  constructor
  · rintro ⟨h1, h2, h3⟩
    refine ⟨h1, fun i hi => ?_, fun i hi j hj hne a b ha hb => ?_⟩
    · have := h2 i hi
      cases hq : q[i]? with
      | none => rw [hq] at this; cases this
      | some b => rw [hq] at this; exact ⟨b, rfl, this⟩
    · have := List.all_eq_true.1 (h3 i hi) j hj
      rw [ha, hb, Bool.or_eq_true, decide_eq_true_eq] at this
      exact this.resolve_left hne
  · rintro ⟨h1, h2, h3⟩
    refine ⟨h1, fun i hi => ?_, fun i hi => ?_⟩
    · obtain ⟨b, hb, hr⟩ := h2 i hi
      rw [hb]; exact hr
    · rw [List.all_eq_true]
      intro j hj
      by_cases e : i = j
      · simp [e]
      · rw [Bool.or_eq_true]
        right
        cases hqi : q[i]? with
        | none => rfl
        | some a =>
          cases hqj : q[j]? with
          | none => rfl
          | some b => exact h3 i hi j hj e a b hqi hqj
theorem saleB_no {q : List Bid} {rd : List Int} {l : List Nat} (h : ¬ SaleL q rd l) : saleB q rd l = false := by
  rw [← Bool.not_eq_true, saleB_iff]; exact h
/-- What a set of bids brings; below 0: it is no sale. -/
def brV (q : List Bid) (rd : List Int) (l : List Nat) : Int := if saleB q rd l = true then bringsL q l else -1
theorem brV_yes {q : List Bid} {rd : List Int} {l : List Nat} (h : SaleL q rd l) : brV q rd l = bringsL q l := if_pos (saleB_iff.2 h)
theorem brV_no {q : List Bid} {rd : List Int} {l : List Nat} (h : ¬ SaleL q rd l) : brV q rd l = -1 := if_neg (by rw [saleB_iff]; exact h)
/-- All sets that are sales. -/
def setsTo (q : List Bid) (rd : List Int) (k : Nat) : List Nat := (List.range k).filter fun m => saleB q rd (bitsL q.length m)
def setsL (q : List Bid) (rd : List Int) : List Nat := setsTo q rd (2 ^ q.length)
theorem setsTo_succ (q : List Bid) (rd : List Int) (k : Nat) : setsTo q rd (k + 1) = setsTo q rd k ++ if saleB q rd (bitsL q.length k) = true then [k] else [] := by
  unfold setsTo
  rw [List.range_succ, List.filter_append]
  congr 1
  cases h : saleB q rd (bitsL q.length k) <;> simp [h]
theorem mem_setsTo {q : List Bid} {rd : List Int} {k m : Nat} : m ∈ setsTo q rd k ↔ m < k ∧ SaleL q rd (bitsL q.length m) := by
  unfold setsTo
  rw [List.mem_filter, List.mem_range, saleB_iff]
theorem setsTo_pre (q : List Bid) (rd : List Int) {k n : Nat} (h : k ≤ n) : setsTo q rd k <+: setsTo q rd n := by
  obtain ⟨d, rfl⟩ := Nat.exists_eq_add_of_le h
  clear h
  induction d with
  | zero => exact List.prefix_rfl
  | succ d ih =>
    rw [show k + (d + 1) = (k + d) + 1 by omega, setsTo_succ]
    exact ih.trans (List.prefix_append _ _)
theorem bits_small : ∀ n, n ≤ 8 → ∀ m, m < 2 ^ n → ∀ i, i < 8 → n ≤ i → m.testBit i = false := fun n _ m hm i _ hni =>
  Nat.testBit_lt_two_pow (Nat.lt_of_lt_of_le hm (Nat.pow_le_pow_right (by omega) hni))
theorem bits_eight {n m : Nat} (hn : n ≤ 8) (hm : m < 2 ^ n) : bitsL 8 m = bitsL n m := by
  have : ∀ d, n + d ≤ 8 → bitsL (n + d) m = bitsL n m := fun d => by
    induction d with
    | zero => intro _; rfl
    | succ d ih =>
      intro hd
      rw [show n + (d + 1) = (n + d) + 1 by omega, bits_succ, ih (by omega), bits_small n hn m hm (n + d) (by omega) (by omega)]
      simp
  have := this (8 - n) (by omega)
  rw [show n + (8 - n) = 8 by omega] at this
  exact this
theorem pow_eight {n : Nat} (hn : n ≤ 8) : 2 ^ n ≤ 256 := Nat.pow_le_pow_right (by omega) hn
/-- The most that some sets bring, of those that are meant. -/
def mostTo (q : List Bid) (p : Nat → Bool) (S : List Nat) : Int := S.foldl (fun n m => if p m = true then max n (bringsL q (bitsL q.length m)) else n) (-1)
theorem mostTo_snoc (q : List Bid) (p : Nat → Bool) (S : List Nat) (m : Nat) : mostTo q p (S ++ [m]) = if p m = true then max (mostTo q p S) (bringsL q (bitsL q.length m)) else mostTo q p S := by
  unfold mostTo; rw [List.foldl_append]; rfl
theorem mostTo_ge (q : List Bid) (p : Nat → Bool) (hq : ∀ b ∈ q, 0 ≤ b.pay) (S : List Nat) : (∀ m ∈ S, p m = true → bringsL q (bitsL q.length m) ≤ mostTo q p S) ∧ ((mostTo q p S = -1 ∧ ∀ m ∈ S, ¬ p m = true) ∨ ∃ m ∈ S, p m = true ∧ bringsL q (bitsL q.length m) = mostTo q p S) := by
  refine snoc_indN (P := fun S => (∀ m ∈ S, p m = true → bringsL q (bitsL q.length m) ≤ mostTo q p S) ∧ ((mostTo q p S = -1 ∧ ∀ m ∈ S, ¬ p m = true) ∨ ∃ m ∈ S, p m = true ∧ bringsL q (bitsL q.length m) = mostTo q p S)) ⟨fun m hm => by simp at hm, .inl ⟨rfl, fun m hm => by simp at hm⟩⟩ (fun S x ⟨h1, h2⟩ => ?_) S
  rw [mostTo_snoc]
  by_cases hx : p x = true
  · rw [if_pos hx]
    have h0 := brings_nonneg hq (bitsL q.length x)
    refine ⟨fun m hm hp => ?_, .inr ?_⟩
    · rcases List.mem_append.1 hm with hm | hm
      · have := h1 m hm hp; omega
      · rw [List.mem_singleton.1 hm]; omega
    · by_cases hle : bringsL q (bitsL q.length x) ≤ mostTo q p S
      · rcases h2 with ⟨e, _⟩ | ⟨m, k1, k2, k3⟩
        · omega
        · exact ⟨m, by simp [k1], k2, by omega⟩
      · exact ⟨x, by simp, hx, by omega⟩
  · rw [if_neg hx]
    refine ⟨fun m hm hp => ?_, ?_⟩
    · rcases List.mem_append.1 hm with hm | hm
      · exact h1 m hm hp
      · rw [List.mem_singleton.1 hm] at hp; exact absurd hp hx
    · rcases h2 with ⟨e, h3⟩ | ⟨m, k1, k2, k3⟩
      · refine .inl ⟨e, fun m hm => ?_⟩
        rcases List.mem_append.1 hm with hm | hm
        · exact h3 m hm
        · rw [List.mem_singleton.1 hm]; exact hx
      · exact .inr ⟨m, by simp [k1], k2, k3⟩
theorem most_of_sets {q : List Bid} {rd : List Int} {P : List Nat → Prop} {p : Nat → Bool} (hn : q.length ≤ 8) (hq : ∀ b ∈ q, 0 ≤ b.pay) (hP : ∀ m, m < 2 ^ q.length → (p m = true ↔ P (bitsL q.length m))) : MostIs q rd P (mostTo q p (setsL q rd)) := by
  have hset : ∀ l, SaleL q rd l → ∃ m, m ∈ setsL q rd ∧ m < 2 ^ q.length ∧ bitsL q.length m = l := fun l hl => by
    obtain ⟨m, h1, rfl⟩ := bits_all q.length hn l hl.up fun i hi => hl.lt hi
    exact ⟨m, mem_setsTo.2 ⟨h1, hl⟩, h1, rfl⟩
  obtain ⟨h1, h2⟩ := mostTo_ge q p hq (setsL q rd)
  refine ⟨fun l hl hp => ?_, ?_⟩
  · obtain ⟨m, k1, k2, rfl⟩ := hset l hl
    exact h1 m k1 ((hP m k2).2 hp)
  · rcases h2 with ⟨e, h3⟩ | ⟨m, k1, k2, k3⟩
    · refine .inl ⟨e, fun l hl hp => ?_⟩
      obtain ⟨m, k1, k2, rfl⟩ := hset l hl
      exact h3 m k1 ((hP m k2).2 hp)
    · have k4 := mem_setsTo.1 k1
      exact .inr ⟨_, k4.2, (hP m k4.1).1 k2, k3⟩
/-- The winners' loop: the first best set, and what it brings. -/
instance aheadDec (p b : List Nat) : Decidable (aheadP p b) := inferInstanceAs (Decidable (p.length < b.length ∨ (p.length = b.length ∧ earlierN p b = true)))
def winStep (q : List Bid) (st : Nat × Int) (m : Nat) : Nat × Int :=
  if st.2 < bringsL q (bitsL q.length m) ∨ (bringsL q (bitsL q.length m) = st.2 ∧ aheadP (bitsL q.length m) (bitsL q.length st.1)) then (m, bringsL q (bitsL q.length m)) else st
def winTo (q : List Bid) (S : List Nat) : Nat × Int := S.foldl (winStep q) (0, -1)
theorem winTo_snoc (q : List Bid) (S : List Nat) (m : Nat) : winTo q (S ++ [m]) = winStep q (winTo q S) m := by
  unfold winTo; rw [List.foldl_append]; rfl
theorem winTo_ge (q : List Bid) (hq : ∀ b ∈ q, 0 ≤ b.pay) (S : List Nat) : (S = [] ∧ winTo q S = (0, -1)) ∨ ((winTo q S).1 ∈ S ∧ (winTo q S).2 = bringsL q (bitsL q.length (winTo q S).1) ∧ ∀ m ∈ S, bringsL q (bitsL q.length m) ≤ (winTo q S).2 ∧ (bringsL q (bitsL q.length m) = (winTo q S).2 → ¬ aheadP (bitsL q.length m) (bitsL q.length (winTo q S).1))) := by
  refine snoc_indN (P := fun S => (S = [] ∧ winTo q S = (0, -1)) ∨ ((winTo q S).1 ∈ S ∧ (winTo q S).2 = bringsL q (bitsL q.length (winTo q S).1) ∧ ∀ m ∈ S, bringsL q (bitsL q.length m) ≤ (winTo q S).2 ∧ (bringsL q (bitsL q.length m) = (winTo q S).2 → ¬ aheadP (bitsL q.length m) (bitsL q.length (winTo q S).1)))) (.inl ⟨rfl, rfl⟩) (fun S x h => .inr ?_) S
  rw [winTo_snoc]
  have h0 := brings_nonneg hq (bitsL q.length x)
  generalize winTo q S = st at h
  obtain ⟨b, n⟩ := st
  unfold winStep
  rcases h with ⟨rfl, e⟩ | ⟨h1, h2, h3⟩
  · cases e
    rw [if_pos (.inl (by show (-1 : Int) < _; omega))]
    exact ⟨by simp, rfl, fun m hm => by
      rw [List.nil_append, List.mem_singleton] at hm
      subst hm
      exact ⟨Int.le_refl _, fun _ => ahead_irr _⟩⟩
  · simp only at h1 h2 h3 ⊢
    by_cases hc : n < bringsL q (bitsL q.length x) ∨ (bringsL q (bitsL q.length x) = n ∧ aheadP (bitsL q.length x) (bitsL q.length b))
    · rw [if_pos hc]
      refine ⟨by simp, rfl, fun m hm => ?_⟩
      simp only
      rcases List.mem_append.1 hm with hm | hm
      · obtain ⟨k1, k2⟩ := h3 m hm
        rcases hc with hc | ⟨hc, ha⟩
        · exact ⟨by omega, fun e => by omega⟩
        · exact ⟨by omega, fun e hm2 => k2 (by omega) (ahead_trans hm2 ha)⟩
      · rw [List.mem_singleton.1 hm]
        exact ⟨Int.le_refl _, fun _ => ahead_irr _⟩
    · rw [if_neg hc]
      refine ⟨by simp [h1], h2, fun m hm => ?_⟩
      simp only
      rcases List.mem_append.1 hm with hm | hm
      · exact h3 m hm
      · rw [List.mem_singleton.1 hm]
        exact ⟨by
          apply Int.not_lt.1
          exact fun hh => hc (.inl hh), fun e ha => hc (.inr ⟨e, ha⟩)⟩
def winS (q : List Bid) (rd : List Int) : Nat := (winTo q (setsL q rd)).1
/-- The winners. -/
def winL (q : List Bid) (rd : List Int) : List Nat := bitsL q.length (winS q rd)
theorem win_of_sets {q : List Bid} {rd : List Int} (hn : q.length ≤ 8) (hq : ∀ b ∈ q, 0 ≤ b.pay) : winS q rd < 2 ^ q.length ∧ WinIs q rd (winL q rd) := by
  have h0 : 0 ∈ setsL q rd := mem_setsTo.2 ⟨Nat.pow_pos (by omega), by rw [bits_zero]; exact SaleL.nil q rd⟩
  rcases winTo_ge q hq (setsL q rd) with ⟨e, _⟩ | ⟨h1, h2, h3⟩
  · rw [e] at h0; simp at h0
  · obtain ⟨k1, k2⟩ := mem_setsTo.1 h1
    refine ⟨k1, k2, fun l hl => ?_, fun l hl he => ?_⟩
    · obtain ⟨m, j1, rfl⟩ := bits_all q.length hn l hl.up fun i hi => hl.lt hi
      have := (h3 m (mem_setsTo.2 ⟨j1, hl⟩)).1
      unfold winL winS
      rw [← h2]; exact this
    · obtain ⟨m, j1, rfl⟩ := bits_all q.length hn l hl.up fun i hi => hl.lt hi
      exact (h3 m (mem_setsTo.2 ⟨j1, hl⟩)).2 (by unfold winL winS at he; rw [h2]; exact he)
def allM (_ : Nat) : Bool := true
/-- What the best sales bring. -/
def mostV (q : List Bid) (rd : List Int) : Int := mostTo q allM (setsL q rd)
theorem mostV_is {q : List Bid} {rd : List Int} (hn : q.length ≤ 8) (hq : ∀ b ∈ q, 0 ≤ b.pay) : MostIs q rd (fun _ => True) (mostV q rd) := most_of_sets hn hq fun _ _ => ⟨fun _ => trivial, fun _ => rfl⟩
theorem mostV_win {q : List Bid} {rd : List Int} (hn : q.length ≤ 8) (hq : ∀ b ∈ q, 0 ≤ b.pay) : mostV q rd = bringsL q (winL q rd) := (mostV_is hn hq).unique (win_of_sets hn hq).2.most
/-- The most without a buyer. -/
def noneM (q : List Bid) (v : Int) (m : Nat) : Bool := !(bitsL 8 m).any (ownP q v)
def noneV (q : List Bid) (rd : List Int) (v : Int) : Int := mostTo q (noneM q v) (setsL q rd)
theorem noneV_is {q : List Bid} {rd : List Int} {v : Int} (hn : q.length ≤ 8) (hq : ∀ b ∈ q, 0 ≤ b.pay) : MostIs q rd (NoneOf q v) (noneV q rd v) := most_of_sets hn hq fun m hm => by
  unfold noneM NoneOf
  rw [bits_eight hn hm, Bool.not_eq_true', ← Bool.not_eq_true, List.any_eq_true]
  exact ⟨fun h i hi ho => h ⟨i, hi, ho⟩, fun h ⟨i, hi, ho⟩ => h i hi ho⟩
/-- What a buyer pays. -/
def payV (q : List Bid) (rd : List Int) (v : Int) : Int := if (winL q rd).any (ownP q v) = true then noneV q rd v - othersL q v (winL q rd) else 0
theorem payV_eq {q : List Bid} {rd : List Int} (hn : q.length ≤ 8) (hq : ∀ b ∈ q, 0 ≤ b.pay) (v : Int) : payV q rd v = noneV q rd v - othersL q v (winL q rd) := by
  unfold payV
  split
  · rfl
  · rename_i h
    rw [pays_none (win_of_sets hn hq).2 (noneV_is hn hq) fun i hi ho => h (List.any_eq_true.2 ⟨i, hi, ho⟩)]
/-- What the first n buyers pay together. -/
def paidTo (q : List Bid) (rd : List Int) : Nat → Int
  | 0 => 0
  | n + 1 => paidTo q rd n + payV q rd n
theorem payV_bd {q : List Bid} {rd : List Int} (hn : q.length ≤ 8) (hq : ∀ b ∈ q, 0 ≤ b.pay) (v : Int) : 0 ≤ payV q rd v ∧ payV q rd v ≤ ownL q v (winL q rd) := by
  have := pays_bd (win_of_sets (rd := rd) hn hq).2 (noneV_is (rd := rd) (v := v) hn hq)
  rw [payV_eq hn hq]
  omega
theorem paidTo_bd {q : List Bid} {rd : List Int} (hn : q.length ≤ 8) (hq : ∀ b ∈ q, 0 ≤ b.pay) : ∀ n, 0 ≤ paidTo q rd n ∧ paidTo q rd n ≤ ownTo q (winL q rd) n
  | 0 => ⟨Int.le_refl _, Int.le_refl _⟩
  | n + 1 => by
    have h1 := paidTo_bd hn hq (rd := rd) n
    have h2 := payV_bd hn hq (rd := rd) (n : Int)
    rw [ownTo_succ]
    unfold paidTo
    omega

/-! When. -/
/-- The first of the days 0 to 20 on which g is what it is on the day 20. -/
structure WhenIs (g : Nat → Int) (d : Nat) : Prop where
  le : d ≤ 20
  at_ : g 20 ≤ g d
  first : ∀ e, e < d → g e < g 20
theorem WhenIs.unique {g : Nat → Int} {d e : Nat} (h : WhenIs g d) (k : WhenIs g e) : d = e := by
  rcases Nat.lt_trichotomy d e with x | x | x
  · have := k.first d x; have := h.at_; omega
  · exact x
  · have := h.first e x; have := k.at_; omega
end Go.Proofs.Ytmbcpmnigggbaaa
