import Derived.RangeFuncNested
import Derived.RangeFuncLeaves
import Derived.RangeFuncCalls
import Derived.WalkKit
import Derived.Deep.Quiet
import Derived.Deep.QuietTactic
import Derived.OrdersIn
import Derived.BigQuiet
namespace Go.Proofs.Ytmbcpmnigggbaaa.Li
open Go.RowKit

/-- What a step keeps: whatever lay below n₀, but for the blocks of S. -/
structure KpB (S : Nat → Prop) (n₀ : Nat) (W W' : World) : Prop where
  os : W'.os = W.os
  tape : W'.tape = W.tape
  output : W'.output = W.output
  size : W.heap.size ≤ W'.heap.size
  block : ∀ k, k < n₀ → ¬ S k → W'.heap[k]? = W.heap[k]?
theorem KpB.trans {S : Nat → Prop} {n₀ : Nat} {A B C : World} (h : KpB S n₀ A B) (k : KpB S n₀ B C) : KpB S n₀ A C :=
  ⟨k.os.trans h.os, k.tape.trans h.tape, k.output.trans h.output, Nat.le_trans h.size k.size, fun i hi hs => (k.block i hi hs).trans (h.block i hi hs)⟩
theorem KpB.refl (S : Nat → Prop) (n₀ : Nat) (W : World) : KpB S n₀ W W := ⟨rfl, rfl, rfl, Nat.le_refl _, fun _ _ _ => rfl⟩
theorem KpB.put {S : Nat → Prop} {n₀ : Nat} {w W : World} (h : KpB S n₀ w W) (l : Nat) (o' : Obj) (hl : S l ∨ n₀ ≤ l) : KpB S n₀ w (W.putObj l o') :=
  h.trans ⟨rfl, rfl, rfl, by simp, fun k hk hs => World.putObj_heap_other (fun e => hl.elim (fun hl => hs (e ▸ hl)) (fun hl => by omega))⟩
theorem kpB_of_below {S : Nat → Prop} {n₀ : Nat} {W W' : World} (h : Below n₀ W W') : KpB S n₀ W W' := ⟨h.os, h.tape, h.output, h.size, fun k hk _ => h.block k hk⟩
theorem KpB.below {S : Nat → Prop} {n₀ : Nat} {W W' : World} (h : KpB S n₀ W W') (hS : ∀ k, S k → n₀ ≤ k) : Below n₀ W W' := ⟨h.os, h.tape, h.output, h.size, fun k hk => h.block k hk (fun hs => by have := hS k hs; omega)⟩
theorem KpB.set {S : Nat → Prop} {n₀ : Nat} {w W : World} (hw : KpB S n₀ w W) {k : Nat} (o : Nat) (v : Value) (h : S k ∨ n₀ ≤ k) : KpB S n₀ w (W.setCell ⟨k, o, none⟩ v) :=
  hw.trans ⟨rfl, rfl, rfl, by simp [World.setCell], fun i hi hs => Below.heap_setCell _ _ _ _ (fun e => by cases e; exact h.elim (fun h => hs h) (fun h => by simp at hi; omega))⟩
theorem KpB.alloc {S : Nat → Prop} {n₀ : Nat} {w W : World} (hw : KpB S n₀ w W) (o : Obj) (h : n₀ ≤ W.heap.size) : KpB S n₀ w (W.alloc o) := hw.trans (kpB_of_below ((Below.refl _ W).alloc h o))
theorem KpB.mono {S S' : Nat → Prop} {n₀ n₁ : Nat} {W W' : World} (h : KpB S n₀ W W') (hn : n₁ ≤ n₀) (hS : ∀ k, k < n₁ → S k → S' k) : KpB S' n₁ W W' := ⟨h.os, h.tape, h.output, h.size, fun k hk hs => h.block k (by omega) (fun hk' => hs (hS k hk hk'))⟩
theorem KpB.cell {S : Nat → Prop} {n₀ : Nat} {W W' : World} (h : KpB S n₀ W W') {b o : Nat} (hb : b < n₀) (hs : ¬ S b) : W'.cell? ⟨b, o, none⟩ = W.cell? ⟨b, o, none⟩ := World.cell?_of_block (h.block b hb hs)
theorem KpB.frozen {S : Nat → Prop} {n₀ : Nat} {W W' : World} (h : KpB S n₀ W W') {b o : Nat} (hb : b < n₀) (hs : ¬ S b) : W'.frozen? ⟨b, o, none⟩ = W.frozen? ⟨b, o, none⟩ := World.frozen?_of_block (h.block b hb hs)

/-- The blocks from B up to D. -/
def Seg (B D : Nat) : Nat → Prop := fun k => B ≤ k ∧ k < D

variable {F : Fence} {n : Nat} {P : Program}

open Go.RowKit

/-! A region that draws its order, inside a round of a range over a function: walked once, as outside. -/
/-- No operation of the region defers. -/
def noDefer (l : List Oper) : Bool := l.all fun o => match o.op with | .defer _ => false | _ => true
theorem noDefer_at {l : List Oper} (h : noDefer l = true) {i : Nat} {o : Oper} (ho : l[i]? = some o) : ∀ c, o.op ≠ .defer c := by
  intro c hc
  have := List.all_eq_true.1 h o (List.mem_of_getElem? ho)
  rw [hc] at this
  cases this
theorem wpOpIn_round {l n : Nat} {P : Program} {ops : Array Oper} {Q : Exit → Act → World → Prop} (hd : ∀ (i : Nat) (o : Oper), ops[i]? = some o → ∀ c, o.op ≠ .defer c) (hQ : ¬ LetsOut Q) {i : Nat} {K K' : Act → World → Prop} {a : Act} {w : World} (hK : ∀ a w, K a w → K' a w)
    (h : wpOp P ops Q i K a w) : wpOpIn (Fence.wide.inRound l) n P ops Q i K' a w := by
  unfold wpOp at h
  unfold wpOpIn
  cases ho : ops[i]? with
  | none => rw [ho] at h; exact hK _ _ h
  | some o =>
    rw [ho] at h
    simp only at h ⊢
    by_cases hw : Region.wanted o (yielded ops a.tmps) = true
    · rw [if_pos hw] at h ⊢
      have h := h.resolve_right (fun hh => hQ hh.2)
      refine ⟨fun _ _ => trivial, ?_⟩
      rw [Fence.inRound_round, Oper.semAt_some _ _ _ (hd i o ho)]
      unfold Oper.wp at h
      revert h
      generalize (execOp a.eval o).run P w = r
      intro h
      cases r with
      | ok x w' =>
        cases x with
        | enter f args =>
          refine ⟨(fun hh => by cases hh), CallsIn.inRound l (callsIn_wide.2 (Calls.mono h ?_))⟩
          intro e w'' he
          cases e with
          | returned v => exact hK _ _ he
          | panicked chain => exact he
          | outgrown => exact he
        | row row args => exact ⟨(fun hh => by cases hh), fun c cs _ => let ⟨v, w', r, s⟩ := h c cs; ⟨v, w', hK _ _ r, stepsIn_wide.2 s⟩⟩
        | value v => exact hK _ _ h
        | skip => exact hK _ _ h
        | defer d => exact hK _ _ h
        | _ => exact h.elim
      | halt x w' => cases x <;> simp only [Oper.upon] at h <;> simp only [Oper.uponIn] <;> first | exact h | exact h.elim
    · rw [if_neg hw] at h ⊢
      exact ⟨fun _ _ => trivial, hK _ _ h⟩
theorem wpAnyIn_round {l n : Nat} {P : Program} {md : Region.Mode} {ops : Array Oper} {Q : Exit → Act → World → Prop} (hd : ∀ (i : Nat) (o : Oper), ops[i]? = some o → ∀ c, o.op ≠ .defer c) (hQ : ¬ LetsOut Q) : ∀ (fuel : Nat) (listed : Array Bool) (a : Act) (w : World),
    wpAny P md ops Q fuel listed a w → wpAnyIn (Fence.wide.inRound l) n P md ops Q fuel listed a w
  | 0, _, _, _, h => h
  | fuel + 1, _, _, _, h => ⟨h.1, fun i hi => wpOpIn_round hd hQ (fun a w hh => wpAnyIn_round hd hQ fuel _ a w hh) (h.2 i hi)⟩
/-! A region whose last operation (a store, a builtin without a slot) waits for all others, which are quiet. -/
/-- The same operation, that does nothing. -/
def idle (o : Oper) : Oper := { o with op := .move (.const undef) }
def waitsAll (n : Nat) (o : Oper) : Bool := (List.range n).all fun j => o.after.any fun e => Region.binds .any e && e.on == j
def lastOK (n : Nat) (o : Oper) : Bool := o.guard.isNone && (o.dst.isNone && waitsAll n o)
/-- Each operation waits for earlier ones alone. -/
def backB (L : List Oper) : Bool := (List.range L.length).all fun j => (L.getD j default).after.all fun e => decide (e.on < j)
theorem backB_at {L : List Oper} (h : backB L = true) {j : Nat} {o : Oper} (ho : L[j]? = some o) : ∀ e ∈ o.after, e.on < j := by
  obtain ⟨hj, e1⟩ := List.getElem?_eq_some_iff.1 ho
  have := List.all_eq_true.1 h j (List.mem_range.2 hj)
  rw [List.getD, ho] at this
  intro e he
  obtain ⟨i, hi, rfl⟩ := Array.getElem_of_mem he
  have := Array.all_eq_true.1 this i hi
  simpa using this
theorem ready_none {L : List Oper} (h : backB L = true) {listed : Array Bool} (hz : listed.size = L.length) (hr : Region.ready .any L.toArray listed = []) : ∀ j, j < L.length → listed.getD j true = true := by
  intro j
  induction j using Nat.strongRecOn with
  | ind j ih =>
    intro hj
    cases hb : listed.getD j true with
    | true => rfl
    | false =>
      have : j ∈ Region.ready .any L.toArray listed := by
        rw [mem_ready]
        refine ⟨hb, L[j], by simp [hj], fun e he _ => ?_⟩
        have h1 := backB_at h (List.getElem?_eq_getElem hj) e he
        have h2 := ih e.on h1 (by omega)
        have h3 : e.on < listed.size := by omega
        simpa [h3] using h2
      rw [hr] at this
      simp at this
theorem waitsAll_at {n : Nat} {o : Oper} (h : waitsAll n o = true) {j : Nat} (hj : j < n) : ∃ e ∈ o.after, Region.binds .any e = true ∧ e.on = j := by
  have := List.all_eq_true.1 h j (List.mem_range.2 hj)
  obtain ⟨i, hi, h1⟩ := Array.any_eq_true.1 this
  simp only [Bool.and_eq_true, beq_iff_eq] at h1
  exact ⟨_, Array.getElem_mem hi, h1⟩
theorem snoc_at {α : Type} (l : List α) (x : α) (j : Nat) : (l ++ [x]).toArray[j]? = if j = l.length then some x else l[j]? := by
  simp only [List.getElem?_toArray]
  by_cases h : j = l.length
  · subst h; simp
  · rw [if_neg h]
    by_cases h2 : j < l.length
    · rw [List.getElem?_append_left h2]
    · rw [List.getElem?_append_right (by omega), List.getElem?_eq_none (by simp; omega), List.getElem?_eq_none (by omega)]
theorem ready_idle {l : List Oper} {o : Oper} {listed : Array Bool} {j : Nat} : j ∈ Region.ready .any (l ++ [idle o]).toArray listed ↔ j ∈ Region.ready .any (l ++ [o]).toArray listed := by
  rw [mem_ready, mem_ready, snoc_at, snoc_at]
  by_cases h : j = l.length
  · rw [if_pos h, if_pos h]; simp [idle]
  · rw [if_neg h, if_neg h]
theorem yielded_idle {l : List Oper} {o : Oper} (hd : o.dst = none) (tmps : Array Value) : yielded (l ++ [idle o]).toArray tmps = yielded (l ++ [o]).toArray tmps := by
  funext j
  unfold yielded
  rw [snoc_at, snoc_at]
  by_cases h : j = l.length
  · rw [if_pos h, if_pos h]; simp [idle, hd]
  · rw [if_neg h, if_neg h]
/-- What is asked behind the quiet operations: the last one. -/
def lastQ (P : Program) (o : Oper) (Q : Exit → Act → World → Prop) : Exit → Act → World → Prop
  | .normal, a, w => o.wp P a w (fun a' w' => Q .normal a' w') Q
  | e, a, w => Q e a w
theorem upon_lastQ {P : Program} {o o' : Oper} {a : Act} {w : World} {K K' : Act → World → Prop} {Q : Exit → Act → World → Prop} (hK : ∀ a w, K a w → K' a w) (h : o'.wp P a w K (lastQ P o Q)) : o'.wp P a w K' Q := by
  unfold Oper.wp at *
  generalize (execOp a.eval o').run P w = r at *
  cases r with
  | ok x w' =>
    cases x with
    | enter f args =>
      refine Calls.mono h ?_
      intro e w'' he
      cases e with
      | returned v => exact hK _ _ he
      | panicked chain => exact he
      | outgrown => exact he
    | row row args => exact Rows.mono h fun v w' r => hK _ _ r
    | value v => exact hK _ _ h
    | skip => exact hK _ _ h
    | defer d => exact hK _ _ h
    | _ => exact h.elim
  | halt x w' => cases x <;> first | exact h | exact h.elim
theorem wpAny_idle {P : Program} {l : List Oper} {o : Oper} {Q : Exit → Act → World → Prop} (hl : lastOK l.length o = true) (hb : backB (l ++ [o]) = true) : ∀ (fuel : Nat) (listed : Array Bool) (a : Act) (w : World), listed.size = l.length + 1 →
    listed.getD l.length true = false → wpAny P .any (l ++ [idle o]).toArray (lastQ P o Q) fuel listed a w → wpAny P .any (l ++ [o]).toArray Q fuel listed a w := by
  simp only [lastOK, Bool.and_eq_true, Option.isNone_iff_eq_none] at hl
  obtain ⟨hg, hd, hw⟩ := hl
  have hlast : ∀ {listed : Array Bool}, l.length ∈ Region.ready .any (l ++ [o]).toArray listed → ∀ j, j < l.length → listed.getD j false = true := fun {listed} hm j hj => by
    obtain ⟨_, o', ho', h⟩ := mem_ready.1 hm
    rw [snoc_at, if_pos rfl] at ho'
    cases ho'
    obtain ⟨e, he, hbb, hon⟩ := waitsAll_at hw hj
    rw [← hon]; exact h e he hbb
  have hno : ∀ {listed : Array Bool}, listed.size = l.length + 1 → listed.getD l.length true = false → Region.ready .any (l ++ [o]).toArray listed ≠ [] := fun {listed} hz hu hr => by
    have := ready_none hb (by rw [List.length_append]; exact hz) hr l.length (by simp)
    rw [this] at hu; cases hu
  intro fuel
  induction fuel with
  | zero =>
    intro listed a w hz hu h
    exact (hno hz hu (List.eq_nil_iff_forall_not_mem.2 fun j hj => by rw [← ready_idle, h.1] at hj; cases hj)).elim
  | succ fuel ih =>
    intro listed a w hz hu h
    refine ⟨fun hr => (hno hz hu hr).elim, fun i hi => ?_⟩
    have h1 := h.2 i (ready_idle.2 hi)
    by_cases hil : i = l.length
    · subst hil
      have hall := hlast hi
      have hrn : ∀ j, j ∉ Region.ready .any (l ++ [o]).toArray (listed.setIfInBounds l.length true) := fun j hj => by
        obtain ⟨h2, o', ho', -⟩ := mem_ready.1 hj
        have hjl : j < l.length + 1 := by
          have := (Array.getElem?_eq_some_iff.1 ho').1
          simpa using this
        by_cases e : j = l.length
        · subst e
          rw [Array.getD_eq_getD_getElem?, Array.getElem?_setIfInBounds_self_of_lt (by omega)] at h2
          simp at h2
        · rw [getD_set_ne true (Ne.symm e)] at h2
          have h3 := hall j (by omega)
          have h4 : j < listed.size := by omega
          simp [h4] at h2 h3
          rw [h2] at h3; cases h3
      have hend : ∀ {Q0 : Exit → Act → World → Prop} {a' : Act} {w' : World}, Q0 .normal a' w' → wpAny P .any (l ++ [o]).toArray Q0 fuel (listed.setIfInBounds l.length true) a' w' := fun {Q0 a' w'} hq => by
        cases fuel with
        | zero => exact ⟨List.eq_nil_iff_forall_not_mem.2 hrn, hq⟩
        | succ fuel => exact ⟨fun _ => hq, fun j hj => (hrn j hj).elim⟩
      -- what the idle operation leaves
      have hq : lastQ P o Q .normal a w := by
        unfold wpOp at h1
        rw [snoc_at, if_pos rfl] at h1
        have hgi : (idle o).guard = none := hg
        have hdi : (idle o).dst = none := hd
        have hex : execOp a.eval (idle o) = pure (.value (a.eval (.const undef))) := rfl
        simp only [Region.wanted, hgi, if_true] at h1
        have hk : wpAny P .any (l ++ [idle o]).toArray (lastQ P o Q) fuel (listed.setIfInBounds l.length true) a w := by
          rcases h1 with h1 | ⟨h1, _⟩
          · unfold Oper.wp at h1
            rw [hex] at h1
            simpa [Oper.upon, Act.put, hdi] using h1
          · unfold Oper.asks at h1
            rw [hex] at h1
            exact absurd (show noRoomEvent ∈ (#[] : Array Event) from h1.1) (by simp)
        cases fuel with
        | zero => exact hk.2
        | succ fuel => exact hk.1 (List.eq_nil_iff_forall_not_mem.2 fun j hj => hrn j (ready_idle.1 hj))
      unfold wpOp
      rw [snoc_at, if_pos rfl]
      simp only [Region.wanted, hg, if_true]
      refine .inl (Oper.wp_mono (fun a' w' h' => hend h') hq)
    · have hi2 : (l ++ [idle o]).toArray[i]? = (l ++ [o]).toArray[i]? := by rw [snoc_at, snoc_at, if_neg hil, if_neg hil]
      unfold wpOp at h1 ⊢
      rw [hi2, yielded_idle hd] at h1
      have hset : (listed.setIfInBounds i true).size = l.length + 1 := by simp [hz]
      have hun : (listed.setIfInBounds i true).getD l.length true = false := by rw [getD_set_ne true hil]; exact hu
      cases ho : (l ++ [o]).toArray[i]? with
      | none => rw [ho] at h1; exact ih _ _ _ hset hun h1
      | some o' =>
        rw [ho] at h1
        simp only at h1 ⊢
        split at h1
        · rename_i hwt
          rw [if_pos hwt]
          rcases h1 with h1 | ⟨h1, a', w', h2⟩
          · exact .inl (upon_lastQ (fun a w hh => ih _ a w hset hun hh) h1)
          · exact .inr ⟨h1, a', w', h2⟩
        · rename_i hwt
          rw [if_neg hwt]
          exact ih _ _ _ hset hun h1
theorem wpQuiet_snoc {P : Program} {ops : Array Oper} {C : World → Prop} {Q : Act → Prop} {o : Oper} (hg : o.guard = none) (hd : o.dst = none) : ∀ (l : List Oper) (a : Act), wpQuiet P ops C Q l a → wpQuiet P ops C Q (l ++ [idle o]) a
  | [], a, h => by
    have hgi : (idle o).guard = none := hg
    have hdi : (idle o).dst = none := hd
    rw [List.nil_append, wpQuiet, if_pos (by simp [Region.wanted, hgi])]
    refine ⟨a.eval (.const undef), fun w _ => ?_, by simpa [Act.put, hdi] using h⟩
    exact ⟨rfl, rfl⟩
  | o' :: l, a, h => by
    rw [wpQuiet] at h
    rw [List.cons_append, wpQuiet]
    split
    · rename_i hw
      rw [if_pos hw] at h
      exact Oper.quiet_mono (fun a' h' => wpQuiet_snoc hg hd l a' h') h
    · rename_i hw
      rw [if_neg hw] at h
      exact wpQuiet_snoc hg hd l _ h
theorem wpAny_tail {P : Program} {l : List Oper} {o : Oper} {Q : Exit → Act → World → Prop} {C : World → Prop} {a : Act} {w : World} (hl : lastOK l.length o = true) (hb : backB (l ++ [o]) = true) (hB : Region.lexB .any (l ++ [idle o]).toArray = true) (hC : C { w with drawn := w.drawn + 1 })
    (h : wpQuiet P (l ++ [idle o]).toArray C (fun a' => ∀ w', C w' → o.wp P a' w' (fun a'' w'' => Q .normal a'' w'') Q) l a) :
    wpAny P .any (l ++ [o]).toArray Q (l ++ [o]).toArray.size (Array.replicate (l ++ [o]).toArray.size false) a { w with drawn := w.drawn + 1 } := by
  simp only [Region.lexB, Bool.and_eq_true] at hB
  have hl' := hl
  simp only [lastOK, Bool.and_eq_true, Option.isNone_iff_eq_none] at hl'
  refine wpAny_idle hl hb _ _ _ _ (by simp) (by simp) ?_
  refine wpAny_of_quiet (Q := fun a' => ∀ w', C w' → o.wp P a' w' (fun a'' w'' => Q .normal a'' w'') Q) (fun _ w' hw' h => h w' hw') _ _ _ _ hC ?_
  have := wpAnyQ_lex (C := C) (md := .any) hB.1 (l ++ [idle o]).toArray.toList 0 (Array.replicate (l ++ [idle o]).toArray.size false) a (by simp) (by simpa using hB.2) (by simpa using wpQuiet_snoc hl'.1 hl'.2.1 l a h)
  simpa using this
/-- The region as the walk meets it: its first N operations are quiet. -/
theorem wpIn_region_tail {k n id : Nat} {P : Program} {L : List Oper} {Q : Exit → Act → World → Prop} {C : World → Prop} {a : Act} {w : World} (l : List Oper) (o : Oper) (hL : L = l ++ [o]) (hQ : ¬ LetsOut Q) (hd : noDefer L = true) (hm : P.follows .mixedOrders = true) (hl : lastOK l.length o = true) (hb : backB L = true) (hB : Region.lexB .any (l ++ [idle o]).toArray = true)
    (hC : C { w with drawn := w.drawn + 1 }) (h : wpQuiet P (l ++ [idle o]).toArray C (fun a' => ∀ w', C w' → o.wp P a' w' (fun a'' w'' => Q .normal a'' w'') Q) l a) : (Code.region id L.toArray true).wpIn (Fence.wide.inRound k) n P Q a w := by
  subst hL
  exact wpIn_region_any hm (wpAnyIn_round (fun i o ho => noDefer_at hd (by simpa using ho)) hQ _ _ _ _ (wpAny_tail hl hb hB hC h))
open Go.RowKit

/-- **AN ITERATOR THAT MAKES MEMORY AND WRITES NOTHING ELDER, WHOSE YIELDS CAN BE SEEN**: 'Sees B x args X' tells what it hands over at a yield, and how that lies in memory (from B on). S: what the round may write of what lay in w₀. -/
def SeqMakes {α : Type} (F : Fence) (n : Nat) (P : Program) (g : Nat) (fb lb : Array Value) (S : Nat → Prop) (Sees : Nat → α → Array Value → World → Prop) (xs : List α) (w₀ : World) : Prop :=
  ∀ (l : Nat) (J Jx : List α → World → Prop) (W : World), Below w₀.heap.size w₀ W →
    (∀ s X Y, W.heap.size ≤ X.heap.size → J s X → Below X.heap.size X Y → J s Y) →
    (∀ s X Y, W.heap.size ≤ X.heap.size → Jx s X → Below X.heap.size X Y → Jx s Y) →
    (∀ pre x args X, W.heap.size ≤ X.heap.size → J pre X → Sees W.heap.size x args X → pre ++ [x] <+: xs →
      YieldAt F (n - 1) P l args X fun e X' => KpB (fun k => S k ∨ Seg w₀.heap.size W.heap.size k) X.heap.size X X' ∧
        ((e = .returned (.bool true) ∧ J (pre ++ [x]) X') ∨ (e = .returned (.bool false) ∧ Jx (pre ++ [x]) X'))) →
    J [] W →
    CallsIn F n P g (fb ++ #[.func (.yield l) #[] #[]] ++ lb) W fun e W' => (∃ v, e = .returned v) ∧ W.heap.size ≤ W'.heap.size ∧ (J xs W' ∨ ∃ pre, pre <+: xs ∧ Jx pre W')

/-- How the body of a round may be left. -/
def makesPost {α : Type} (S : Nat → Prop) (I : List α → World → Prop) (Ix : Code → List α → World → Prop) (xs : List α) (X : World) : Exit → Act → World → Prop
  | .normal, _, X' => KpB S X.heap.size X X' ∧ I xs X'
  | .ret, _, X' => KpB S X.heap.size X X' ∧ Ix .ret xs X'
  | .exit id, _, X' => KpB S X.heap.size X X' ∧ Ix (.exit id) xs X'
  | .goto t, _, X' => KpB S X.heap.size X X' ∧ Ix (.goto t) xs X'
  | .panic _, _, _ => False
  | .outgrown, _, _ => False

variable {F : Fence} {n : Nat} {P : Program}

theorem wpIn_rangeFunc_makes {α : Type} {g : Operand} {ps : Array Tmp} {assign body : Code} {Q : Exit → Act → World → Prop} {a : Act} {w : World}
    (hro : F.round = none) (h1 : 1 ≤ n) {gf : Nat} {fb lb : Array Value} (hg : a.eval g = .func (.func gf) fb lb) (hFg : F.fn gf) (eg : ∀ args w, (callFunc gf args).run P w = .ok (.enter gf args) w)
    {S : Nat → Prop} {Sees : Nat → α → Array Value → World → Prop} {xs : List α} {w0 : World} (hseq : SeqMakes F (n - 1) P gf fb lb S Sees xs w0) (hb0 : Below w0.heap.size w0 w) (hS : ∀ k, S k → k < w.heap.size)
    (hps : ∀ B x args X, Sees B x args X → args.size = ps.size)
    (hSees : ∀ B x args X Y, B ≤ X.heap.size → Sees B x args X → KpB (fun k => k < B) X.heap.size X Y → Sees B x args Y)
    (I : List α → World → Prop) (Ix : Code → List α → World → Prop)
    (hI : ∀ s X Y, w.heap.size + 2 ≤ X.heap.size → I s X → KpB (Seg w.heap.size (w.heap.size + 2)) X.heap.size X Y → I s Y)
    (hIx : ∀ c s X Y, w.heap.size + 2 ≤ X.heap.size → Ix c s X → KpB (Seg w.heap.size (w.heap.size + 2)) X.heap.size X Y → Ix c s Y)
    (h0 : ∀ X, w.heap.size + 2 ≤ X.heap.size → Below w.heap.size w X → I [] X)
    (Ax : α → Array Value → Act → World → Prop) (hAx : ∀ x args a' X Y, w.heap.size + 2 ≤ X.heap.size → Ax x args a' X → KpB (fun k => k < w.heap.size + 2) X.heap.size X Y → Ax x args a' Y)
    (hassign : ∀ (l : Nat) (x : α) (args : Array Value) (X : World) (K : Act → World → Prop), w.heap.size + 2 ≤ X.heap.size → Sees (w.heap.size + 2) x args X → (∀ a' X', (X' = X ∨ ∃ o, X' = X.alloc o) → Ax x args a' X' → K a' X') →
      assign.wpIn (F.inRound l) (n - 1 - 1) P (Exit.then K (fun _ _ _ => False)) { tmps := (ps.zip args).foldl (fun t (p, v) => t.setIfInBounds p v) a.tmps, defers := [] } X)
    (hbody : ∀ (l : Nat) (pre : List α) (x : α) (args : Array Value) (a' : Act) (X : World), w.heap.size + 2 ≤ X.heap.size → pre ++ [x] <+: xs → I pre X → Sees (w.heap.size + 2) x args X → Ax x args a' X →
      body.wpIn (F.inRound l) (n - 1 - 1) P (makesPost S I Ix (pre ++ [x]) X) a' X)
    (hdone : ∀ (X : World), w.heap.size + 2 ≤ X.heap.size → I xs X → X.heap[w.heap.size]? = some (.deferred (some [])) → Q .normal { a with defers := { target := .collected w.heap.size, args := #[] } :: a.defers } X)
    (hstop : ∀ (c : Code) (pre : List α) (X : World), w.heap.size + 2 ≤ X.heap.size → pre <+: xs → Ix c pre X → X.heap[w.heap.size]? = some (.deferred (some [])) →
      c.wpIn F n P Q { a with defers := { target := .collected w.heap.size, args := #[] } :: a.defers } X) :
    (Code.rangeFunc g ps assign body).wpIn F n P Q a w := by
  refine wpIn_rangeFunc ?_
  intro fn hfn
  rw [hro]
  obtain ⟨rec, hrec⟩ : ∃ rec : LoopState → Option Code → Loop, rec = fun st pe => { state := st, pending := pe, fn, tmps := a.tmps, params := ps, assign, body, defers := w.heap.size } := ⟨_, rfl⟩
  obtain ⟨W1, hW1⟩ : ∃ W1, (w.alloc (.deferred (some []))).alloc (.loop (rec .ready none)) = W1 := ⟨_, rfl⟩
  have hL1 : W1.heap[w.heap.size + 1]? = some (.loop (rec .ready none)) := by
    rw [← hW1]; have := World.alloc_heap_new (w.alloc (.deferred (some []))) (.loop (rec .ready none)); rwa [World.size_alloc] at this
  have hK1 : W1.heap[w.heap.size]? = some (.deferred (some [])) := by
    rw [← hW1]; exact (Below.heap_alloc _ _ _ (by simp)).trans (World.alloc_heap_new w _)
  have hb1w : Below w.heap.size w W1 := by
    rw [← hW1]; exact ((Below.refl _ w).alloc (Nat.le_refl _) _).alloc (by simp) _
  have hb1 : Below w0.heap.size w0 W1 := hb0.trans (hb1w.mono hb0.size)
  have hz1 : W1.heap.size = w.heap.size + 2 := by rw [← hW1]; simp
  refine ⟨w.heap.size + 1, [{ target := .collected w.heap.size, args := #[] }], W1, { target := .fn (.func gf) lb, args := fb ++ #[.func (.yield (w.heap.size + 1)) #[] #[]] }, W1, gf,
    fb ++ #[.func (.yield (w.heap.size + 1)) #[] #[]] ++ lb, W1, ?_, ?_, ?_, ?_, fun _ => h1, ?_⟩
  · rw [← hW1, hrec]; exact run_enterLoop_outer _ _ _ _ _
  · simp only [resolve, hg]
    simp [go_sem, Deferred.ofValue]
  · intro f' hf'; simp [Target.leads] at hf'; subst hf'; exact hFg
  · simp [invoke, go_sem, eg]
  · have hbk : ∀ {X Y : World}, Below X.heap.size X Y → KpB (Seg w.heap.size (w.heap.size + 2)) X.heap.size X Y := fun h => kpB_of_below h
    refine (hseq (w.heap.size + 1)
      (fun pre X => I pre X ∧ X.heap[w.heap.size + 1]? = some (.loop (rec .ready none)) ∧ X.heap[w.heap.size]? = some (.deferred (some [])))
      (fun pre X => ∃ c, Ix c pre X ∧ X.heap[w.heap.size + 1]? = some (.loop (rec .done (some c))) ∧ X.heap[w.heap.size]? = some (.deferred (some [])))
      W1 hb1
      (fun s X Y hX hs hk => ⟨hI s X Y (by omega) hs.1 (hbk hk), (hk.block _ (by omega)).trans hs.2.1, (hk.block _ (by omega)).trans hs.2.2⟩)
      (fun s X Y hX hs hk => by
        obtain ⟨c, hc, hl, hkk⟩ := hs
        exact ⟨c, hIx c s X Y (by omega) hc (hbk hk), (hk.block _ (by omega)).trans hl, (hk.block _ (by omega)).trans hkk⟩)
      ?_ ⟨h0 _ (by omega) hb1w, hL1, hK1⟩).mono ?_
    · -- one round
      rintro pre x args X hX ⟨hi, hl, hk⟩ hsee hpre
      rw [hz1] at hsee
      have hy := run_yield (P := P) (args := args) hl (by rw [hrec]; exact hps _ x args X hsee)
      rw [hrec] at hy
      refine ⟨fn, _, assign, body, hy, roundIn_of_wpIn hfn (hassign _ x args X _ (by omega) hsee ?_)⟩
      clear hy
      intro a' Xa hXa hax
      have hka : KpB (fun _ => False) X.heap.size X Xa := by
        rcases hXa with rfl | ⟨o, rfl⟩
        · exact KpB.refl _ _ _
        · exact (KpB.refl _ _ _).alloc _ (Nat.le_refl _)
      have hza : X.heap.size ≤ Xa.heap.size := hka.size
      have hla : Xa.heap[w.heap.size + 1]? = some (.loop (rec .ready none)) := (hka.block _ (by omega) (fun h => h)).trans hl
      have hkka : Xa.heap[w.heap.size]? = some (.deferred (some [])) := (hka.block _ (by omega) (fun h => h)).trans hk
      have hia : I pre Xa := hI pre X Xa (by omega) hi (hka.mono (Nat.le_refl _) fun _ _ h => h.elim)
      have hseea : Sees (w.heap.size + 2) x args Xa := hSees _ _ _ _ _ (by omega) hsee (hka.mono (Nat.le_refl _) fun _ _ h => h.elim)
      refine ⟨_, run_beginRound hla (by rw [hrec]), ?_⟩
      obtain ⟨Xb, hXb⟩ : ∃ Xb, Xa.putObj (w.heap.size + 1) (.loop { rec .ready none with state := .busy }) = Xb := ⟨_, rfl⟩
      have hlb : Xb.heap[w.heap.size + 1]? = some (.loop { rec .ready none with state := .busy }) := by rw [← hXb]; exact World.putObj_heap_same (by omega)
      have hkb : Xb.heap[w.heap.size]? = some (.deferred (some [])) := by rw [← hXb]; exact (World.putObj_heap_other (by omega)).trans hkka
      have hzb : Xb.heap.size = Xa.heap.size := by rw [← hXb]; simp
      have hab : KpB (fun k => k = w.heap.size + 1) Xa.heap.size Xa Xb := by rw [← hXb]; exact (KpB.refl _ _ _).put _ _ (.inl rfl)
      rw [hXb]
      have hib : I pre Xb := hI pre Xa Xb (by omega) hia (hab.mono (Nat.le_refl _) fun k _ h => ⟨by omega, by omega⟩)
      have hseeb : Sees (w.heap.size + 2) x args Xb := hSees _ _ _ _ _ (by omega) hseea (hab.mono (Nat.le_refl _) fun k _ h => (by have h' : k = w.heap.size + 1 := h; omega : k < w.heap.size + 2))
      have haxb : Ax x args a' Xb := hAx _ _ _ _ _ (by omega) hax (hab.mono (Nat.le_refl _) fun k _ h => (by have h' : k = w.heap.size + 1 := h; omega : k < w.heap.size + 2))
      refine wpIn_mono (hbody _ pre x args a' Xb (by omega) hpre hib hseeb haxb) ?_
      have hS' : ∀ {X3}, KpB S Xb.heap.size Xb X3 → ∀ (o : Obj), KpB (fun k => S k ∨ Seg w0.heap.size W1.heap.size k) X.heap.size X (X3.putObj (w.heap.size + 1) o) := fun {X3} h3 o => by
        have hw0 := hb0.size
        have hl' : Seg w0.heap.size W1.heap.size (w.heap.size + 1) := ⟨by omega, by omega⟩
        have k1 : KpB (fun k => S k ∨ Seg w0.heap.size W1.heap.size k) X.heap.size X Xa := hka.mono (by omega) fun _ _ h => h.elim
        have k2 : KpB (fun k => S k ∨ Seg w0.heap.size W1.heap.size k) X.heap.size Xa Xb := hab.mono (by omega) fun k _ h => by have h' : k = w.heap.size + 1 := h; subst h'; exact .inr hl'
        have k3 : KpB (fun k => S k ∨ Seg w0.heap.size W1.heap.size k) X.heap.size Xb X3 := h3.mono (by omega) fun _ _ h => .inl h
        exact ((k1.trans k2).trans k3).put _ _ (.inl (.inr hl'))
      have fin : ∀ (jump : Option Code) (X3 : World), KpB S Xb.heap.size Xb X3 →
          (Instr.endRound (w.heap.size + 1) jump).run P X3 = .ok (.bool jump.isNone) (X3.putObj (w.heap.size + 1) (.loop (rec (if jump.isNone then .ready else .done) jump))) ∧
          w.heap.size + 2 ≤ X3.heap.size ∧
          (X3.putObj (w.heap.size + 1) (.loop (rec (if jump.isNone then .ready else .done) jump))).heap[w.heap.size + 1]? = some (.loop (rec (if jump.isNone then .ready else .done) jump)) ∧
          (X3.putObj (w.heap.size + 1) (.loop (rec (if jump.isNone then .ready else .done) jump))).heap[w.heap.size]? = some (.deferred (some [])) ∧
          KpB (Seg w.heap.size (w.heap.size + 2)) X3.heap.size X3 (X3.putObj (w.heap.size + 1) (.loop (rec (if jump.isNone then .ready else .done) jump))) := fun jump X3 hk3 => by
        have hns : ¬ S (w.heap.size + 1) := fun h => by have := hS _ h; omega
        have hns' : ¬ S w.heap.size := fun h => by have := hS _ h; omega
        have hl3 := (hk3.block _ (by omega) hns).trans hlb
        have hk3' := (hk3.block _ (by omega) hns').trans hkb
        have hz3 := hk3.size
        have := run_endRound (P := P) jump hl3
        rw [hrec] at this ⊢
        exact ⟨this, by omega, World.putObj_heap_same (by omega), (World.putObj_heap_other (by omega)).trans hk3', (KpB.refl _ _ _).put _ _ (.inl ⟨by omega, by omega⟩)⟩
      rintro e a3 X3 hp
      cases e with
      | normal =>
        obtain ⟨hk3, hi3⟩ := hp
        obtain ⟨hr, hz3, hl4, hk4, hs4⟩ := fin none X3 hk3
        exact ⟨_, _, hr, hS' hk3 _, .inl ⟨rfl, hI _ _ _ hz3 hi3 hs4, hl4, hk4⟩⟩
      | ret =>
        obtain ⟨hk3, hi3⟩ := hp
        obtain ⟨hr, hz3, hl4, hk4, hs4⟩ := fin (some .ret) X3 hk3
        exact ⟨_, _, hr, hS' hk3 _, .inr ⟨rfl, .ret, hIx _ _ _ _ hz3 hi3 hs4, hl4, hk4⟩⟩
      | exit id =>
        obtain ⟨hk3, hi3⟩ := hp
        obtain ⟨hr, hz3, hl4, hk4, hs4⟩ := fin (some (.exit id)) X3 hk3
        exact ⟨_, _, hr, hS' hk3 _, .inr ⟨rfl, .exit id, hIx _ _ _ _ hz3 hi3 hs4, hl4, hk4⟩⟩
      | goto t =>
        obtain ⟨hk3, hi3⟩ := hp
        obtain ⟨hr, hz3, hl4, hk4, hs4⟩ := fin (some (.goto t)) X3 hk3
        exact ⟨_, _, hr, hS' hk3 _, .inr ⟨rfl, .goto t, hIx _ _ _ _ hz3 hi3 hs4, hl4, hk4⟩⟩
      | panic ch => exact hp.elim
      | outgrown => exact hp.elim
    · -- behind the iterator
      rintro e W2 ⟨⟨v, rfl⟩, hD2, (⟨hi, hl, hk⟩ | ⟨pre, hpre, c, hi, hl, hk⟩)⟩
      · refine ⟨none, _, by have := run_endLoop (P := P) hl (by rw [hrec]; simp); rw [hrec] at this; exact this, hdone _ (by simp; omega) (hI _ _ _ (by omega) hi ((KpB.refl _ _ _).put _ _ (.inl ⟨by omega, by omega⟩))) ((World.putObj_heap_other (by omega)).trans hk)⟩
      · refine ⟨some c, _, by have := run_endLoop (P := P) hl (by rw [hrec]; simp); rw [hrec] at this; exact this, hstop c pre _ (by simp; omega) hpre (hIx _ _ _ _ (by omega) hi ((KpB.refl _ _ _).put _ _ (.inl ⟨by omega, by omega⟩))) ((World.putObj_heap_other (by omega)).trans hk)⟩
end Go.Proofs.Ytmbcpmnigggbaaa.Li
