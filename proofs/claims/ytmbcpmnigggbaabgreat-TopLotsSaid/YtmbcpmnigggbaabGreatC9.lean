import Derived.Test.YtmbcpmnigggbaabGreatC3
import Derived.Test.YtmbcpmnigggbaabGreatF6
import Derived.Test.YtmbcpmnigggbaabGreatR2
import Derived.Test.YtmbcpmnigggbaabGreatSG
import Derived.RangeFuncNested
import Derived.RangeFuncLeaves
import Derived.RangeFuncCalls
import Derived.WalkKit
import Derived.Deep.Quiet
import Derived.Deep.QuietTactic
import Derived.OrdersIn
import Derived.BigQuiet
namespace Go.Proofs.YtmbcpmnigggbaabGreat.Cu
open Go.RowKit
attribute [local go_sem] Oper.semAt_some
/-- A row of arrays of costs. -/
structure PR (W : World) (b : Nat) (ps : List (List Int)) : Prop where
  x : W.heap[b]? = some (.cells (vals ps.flatten).toArray 124 (0, 0))
  l : ∀ c ∈ ps, c.length = 31
theorem flat_len : ∀ (ps : List (List Int)), (∀ c ∈ ps, c.length = 31) → ps.flatten.length = 31 * ps.length
  | [], _ => rfl
  | c :: ps, h => by
    rw [List.flatten_cons, List.length_append, h c (by simp), flat_len ps (fun d hd => h d (by simp [hd])), List.length_cons]
    omega
theorem flat_split {ps : List (List Int)} {i : Nat} {c : List Int} (hc : ps[i]? = some c) (c' : List Int) : (ps.set i c').flatten = (ps.take i).flatten ++ c' ++ (ps.drop (i + 1)).flatten := by
  have hi := (List.getElem?_eq_some_iff.1 hc).1
  rw [List.set_eq_take_append_cons_drop, if_pos hi]
  simp
theorem flat_this {ps : List (List Int)} {i : Nat} {c : List Int} (hc : ps[i]? = some c) : ps.flatten = (ps.take i).flatten ++ c ++ (ps.drop (i + 1)).flatten := by
  have hs : ps.set i c = ps := by
    obtain ⟨hi, e⟩ := List.getElem?_eq_some_iff.1 hc
    subst e
    exact List.set_getElem_self hi
  have h := flat_split hc c
  rwa [hs] at h
theorem PR.lt {W : World} {b : Nat} {ps : List (List Int)} (h : PR W b ps) : b < W.heap.size := heap_lt h.x
theorem PR.of {W W' : World} {b : Nat} {ps : List (List Int)} (h : PR W b ps) (e : W'.heap[b]? = W.heap[b]?) : PR W' b ps := ⟨e.trans h.x, h.l⟩
theorem PR.at_ {W : World} {b i : Nat} {ps : List (List Int)} {c : List Int} (h : PR W b ps) (hc : ps[i]? = some c) : W.heap[b]? = some (.cells (vals (ps.take i).flatten ++ vals c ++ vals (ps.drop (i + 1)).flatten).toArray 124 (0, 0)) := by
  rw [h.x]
  have := flat_this hc
  rw [show vals ps.flatten = vals (ps.take i).flatten ++ vals c ++ vals (ps.drop (i + 1)).flatten by rw [this]; simp [vals]]
theorem take_len {W : World} {b i : Nat} {ps : List (List Int)} {c : List Int} (h : PR W b ps) (hc : ps[i]? = some c) : (vals (ps.take i).flatten).length = i * 31 := by
  have hi := (List.getElem?_eq_some_iff.1 hc).1
  rw [vals, List.length_map, flat_len _ (fun d hd => h.l d (List.mem_of_mem_take hd)), List.length_take, Nat.min_eq_left (by omega)]
  omega
theorem PR.range {W : World} {b i : Nat} {ps : List (List Int)} {c : List Int} (h : PR W b ps) (hc : ps[i]? = some c) : W.rangeAt b (i * 31) (vals c) := fun j v hj => by
  have hx := h.at_ hc
  have hl := take_len h hc
  have hjl := (List.getElem?_eq_some_iff.1 hj).1
  refine cell_of_heap (o := i * 31 + j) hx ?_
  rw [List.getElem?_toArray, List.getElem?_append_left (by rw [List.length_append, hl]; omega), List.getElem?_append_right (by omega), hl, Nat.add_sub_cancel_left]
  exact hj
theorem PR.there {W : World} {b i : Nat} {ps : List (List Int)} {c : List Int} (h : PR W b ps) (hc : ps[i]? = some c) : W.there b (i * 31) 31 := fun j hj => by
  have hl := h.l c (List.mem_of_getElem? hc)
  obtain ⟨v, hv⟩ : ∃ v, (vals c)[j]? = some v := ⟨_, List.getElem?_eq_getElem (by rw [vals, List.length_map, hl]; exact hj)⟩
  exact ⟨by rw [h.range hc j v hv]; rfl, frozen_of_heap h.x _⟩
theorem PR.put {W : World} {b i : Nat} {ps : List (List Int)} {c c' : List Int} (h : PR W b ps) (hc : ps[i]? = some c) (hl : c'.length = 31) : PR (W.setCells b (i * 31) (vals c')) b (ps.set i c') := by
  refine ⟨?_, fun d hd => ?_⟩
  · have hx := setCells_heap b 124 (vals c') (i * 31) (vals (ps.take i).flatten) (vals c) W (by simp [vals, hl, h.l c (List.mem_of_getElem? hc)]) (vals (ps.drop (i + 1)).flatten) (h.at_ hc) (take_len h hc)
    rw [flat_split hc c', show vals ((ps.take i).flatten ++ c' ++ (ps.drop (i + 1)).flatten) = vals (ps.take i).flatten ++ vals c' ++ vals (ps.drop (i + 1)).flatten by simp [vals]]
    exact hx
  · rcases List.mem_or_eq_of_mem_set hd with hd | hd
    · exact h.l d hd
    · rw [hd]; exact hl
theorem PR.far_put {W : World} {b z : Nat} {ps : List (List Int)} (h : PR W b ps) (hn : b ≠ z) (vs : List Value) (o : Nat) : PR (W.setCells z o vs) b ps := h.of (setCells_other b z hn vs o W h.lt)
theorem PR.other {W : World} {b z o : Nat} {ps : List (List Int)} {u : Value} (h : PR W b ps) (hn : b ≠ z) : PR (W.setCell ⟨z, o, none⟩ u) b ps := h.of (set_other_heap h.lt hn)
theorem loadO {W : World} {b o : Nat} {c : List Int} (hl : c.length = 31) (hC : W.rangeAt b o (vals c)) : (Instr.loadAt 124 (.pointer (some ⟨b, o, none⟩))).run Tryz.prog W = .ok (.agg (vals c).toArray) W :=
  run_loadAt_mid W b o 124 (vals c) _ hC Tryz.underlying124 rfl (info226 hl)
theorem storeO {W : World} {b o : Nat} {c : List Int} (hl : c.length = 31) (hT : W.there b o 31) : (Instr.storeAt 124 (.pointer (some ⟨b, o, none⟩)) (.agg (vals c).toArray)).run Tryz.prog W = .ok () (W.setCells b o (vals c)) := by
  have e : (vals c).toArray.size = 31 := by simp [vals, hl]
  have h := run_storeAt_mid (P := Tryz.prog) W b o 124 (vals c).toArray (by rw [e]; exact hT) (info226' hl) (vals_one c)
  rwa [List.toList_toArray] at h
theorem extB_range {w x : World} {b o : Nat} {vs : List Value} (h : w.rangeAt b o vs) : (extB w x).rangeAt b o vs := fun j v hj => (extB_cell (h j v hj) x)
/-- The load of a whole array, at a step of a region that draws its order. -/
theorem wpQuiet_loadO {ops : Array Oper} {rest : List Oper} {o : Oper} {a : Act} {w : World} {Q : Act → Prop} (hw : Region.wanted o (yielded ops a.tmps) = true) (x : Operand) (ho : o.op = .load 124 x) (b d : Nat)
    (hx : a.eval x = .pointer (some ⟨b, d, none⟩)) (c : List Int) (hl : c.length = 31) (hC : w.rangeAt b d (vals c)) (h : wpQuiet Tryz.prog ops (fun w' => ∃ x, w' = extB w x) Q rest (a.put o.dst (.agg (vals c).toArray))) : wpQuiet Tryz.prog ops (fun w' => ∃ x, w' = extB w x) Q (o :: rest) a := by
  rw [wpQuiet, if_pos hw]
  refine ⟨.agg (vals c).toArray, ?_, h⟩
  rintro w' ⟨y, rfl⟩
  unfold Oper.quietAt
  simp [execOp, ho, hx, loadO hl (extB_range hC), Result.andThen, Oper.quietUpon]

end Go.Proofs.YtmbcpmnigggbaabGreat.Cu
namespace Go.Proofs.YtmbcpmnigggbaabGreat.Li
open Go.RowKit

/-- What a step keeps: whatever lay below n₀, but for the blocks of S. -/
structure KpB (S : Nat → Prop) (n₀ : Nat) (W W' : World) : Prop where
  os : W'.os = W.os
  tape : W'.tape = W.tape
  output : W'.output = W.output
  size : W.heap.size ≤ W'.heap.size
  block : ∀ k, k < n₀ → ¬ S k → W'.heap[k]? = W.heap[k]?
theorem KpB.trans {S : Nat → Prop} {n₀ : Nat} {A B C : World} (h : KpB S n₀ A B) (k : KpB S n₀ B C) : KpB S n₀ A C :=
  ⟨k.os.trans h.os, k.tape.trans h.tape, k.output.trans h.output, Nat.le_trans h.size k.size, fun i hi hs => (k.block i hi hs).trans (h.block i hi hs)⟩
theorem KpB.refl (S : Nat → Prop) (n₀ : Nat) (W : World) : KpB S n₀ W W := ⟨rfl, rfl, rfl, Nat.le_refl _, fun _ _ _ => rfl⟩
theorem KpB.put {S : Nat → Prop} {n₀ : Nat} {w W : World} (h : KpB S n₀ w W) (l : Nat) (o' : Obj) (hl : S l ∨ n₀ ≤ l) : KpB S n₀ w (W.putObj l o') :=
  h.trans ⟨rfl, rfl, rfl, by simp, fun k hk hs => World.putObj_heap_other (fun e => hl.elim (fun hl => hs (e ▸ hl)) (fun hl => by omega))⟩
theorem kpB_of_below {S : Nat → Prop} {n₀ : Nat} {W W' : World} (h : Below n₀ W W') : KpB S n₀ W W' := ⟨h.os, h.tape, h.output, h.size, fun k hk _ => h.block k hk⟩
theorem KpB.below {S : Nat → Prop} {n₀ : Nat} {W W' : World} (h : KpB S n₀ W W') (hS : ∀ k, S k → n₀ ≤ k) : Below n₀ W W' := ⟨h.os, h.tape, h.output, h.size, fun k hk => h.block k hk (fun hs => by have := hS k hs; omega)⟩
theorem KpB.set {S : Nat → Prop} {n₀ : Nat} {w W : World} (hw : KpB S n₀ w W) {k : Nat} (o : Nat) (v : Value) (h : S k ∨ n₀ ≤ k) : KpB S n₀ w (W.setCell ⟨k, o, none⟩ v) :=
  hw.trans ⟨rfl, rfl, rfl, by simp [World.setCell], fun i hi hs => Below.heap_setCell _ _ _ _ (fun e => by cases e; exact h.elim (fun h => hs h) (fun h => by simp at hi; omega))⟩
theorem KpB.alloc {S : Nat → Prop} {n₀ : Nat} {w W : World} (hw : KpB S n₀ w W) (o : Obj) (h : n₀ ≤ W.heap.size) : KpB S n₀ w (W.alloc o) := hw.trans (kpB_of_below ((Below.refl _ W).alloc h o))
theorem KpB.mono {S S' : Nat → Prop} {n₀ n₁ : Nat} {W W' : World} (h : KpB S n₀ W W') (hn : n₁ ≤ n₀) (hS : ∀ k, k < n₁ → S k → S' k) : KpB S' n₁ W W' := ⟨h.os, h.tape, h.output, h.size, fun k hk hs => h.block k (by omega) (fun hk' => hs (hS k hk hk'))⟩
theorem KpB.cell {S : Nat → Prop} {n₀ : Nat} {W W' : World} (h : KpB S n₀ W W') {b o : Nat} (hb : b < n₀) (hs : ¬ S b) : W'.cell? ⟨b, o, none⟩ = W.cell? ⟨b, o, none⟩ := World.cell?_of_block (h.block b hb hs)
theorem KpB.frozen {S : Nat → Prop} {n₀ : Nat} {W W' : World} (h : KpB S n₀ W W') {b o : Nat} (hb : b < n₀) (hs : ¬ S b) : W'.frozen? ⟨b, o, none⟩ = W.frozen? ⟨b, o, none⟩ := World.frozen?_of_block (h.block b hb hs)

/-- The blocks from B up to D. -/
def Seg (B D : Nat) : Nat → Prop := fun k => B ≤ k ∧ k < D

variable {F : Fence} {n : Nat} {P : Program}

open Go.RowKit

/-! A region that draws its order, inside a round of a range over a function: walked once, as outside. -/
/-- No operation of the region defers. -/
def noDefer (l : List Oper) : Bool := l.all fun o => match o.op with | .defer _ => false | _ => true
theorem noDefer_at {l : List Oper} (h : noDefer l = true) {i : Nat} {o : Oper} (ho : l[i]? = some o) : ∀ c, o.op ≠ .defer c := by
  intro c hc
  have := List.all_eq_true.1 h o (List.mem_of_getElem? ho)
  rw [hc] at this
  cases this
theorem wpOpIn_round {l n : Nat} {P : Program} {ops : Array Oper} {Q : Exit → Act → World → Prop} (hd : ∀ (i : Nat) (o : Oper), ops[i]? = some o → ∀ c, o.op ≠ .defer c) (hQ : ¬ LetsOut Q) {i : Nat} {K K' : Act → World → Prop} {a : Act} {w : World} (hK : ∀ a w, K a w → K' a w)
    (h : wpOp P ops Q i K a w) : wpOpIn (Fence.wide.inRound l) n P ops Q i K' a w := by
  unfold wpOp at h
  unfold wpOpIn
  cases ho : ops[i]? with
  | none => rw [ho] at h; exact hK _ _ h
  | some o =>
    rw [ho] at h
    simp only at h ⊢
    by_cases hw : Region.wanted o (yielded ops a.tmps) = true
    · rw [if_pos hw] at h ⊢
      have h := h.resolve_right (fun hh => hQ hh.2)
      refine ⟨fun _ _ => trivial, ?_⟩
      rw [Fence.inRound_round, Oper.semAt_some _ _ _ (hd i o ho)]
      unfold Oper.wp at h
      revert h
      generalize (execOp a.eval o).run P w = r
      intro h
      cases r with
      | ok x w' =>
        cases x with
        | enter f args =>
          refine ⟨(fun hh => by cases hh), CallsIn.inRound l (callsIn_wide.2 (Calls.mono h ?_))⟩
          intro e w'' he
          cases e with
          | returned v => exact hK _ _ he
          | panicked chain => exact he
          | outgrown => exact he
        | row row args => exact ⟨(fun hh => by cases hh), fun c cs _ => let ⟨v, w', r, s⟩ := h c cs; ⟨v, w', hK _ _ r, stepsIn_wide.2 s⟩⟩
        | value v => exact hK _ _ h
        | skip => exact hK _ _ h
        | defer d => exact hK _ _ h
        | _ => exact h.elim
      | halt x w' => cases x <;> simp only [Oper.upon] at h <;> simp only [Oper.uponIn] <;> first | exact h | exact h.elim
    · rw [if_neg hw] at h ⊢
      exact ⟨fun _ _ => trivial, hK _ _ h⟩
theorem wpAnyIn_round {l n : Nat} {P : Program} {md : Region.Mode} {ops : Array Oper} {Q : Exit → Act → World → Prop} (hd : ∀ (i : Nat) (o : Oper), ops[i]? = some o → ∀ c, o.op ≠ .defer c) (hQ : ¬ LetsOut Q) : ∀ (fuel : Nat) (listed : Array Bool) (a : Act) (w : World),
    wpAny P md ops Q fuel listed a w → wpAnyIn (Fence.wide.inRound l) n P md ops Q fuel listed a w
  | 0, _, _, _, h => h
  | fuel + 1, _, _, _, h => ⟨h.1, fun i hi => wpOpIn_round hd hQ (fun a w hh => wpAnyIn_round hd hQ fuel _ a w hh) (h.2 i hi)⟩
/-! A region whose last operation (a store, a builtin without a slot) waits for all others, which are quiet. -/
/-- The same operation, that does nothing. -/
def idle (o : Oper) : Oper := { o with op := .move (.const undef) }
def waitsAll (n : Nat) (o : Oper) : Bool := (List.range n).all fun j => o.after.any fun e => Region.binds .any e && e.on == j
def lastOK (n : Nat) (o : Oper) : Bool := o.guard.isNone && (o.dst.isNone && waitsAll n o)
/-- Each operation waits for earlier ones alone. -/
def backB (L : List Oper) : Bool := (List.range L.length).all fun j => (L.getD j default).after.all fun e => decide (e.on < j)
theorem backB_at {L : List Oper} (h : backB L = true) {j : Nat} {o : Oper} (ho : L[j]? = some o) : ∀ e ∈ o.after, e.on < j := by
  obtain ⟨hj, e1⟩ := List.getElem?_eq_some_iff.1 ho
  have := List.all_eq_true.1 h j (List.mem_range.2 hj)
  rw [List.getD, ho] at this
  intro e he
  obtain ⟨i, hi, rfl⟩ := Array.getElem_of_mem he
  have := Array.all_eq_true.1 this i hi
  simpa using this
theorem ready_none {L : List Oper} (h : backB L = true) {listed : Array Bool} (hz : listed.size = L.length) (hr : Region.ready .any L.toArray listed = []) : ∀ j, j < L.length → listed.getD j true = true := by
  intro j
  induction j using Nat.strongRecOn with
  | ind j ih =>
    intro hj
    cases hb : listed.getD j true with
    | true => rfl
    | false =>
      have : j ∈ Region.ready .any L.toArray listed := by
        rw [mem_ready]
        refine ⟨hb, L[j], by simp [hj], fun e he _ => ?_⟩
        have h1 := backB_at h (List.getElem?_eq_getElem hj) e he
        have h2 := ih e.on h1 (by omega)
        have h3 : e.on < listed.size := by omega
        simpa [h3] using h2
      rw [hr] at this
      simp at this
theorem waitsAll_at {n : Nat} {o : Oper} (h : waitsAll n o = true) {j : Nat} (hj : j < n) : ∃ e ∈ o.after, Region.binds .any e = true ∧ e.on = j := by
  have := List.all_eq_true.1 h j (List.mem_range.2 hj)
  obtain ⟨i, hi, h1⟩ := Array.any_eq_true.1 this
  simp only [Bool.and_eq_true, beq_iff_eq] at h1
  exact ⟨_, Array.getElem_mem hi, h1⟩
theorem snoc_at {α : Type} (l : List α) (x : α) (j : Nat) : (l ++ [x]).toArray[j]? = if j = l.length then some x else l[j]? := by
  simp only [List.getElem?_toArray]
  by_cases h : j = l.length
  · subst h; simp
  · rw [if_neg h]
    by_cases h2 : j < l.length
    · rw [List.getElem?_append_left h2]
    · rw [List.getElem?_append_right (by omega), List.getElem?_eq_none (by simp; omega), List.getElem?_eq_none (by omega)]
theorem ready_idle {l : List Oper} {o : Oper} {listed : Array Bool} {j : Nat} : j ∈ Region.ready .any (l ++ [idle o]).toArray listed ↔ j ∈ Region.ready .any (l ++ [o]).toArray listed := by
  rw [mem_ready, mem_ready, snoc_at, snoc_at]
  by_cases h : j = l.length
  · rw [if_pos h, if_pos h]; simp [idle]
  · rw [if_neg h, if_neg h]
theorem yielded_idle {l : List Oper} {o : Oper} (hd : o.dst = none) (tmps : Array Value) : yielded (l ++ [idle o]).toArray tmps = yielded (l ++ [o]).toArray tmps := by
  funext j
  unfold yielded
  rw [snoc_at, snoc_at]
  by_cases h : j = l.length
  · rw [if_pos h, if_pos h]; simp [idle, hd]
  · rw [if_neg h, if_neg h]
/-- What is asked behind the quiet operations: the last one. -/
def lastQ (P : Program) (o : Oper) (Q : Exit → Act → World → Prop) : Exit → Act → World → Prop
  | .normal, a, w => o.wp P a w (fun a' w' => Q .normal a' w') Q
  | e, a, w => Q e a w
theorem upon_lastQ {P : Program} {o o' : Oper} {a : Act} {w : World} {K K' : Act → World → Prop} {Q : Exit → Act → World → Prop} (hK : ∀ a w, K a w → K' a w) (h : o'.wp P a w K (lastQ P o Q)) : o'.wp P a w K' Q := by
  unfold Oper.wp at *
  generalize (execOp a.eval o').run P w = r at *
  cases r with
  | ok x w' =>
    cases x with
    | enter f args =>
      refine Calls.mono h ?_
      intro e w'' he
      cases e with
      | returned v => exact hK _ _ he
      | panicked chain => exact he
      | outgrown => exact he
    | row row args => exact Rows.mono h fun v w' r => hK _ _ r
    | value v => exact hK _ _ h
    | skip => exact hK _ _ h
    | defer d => exact hK _ _ h
    | _ => exact h.elim
  | halt x w' => cases x <;> first | exact h | exact h.elim
theorem wpAny_idle {P : Program} {l : List Oper} {o : Oper} {Q : Exit → Act → World → Prop} (hl : lastOK l.length o = true) (hb : backB (l ++ [o]) = true) : ∀ (fuel : Nat) (listed : Array Bool) (a : Act) (w : World), listed.size = l.length + 1 →
    listed.getD l.length true = false → wpAny P .any (l ++ [idle o]).toArray (lastQ P o Q) fuel listed a w → wpAny P .any (l ++ [o]).toArray Q fuel listed a w := by
  simp only [lastOK, Bool.and_eq_true, Option.isNone_iff_eq_none] at hl
  obtain ⟨hg, hd, hw⟩ := hl
  have hlast : ∀ {listed : Array Bool}, l.length ∈ Region.ready .any (l ++ [o]).toArray listed → ∀ j, j < l.length → listed.getD j false = true := fun {listed} hm j hj => by
    obtain ⟨_, o', ho', h⟩ := mem_ready.1 hm
    rw [snoc_at, if_pos rfl] at ho'
    cases ho'
    obtain ⟨e, he, hbb, hon⟩ := waitsAll_at hw hj
    rw [← hon]; exact h e he hbb
  have hno : ∀ {listed : Array Bool}, listed.size = l.length + 1 → listed.getD l.length true = false → Region.ready .any (l ++ [o]).toArray listed ≠ [] := fun {listed} hz hu hr => by
    have := ready_none hb (by rw [List.length_append]; exact hz) hr l.length (by simp)
    rw [this] at hu; cases hu
  intro fuel
  induction fuel with
  | zero =>
    intro listed a w hz hu h
    exact (hno hz hu (List.eq_nil_iff_forall_not_mem.2 fun j hj => by rw [← ready_idle, h.1] at hj; cases hj)).elim
  | succ fuel ih =>
    intro listed a w hz hu h
    refine ⟨fun hr => (hno hz hu hr).elim, fun i hi => ?_⟩
    have h1 := h.2 i (ready_idle.2 hi)
    by_cases hil : i = l.length
    · subst hil
      have hall := hlast hi
      have hrn : ∀ j, j ∉ Region.ready .any (l ++ [o]).toArray (listed.setIfInBounds l.length true) := fun j hj => by
        obtain ⟨h2, o', ho', -⟩ := mem_ready.1 hj
        have hjl : j < l.length + 1 := by
          have := (Array.getElem?_eq_some_iff.1 ho').1
          simpa using this
        by_cases e : j = l.length
        · subst e
          rw [Array.getD_eq_getD_getElem?, Array.getElem?_setIfInBounds_self_of_lt (by omega)] at h2
          simp at h2
        · rw [getD_set_ne true (Ne.symm e)] at h2
          have h3 := hall j (by omega)
          have h4 : j < listed.size := by omega
          simp [h4] at h2 h3
          rw [h2] at h3; cases h3
      have hend : ∀ {Q0 : Exit → Act → World → Prop} {a' : Act} {w' : World}, Q0 .normal a' w' → wpAny P .any (l ++ [o]).toArray Q0 fuel (listed.setIfInBounds l.length true) a' w' := fun {Q0 a' w'} hq => by
        cases fuel with
        | zero => exact ⟨List.eq_nil_iff_forall_not_mem.2 hrn, hq⟩
        | succ fuel => exact ⟨fun _ => hq, fun j hj => (hrn j hj).elim⟩
      -- what the idle operation leaves
      have hq : lastQ P o Q .normal a w := by
        unfold wpOp at h1
        rw [snoc_at, if_pos rfl] at h1
        have hgi : (idle o).guard = none := hg
        have hdi : (idle o).dst = none := hd
        have hex : execOp a.eval (idle o) = pure (.value (a.eval (.const undef))) := rfl
        simp only [Region.wanted, hgi, if_true] at h1
        have hk : wpAny P .any (l ++ [idle o]).toArray (lastQ P o Q) fuel (listed.setIfInBounds l.length true) a w := by
          rcases h1 with h1 | ⟨h1, _⟩
          · unfold Oper.wp at h1
            rw [hex] at h1
            simpa [Oper.upon, Act.put, hdi] using h1
          · unfold Oper.asks at h1
            rw [hex] at h1
            exact absurd (show noRoomEvent ∈ (#[] : Array Event) from h1.1) (by simp)
        cases fuel with
        | zero => exact hk.2
        | succ fuel => exact hk.1 (List.eq_nil_iff_forall_not_mem.2 fun j hj => hrn j (ready_idle.1 hj))
      unfold wpOp
      rw [snoc_at, if_pos rfl]
      simp only [Region.wanted, hg, if_true]
      refine .inl (Oper.wp_mono (fun a' w' h' => hend h') hq)
    · have hi2 : (l ++ [idle o]).toArray[i]? = (l ++ [o]).toArray[i]? := by rw [snoc_at, snoc_at, if_neg hil, if_neg hil]
      unfold wpOp at h1 ⊢
      rw [hi2, yielded_idle hd] at h1
      have hset : (listed.setIfInBounds i true).size = l.length + 1 := by simp [hz]
      have hun : (listed.setIfInBounds i true).getD l.length true = false := by rw [getD_set_ne true hil]; exact hu
      cases ho : (l ++ [o]).toArray[i]? with
      | none => rw [ho] at h1; exact ih _ _ _ hset hun h1
      | some o' =>
        rw [ho] at h1
        simp only at h1 ⊢
        split at h1
        · rename_i hwt
          rw [if_pos hwt]
          rcases h1 with h1 | ⟨h1, a', w', h2⟩
          · exact .inl (upon_lastQ (fun a w hh => ih _ a w hset hun hh) h1)
          · exact .inr ⟨h1, a', w', h2⟩
        · rename_i hwt
          rw [if_neg hwt]
          exact ih _ _ _ hset hun h1
theorem wpQuiet_snoc {P : Program} {ops : Array Oper} {C : World → Prop} {Q : Act → Prop} {o : Oper} (hg : o.guard = none) (hd : o.dst = none) : ∀ (l : List Oper) (a : Act), wpQuiet P ops C Q l a → wpQuiet P ops C Q (l ++ [idle o]) a
  | [], a, h => by
    have hgi : (idle o).guard = none := hg
    have hdi : (idle o).dst = none := hd
    rw [List.nil_append, wpQuiet, if_pos (by simp [Region.wanted, hgi])]
    refine ⟨a.eval (.const undef), fun w _ => ?_, by simpa [Act.put, hdi] using h⟩
    exact ⟨rfl, rfl⟩
  | o' :: l, a, h => by
    rw [wpQuiet] at h
    rw [List.cons_append, wpQuiet]
    split
    · rename_i hw
      rw [if_pos hw] at h
      exact Oper.quiet_mono (fun a' h' => wpQuiet_snoc hg hd l a' h') h
    · rename_i hw
      rw [if_neg hw] at h
      exact wpQuiet_snoc hg hd l _ h
theorem wpAny_tail {P : Program} {l : List Oper} {o : Oper} {Q : Exit → Act → World → Prop} {C : World → Prop} {a : Act} {w : World} (hl : lastOK l.length o = true) (hb : backB (l ++ [o]) = true) (hB : Region.lexB .any (l ++ [idle o]).toArray = true) (hC : C { w with drawn := w.drawn + 1 })
    (h : wpQuiet P (l ++ [idle o]).toArray C (fun a' => ∀ w', C w' → o.wp P a' w' (fun a'' w'' => Q .normal a'' w'') Q) l a) :
    wpAny P .any (l ++ [o]).toArray Q (l ++ [o]).toArray.size (Array.replicate (l ++ [o]).toArray.size false) a { w with drawn := w.drawn + 1 } := by
  simp only [Region.lexB, Bool.and_eq_true] at hB
  have hl' := hl
  simp only [lastOK, Bool.and_eq_true, Option.isNone_iff_eq_none] at hl'
  refine wpAny_idle hl hb _ _ _ _ (by simp) (by simp) ?_
  refine wpAny_of_quiet (Q := fun a' => ∀ w', C w' → o.wp P a' w' (fun a'' w'' => Q .normal a'' w'') Q) (fun _ w' hw' h => h w' hw') _ _ _ _ hC ?_
  have := wpAnyQ_lex (C := C) (md := .any) hB.1 (l ++ [idle o]).toArray.toList 0 (Array.replicate (l ++ [idle o]).toArray.size false) a (by simp) (by simpa using hB.2) (by simpa using wpQuiet_snoc hl'.1 hl'.2.1 l a h)
  simpa using this
/-- The region as the walk meets it: its first N operations are quiet. -/
theorem wpIn_region_tail {k n id : Nat} {P : Program} {L : List Oper} {Q : Exit → Act → World → Prop} {C : World → Prop} {a : Act} {w : World} (l : List Oper) (o : Oper) (hL : L = l ++ [o]) (hQ : ¬ LetsOut Q) (hd : noDefer L = true) (hm : P.follows .mixedOrders = true) (hl : lastOK l.length o = true) (hb : backB L = true) (hB : Region.lexB .any (l ++ [idle o]).toArray = true)
    (hC : C { w with drawn := w.drawn + 1 }) (h : wpQuiet P (l ++ [idle o]).toArray C (fun a' => ∀ w', C w' → o.wp P a' w' (fun a'' w'' => Q .normal a'' w'') Q) l a) : (Code.region id L.toArray true).wpIn (Fence.wide.inRound k) n P Q a w := by
  subst hL
  exact wpIn_region_any hm (wpAnyIn_round (fun i o ho => noDefer_at hd (by simpa using ho)) hQ _ _ _ _ (wpAny_tail hl hb hB hC h))
open Go.RowKit

/-- **AN ITERATOR THAT MAKES MEMORY AND WRITES NOTHING ELDER, WHOSE YIELDS CAN BE SEEN**: 'Sees B x args X' tells what it hands over at a yield, and how that lies in memory (from B on). S: what the round may write of what lay in w₀. -/
def SeqMakes {α : Type} (F : Fence) (n : Nat) (P : Program) (g : Nat) (fb lb : Array Value) (S : Nat → Prop) (Sees : Nat → α → Array Value → World → Prop) (xs : List α) (w₀ : World) : Prop :=
  ∀ (l : Nat) (J Jx : List α → World → Prop) (W : World), Below w₀.heap.size w₀ W →
    (∀ s X Y, W.heap.size ≤ X.heap.size → J s X → Below X.heap.size X Y → J s Y) →
    (∀ s X Y, W.heap.size ≤ X.heap.size → Jx s X → Below X.heap.size X Y → Jx s Y) →
    (∀ pre x args X, W.heap.size ≤ X.heap.size → J pre X → Sees W.heap.size x args X → pre ++ [x] <+: xs →
      YieldAt F (n - 1) P l args X fun e X' => KpB (fun k => S k ∨ Seg w₀.heap.size W.heap.size k) X.heap.size X X' ∧
        ((e = .returned (.bool true) ∧ J (pre ++ [x]) X') ∨ (e = .returned (.bool false) ∧ Jx (pre ++ [x]) X'))) →
    J [] W →
    CallsIn F n P g (fb ++ #[.func (.yield l) #[] #[]] ++ lb) W fun e W' => (∃ v, e = .returned v) ∧ W.heap.size ≤ W'.heap.size ∧ (J xs W' ∨ ∃ pre, pre <+: xs ∧ Jx pre W')

/-- How the body of a round may be left. -/
def makesPost {α : Type} (S : Nat → Prop) (I : List α → World → Prop) (Ix : Code → List α → World → Prop) (xs : List α) (X : World) : Exit → Act → World → Prop
  | .normal, _, X' => KpB S X.heap.size X X' ∧ I xs X'
  | .ret, _, X' => KpB S X.heap.size X X' ∧ Ix .ret xs X'
  | .exit id, _, X' => KpB S X.heap.size X X' ∧ Ix (.exit id) xs X'
  | .goto t, _, X' => KpB S X.heap.size X X' ∧ Ix (.goto t) xs X'
  | .panic _, _, _ => False
  | .outgrown, _, _ => False

variable {F : Fence} {n : Nat} {P : Program}

theorem wpIn_rangeFunc_makes {α : Type} {g : Operand} {ps : Array Tmp} {assign body : Code} {Q : Exit → Act → World → Prop} {a : Act} {w : World}
    (hro : F.round = none) (h1 : 1 ≤ n) {gf : Nat} {fb lb : Array Value} (hg : a.eval g = .func (.func gf) fb lb) (hFg : F.fn gf) (eg : ∀ args w, (callFunc gf args).run P w = .ok (.enter gf args) w)
    {S : Nat → Prop} {Sees : Nat → α → Array Value → World → Prop} {xs : List α} {w0 : World} (hseq : SeqMakes F (n - 1) P gf fb lb S Sees xs w0) (hb0 : Below w0.heap.size w0 w) (hS : ∀ k, S k → k < w.heap.size)
    (hps : ∀ B x args X, Sees B x args X → args.size = ps.size)
    (hSees : ∀ B x args X Y, B ≤ X.heap.size → Sees B x args X → KpB (fun k => k < B) X.heap.size X Y → Sees B x args Y)
    (I : List α → World → Prop) (Ix : Code → List α → World → Prop)
    (hI : ∀ s X Y, w.heap.size + 2 ≤ X.heap.size → I s X → KpB (Seg w.heap.size (w.heap.size + 2)) X.heap.size X Y → I s Y)
    (hIx : ∀ c s X Y, w.heap.size + 2 ≤ X.heap.size → Ix c s X → KpB (Seg w.heap.size (w.heap.size + 2)) X.heap.size X Y → Ix c s Y)
    (h0 : ∀ X, w.heap.size + 2 ≤ X.heap.size → Below w.heap.size w X → I [] X)
    (Ax : α → Array Value → Act → World → Prop) (hAx : ∀ x args a' X Y, w.heap.size + 2 ≤ X.heap.size → Ax x args a' X → KpB (fun k => k < w.heap.size + 2) X.heap.size X Y → Ax x args a' Y)
    (hassign : ∀ (l : Nat) (x : α) (args : Array Value) (X : World) (K : Act → World → Prop), w.heap.size + 2 ≤ X.heap.size → Sees (w.heap.size + 2) x args X → (∀ a' X', (X' = X ∨ ∃ o, X' = X.alloc o) → Ax x args a' X' → K a' X') →
      assign.wpIn (F.inRound l) (n - 1 - 1) P (Exit.then K (fun _ _ _ => False)) { tmps := (ps.zip args).foldl (fun t (p, v) => t.setIfInBounds p v) a.tmps, defers := [] } X)
    (hbody : ∀ (l : Nat) (pre : List α) (x : α) (args : Array Value) (a' : Act) (X : World), w.heap.size + 2 ≤ X.heap.size → pre ++ [x] <+: xs → I pre X → Sees (w.heap.size + 2) x args X → Ax x args a' X →
      body.wpIn (F.inRound l) (n - 1 - 1) P (makesPost S I Ix (pre ++ [x]) X) a' X)
    (hdone : ∀ (X : World), w.heap.size + 2 ≤ X.heap.size → I xs X → X.heap[w.heap.size]? = some (.deferred (some [])) → Q .normal { a with defers := { target := .collected w.heap.size, args := #[] } :: a.defers } X)
    (hstop : ∀ (c : Code) (pre : List α) (X : World), w.heap.size + 2 ≤ X.heap.size → pre <+: xs → Ix c pre X → X.heap[w.heap.size]? = some (.deferred (some [])) →
      c.wpIn F n P Q { a with defers := { target := .collected w.heap.size, args := #[] } :: a.defers } X) :
    (Code.rangeFunc g ps assign body).wpIn F n P Q a w := by
  refine wpIn_rangeFunc ?_
  intro fn hfn
  rw [hro]
  obtain ⟨rec, hrec⟩ : ∃ rec : LoopState → Option Code → Loop, rec = fun st pe => { state := st, pending := pe, fn, tmps := a.tmps, params := ps, assign, body, defers := w.heap.size } := ⟨_, rfl⟩
  obtain ⟨W1, hW1⟩ : ∃ W1, (w.alloc (.deferred (some []))).alloc (.loop (rec .ready none)) = W1 := ⟨_, rfl⟩
  have hL1 : W1.heap[w.heap.size + 1]? = some (.loop (rec .ready none)) := by
    rw [← hW1]; have := World.alloc_heap_new (w.alloc (.deferred (some []))) (.loop (rec .ready none)); rwa [World.size_alloc] at this
  have hK1 : W1.heap[w.heap.size]? = some (.deferred (some [])) := by
    rw [← hW1]; exact (Below.heap_alloc _ _ _ (by simp)).trans (World.alloc_heap_new w _)
  have hb1w : Below w.heap.size w W1 := by
    rw [← hW1]; exact ((Below.refl _ w).alloc (Nat.le_refl _) _).alloc (by simp) _
  have hb1 : Below w0.heap.size w0 W1 := hb0.trans (hb1w.mono hb0.size)
  have hz1 : W1.heap.size = w.heap.size + 2 := by rw [← hW1]; simp
  refine ⟨w.heap.size + 1, [{ target := .collected w.heap.size, args := #[] }], W1, { target := .fn (.func gf) lb, args := fb ++ #[.func (.yield (w.heap.size + 1)) #[] #[]] }, W1, gf,
    fb ++ #[.func (.yield (w.heap.size + 1)) #[] #[]] ++ lb, W1, ?_, ?_, ?_, ?_, fun _ => h1, ?_⟩
  · rw [← hW1, hrec]; exact run_enterLoop_outer _ _ _ _ _
  · simp only [resolve, hg]
    simp [go_sem, Deferred.ofValue]
  · intro f' hf'; simp [Target.leads] at hf'; subst hf'; exact hFg
  · simp [invoke, go_sem, eg]
  · have hbk : ∀ {X Y : World}, Below X.heap.size X Y → KpB (Seg w.heap.size (w.heap.size + 2)) X.heap.size X Y := fun h => kpB_of_below h
    refine (hseq (w.heap.size + 1)
      (fun pre X => I pre X ∧ X.heap[w.heap.size + 1]? = some (.loop (rec .ready none)) ∧ X.heap[w.heap.size]? = some (.deferred (some [])))
      (fun pre X => ∃ c, Ix c pre X ∧ X.heap[w.heap.size + 1]? = some (.loop (rec .done (some c))) ∧ X.heap[w.heap.size]? = some (.deferred (some [])))
      W1 hb1
      (fun s X Y hX hs hk => ⟨hI s X Y (by omega) hs.1 (hbk hk), (hk.block _ (by omega)).trans hs.2.1, (hk.block _ (by omega)).trans hs.2.2⟩)
      (fun s X Y hX hs hk => by
        obtain ⟨c, hc, hl, hkk⟩ := hs
        exact ⟨c, hIx c s X Y (by omega) hc (hbk hk), (hk.block _ (by omega)).trans hl, (hk.block _ (by omega)).trans hkk⟩)
      ?_ ⟨h0 _ (by omega) hb1w, hL1, hK1⟩).mono ?_
    · -- one round
      rintro pre x args X hX ⟨hi, hl, hk⟩ hsee hpre
      rw [hz1] at hsee
      have hy := run_yield (P := P) (args := args) hl (by rw [hrec]; exact hps _ x args X hsee)
      rw [hrec] at hy
      refine ⟨fn, _, assign, body, hy, roundIn_of_wpIn hfn (hassign _ x args X _ (by omega) hsee ?_)⟩
      clear hy
      intro a' Xa hXa hax
      have hka : KpB (fun _ => False) X.heap.size X Xa := by
        rcases hXa with rfl | ⟨o, rfl⟩
        · exact KpB.refl _ _ _
        · exact (KpB.refl _ _ _).alloc _ (Nat.le_refl _)
      have hza : X.heap.size ≤ Xa.heap.size := hka.size
      have hla : Xa.heap[w.heap.size + 1]? = some (.loop (rec .ready none)) := (hka.block _ (by omega) (fun h => h)).trans hl
      have hkka : Xa.heap[w.heap.size]? = some (.deferred (some [])) := (hka.block _ (by omega) (fun h => h)).trans hk
      have hia : I pre Xa := hI pre X Xa (by omega) hi (hka.mono (Nat.le_refl _) fun _ _ h => h.elim)
      have hseea : Sees (w.heap.size + 2) x args Xa := hSees _ _ _ _ _ (by omega) hsee (hka.mono (Nat.le_refl _) fun _ _ h => h.elim)
      refine ⟨_, run_beginRound hla (by rw [hrec]), ?_⟩
      obtain ⟨Xb, hXb⟩ : ∃ Xb, Xa.putObj (w.heap.size + 1) (.loop { rec .ready none with state := .busy }) = Xb := ⟨_, rfl⟩
      have hlb : Xb.heap[w.heap.size + 1]? = some (.loop { rec .ready none with state := .busy }) := by rw [← hXb]; exact World.putObj_heap_same (by omega)
      have hkb : Xb.heap[w.heap.size]? = some (.deferred (some [])) := by rw [← hXb]; exact (World.putObj_heap_other (by omega)).trans hkka
      have hzb : Xb.heap.size = Xa.heap.size := by rw [← hXb]; simp
      have hab : KpB (fun k => k = w.heap.size + 1) Xa.heap.size Xa Xb := by rw [← hXb]; exact (KpB.refl _ _ _).put _ _ (.inl rfl)
      rw [hXb]
      have hib : I pre Xb := hI pre Xa Xb (by omega) hia (hab.mono (Nat.le_refl _) fun k _ h => ⟨by omega, by omega⟩)
      have hseeb : Sees (w.heap.size + 2) x args Xb := hSees _ _ _ _ _ (by omega) hseea (hab.mono (Nat.le_refl _) fun k _ h => (by have h' : k = w.heap.size + 1 := h; omega : k < w.heap.size + 2))
      have haxb : Ax x args a' Xb := hAx _ _ _ _ _ (by omega) hax (hab.mono (Nat.le_refl _) fun k _ h => (by have h' : k = w.heap.size + 1 := h; omega : k < w.heap.size + 2))
      refine wpIn_mono (hbody _ pre x args a' Xb (by omega) hpre hib hseeb haxb) ?_
      have hS' : ∀ {X3}, KpB S Xb.heap.size Xb X3 → ∀ (o : Obj), KpB (fun k => S k ∨ Seg w0.heap.size W1.heap.size k) X.heap.size X (X3.putObj (w.heap.size + 1) o) := fun {X3} h3 o => by
        have hw0 := hb0.size
        have hl' : Seg w0.heap.size W1.heap.size (w.heap.size + 1) := ⟨by omega, by omega⟩
        have k1 : KpB (fun k => S k ∨ Seg w0.heap.size W1.heap.size k) X.heap.size X Xa := hka.mono (by omega) fun _ _ h => h.elim
        have k2 : KpB (fun k => S k ∨ Seg w0.heap.size W1.heap.size k) X.heap.size Xa Xb := hab.mono (by omega) fun k _ h => by have h' : k = w.heap.size + 1 := h; subst h'; exact .inr hl'
        have k3 : KpB (fun k => S k ∨ Seg w0.heap.size W1.heap.size k) X.heap.size Xb X3 := h3.mono (by omega) fun _ _ h => .inl h
        exact ((k1.trans k2).trans k3).put _ _ (.inl (.inr hl'))
      have fin : ∀ (jump : Option Code) (X3 : World), KpB S Xb.heap.size Xb X3 →
          (Instr.endRound (w.heap.size + 1) jump).run P X3 = .ok (.bool jump.isNone) (X3.putObj (w.heap.size + 1) (.loop (rec (if jump.isNone then .ready else .done) jump))) ∧
          w.heap.size + 2 ≤ X3.heap.size ∧
          (X3.putObj (w.heap.size + 1) (.loop (rec (if jump.isNone then .ready else .done) jump))).heap[w.heap.size + 1]? = some (.loop (rec (if jump.isNone then .ready else .done) jump)) ∧
          (X3.putObj (w.heap.size + 1) (.loop (rec (if jump.isNone then .ready else .done) jump))).heap[w.heap.size]? = some (.deferred (some [])) ∧
          KpB (Seg w.heap.size (w.heap.size + 2)) X3.heap.size X3 (X3.putObj (w.heap.size + 1) (.loop (rec (if jump.isNone then .ready else .done) jump))) := fun jump X3 hk3 => by
        have hns : ¬ S (w.heap.size + 1) := fun h => by have := hS _ h; omega
        have hns' : ¬ S w.heap.size := fun h => by have := hS _ h; omega
        have hl3 := (hk3.block _ (by omega) hns).trans hlb
        have hk3' := (hk3.block _ (by omega) hns').trans hkb
        have hz3 := hk3.size
        have := run_endRound (P := P) jump hl3
        rw [hrec] at this ⊢
        exact ⟨this, by omega, World.putObj_heap_same (by omega), (World.putObj_heap_other (by omega)).trans hk3', (KpB.refl _ _ _).put _ _ (.inl ⟨by omega, by omega⟩)⟩
      rintro e a3 X3 hp
      cases e with
      | normal =>
        obtain ⟨hk3, hi3⟩ := hp
        obtain ⟨hr, hz3, hl4, hk4, hs4⟩ := fin none X3 hk3
        exact ⟨_, _, hr, hS' hk3 _, .inl ⟨rfl, hI _ _ _ hz3 hi3 hs4, hl4, hk4⟩⟩
      | ret =>
        obtain ⟨hk3, hi3⟩ := hp
        obtain ⟨hr, hz3, hl4, hk4, hs4⟩ := fin (some .ret) X3 hk3
        exact ⟨_, _, hr, hS' hk3 _, .inr ⟨rfl, .ret, hIx _ _ _ _ hz3 hi3 hs4, hl4, hk4⟩⟩
      | exit id =>
        obtain ⟨hk3, hi3⟩ := hp
        obtain ⟨hr, hz3, hl4, hk4, hs4⟩ := fin (some (.exit id)) X3 hk3
        exact ⟨_, _, hr, hS' hk3 _, .inr ⟨rfl, .exit id, hIx _ _ _ _ hz3 hi3 hs4, hl4, hk4⟩⟩
      | goto t =>
        obtain ⟨hk3, hi3⟩ := hp
        obtain ⟨hr, hz3, hl4, hk4, hs4⟩ := fin (some (.goto t)) X3 hk3
        exact ⟨_, _, hr, hS' hk3 _, .inr ⟨rfl, .goto t, hIx _ _ _ _ hz3 hi3 hs4, hl4, hk4⟩⟩
      | panic ch => exact hp.elim
      | outgrown => exact hp.elim
    · -- behind the iterator
      rintro e W2 ⟨⟨v, rfl⟩, hD2, (⟨hi, hl, hk⟩ | ⟨pre, hpre, c, hi, hl, hk⟩)⟩
      · refine ⟨none, _, by have := run_endLoop (P := P) hl (by rw [hrec]; simp); rw [hrec] at this; exact this, hdone _ (by simp; omega) (hI _ _ _ (by omega) hi ((KpB.refl _ _ _).put _ _ (.inl ⟨by omega, by omega⟩))) ((World.putObj_heap_other (by omega)).trans hk)⟩
      · refine ⟨some c, _, by have := run_endLoop (P := P) hl (by rw [hrec]; simp); rw [hrec] at this; exact this, hstop c pre _ (by simp; omega) hpre (hIx _ _ _ _ (by omega) hi ((KpB.refl _ _ _).put _ _ (.inl ⟨by omega, by omega⟩))) ((World.putObj_heap_other (by omega)).trans hk)⟩
end Go.Proofs.YtmbcpmnigggbaabGreat.Li
namespace Go.Proofs.YtmbcpmnigggbaabGreat.Cu
open Go.RowKit
attribute [local go_sem] Oper.semAt_some
theorem wpIn_region_tailC {P : Program} {k n id : Nat} {Q : Exit → Act → World → Prop} {a : Act} {w : World} {L : List Oper} (N : Nat) (hL : L = L.take N ++ [L.getD N default]) (hQ : ¬ LetsOut Q) (hd : Li.noDefer L = true) (hm : P.follows .mixedOrders = true) (hl : Li.lastOK (L.take N).length (L.getD N default) = true) (hb : Li.backB L = true) (hB : Region.lexB .any (L.take N ++ [Li.idle (L.getD N default)]).toArray = true)
    (h : wpQuiet P (L.take N ++ [Li.idle (L.getD N default)]).toArray (fun w' => ∃ x, w' = extB w x) (fun a' => ∀ w', (∃ x, w' = extB w x) → (L.getD N default).wp P a' w' (fun a'' w'' => Q .normal a'' w'') Q) (L.take N) a) : (Code.region id L.toArray true).wpIn (Fence.wide.inRound k) n P Q a w :=
  Li.wpIn_region_tail (C := fun w' => ∃ x, w' = extB w x) _ _ hL hQ hd hm hl hb hB (extB_of (Below.refl _ w).drew) h
theorem wp_region_tailC {P : Program} {id : Nat} {Q : Exit → Act → World → Prop} {a : Act} {w : World} {L : List Oper} (N : Nat) (hL : L = L.take N ++ [L.getD N default]) (hm : P.follows .mixedOrders = true) (hl : Li.lastOK (L.take N).length (L.getD N default) = true) (hb : Li.backB L = true) (hB : Region.lexB .any (L.take N ++ [Li.idle (L.getD N default)]).toArray = true)
    (h : wpQuiet P (L.take N ++ [Li.idle (L.getD N default)]).toArray (fun w' => ∃ x, w' = extB w x) (fun a' => ∀ w', (∃ x, w' = extB w x) → (L.getD N default).wp P a' w' (fun a'' w'' => Q .normal a'' w'') Q) (L.take N) a) : (Code.region id L.toArray true).wp P Q a w := by
  rw [hL]
  exact wp_region_any hm (Li.wpAny_tail (C := fun w' => ∃ x, w' = extB w x) hl (by rw [← hL]; exact hb) hB (extB_of (Below.refl _ w).drew) h)
/-- n arrays of zeros. -/
def zerosL (n : Nat) : List (List Int) := List.replicate n (List.replicate 31 0)
theorem made31 (n : Nat) : madeCells (Value.agg (List.replicate 31 (Value.int .i64 0)).toArray).cells (n * 31) = (vals (zerosL n).flatten).toArray := by
  rw [zerosL, List.flatten_replicate_replicate]
  refine Array.ext (by simp [madeCells, vals]) fun i h1 h2 => ?_
  have h3 : i % 31 < 31 := Nat.mod_lt _ (by omega)
  have h4 : (List.replicate 31 (Value.int .i64 0))[i % 31]? = some (.int .i64 0) := List.getElem?_replicate_of_lt h3
  have e : (madeCells (Value.agg (List.replicate 31 (Value.int .i64 0)).toArray).cells (n * 31))[i] = ((List.replicate 31 (Value.int .i64 0))[i % 31]?).getD default := by
    simp only [madeCells, Value.cells, Array.getElem_map, Array.getElem_range, List.size_toArray, List.length_replicate]
    rw [getElem!_def, List.getElem?_toArray]
    cases (List.replicate 31 (Value.int .i64 0))[i % 31]? <;> rfl
  rw [e, h4]
  simp only [vals, List.map_replicate, List.getElem_toArray, List.getElem_replicate, Option.getD_some]
theorem info226m : (Tryz.prog.info? 124).map (fun i => (i.zero, i.size, i.bytes)) = some (some (.agg (List.replicate 31 (Value.int .i64 0)).toArray), 31, 248) := by kernel_rfl
theorem info_parts3 {i : TypeId} {z : Option Value} {s b : Nat} (h : (Tryz.prog.info? i).map (fun i => (i.zero, i.size, i.bytes)) = some (z, s, b)) : ∃ i0, Tryz.prog.info? i = some i0 ∧ i0.zero = z ∧ i0.size = s ∧ i0.bytes = b := by
  obtain ⟨i0, hi, hzz⟩ := Option.map_eq_some_iff.1 h
  simp only [Prod.mk.injEq] at hzz
  exact ⟨i0, hi, hzz.1, hzz.2.1, hzz.2.2⟩
theorem run_make224 (n : Nat) (hn : n ≤ 1000) (w : World) : (Instr.makeSlice 122 (.int .i64 n) (.int .i64 n)).run Tryz.prog w = .ok (.slice (some ⟨w.heap.size, 0, none⟩) n n) (w.alloc (.cells (vals (zerosL n).flatten).toArray 124)) := by
  obtain ⟨i0, hi, hz0, hz1, hz2⟩ := info_parts3 info226m
  have := run_make (P := Tryz.prog) w 122 124 i0 _ Tryz.underlying122 hi hz0 .i64 .i64 n n (by omega) (Int.le_refl _) (by rw [hz2]; omega) (by omega)
  simp only [Int.toNat_natCast, hz1] at this
  rw [this, made31]
theorem wplIn_make224 {F : Fence} {nF : Nat} {ops : Array Oper} {rest : List Oper} {o : Oper} {a : Act} {w : World} {Q : Exit → Act → World → Prop} (hgd : o.guard = none) (l : Operand) (ho : o.op = .makeSlice 122 l l) (n : Nat) (hl : a.eval l = .int .i64 n) (hn : n ≤ 1000)
    (h : wpListIn F nF Tryz.prog ops Q rest (a.put o.dst (.slice (some ⟨w.heap.size, 0, none⟩) n n)) (w.alloc (.cells (vals (zerosL n).flatten).toArray 124))) : wpListIn F nF Tryz.prog ops Q (o :: rest) a w := by
  refine wpListIn_plain hgd fun K hK' => ?_
  have hrun := run_make224 n hn w
  unfold Oper.wpIn
  refine ⟨?_, ?_⟩
  · simp [Oper.about, ho]
  · rw [Oper.semAt_plain F _ _ (by rw [ho]; intro c hc'; cases hc')]
    simp [execOp, ho, hl, hrun, Result.andThen]
    exact hK' _ _ h
/-- What least knows of its boxes. -/
structure LM (w : World) (A : Option Addr) (n c gf : Nat) (lb : Array Value) (r : Int) (ps : List (List Int)) (X : World) : Prop where
  bl : Below w.heap.size w X
  t : X.heap[w.heap.size]? = some (.cells #[.slice A n c] 72 (0, 0))
  f : X.heap[w.heap.size + 1]? = some (.cells #[.func (.func gf) #[] lb] 108 (0, 0))
  r : X.heap[w.heap.size + 1 + 1]? = some (.cells #[.int .i64 r] 3 (0, 0))
  p : PR X (w.heap.size + 1 + 1 + 1) ps
  s : X.heap[w.heap.size + 1 + 1 + 1 + 1]? = some (.cells #[.slice (some ⟨w.heap.size + 1 + 1 + 1, 0, none⟩) n n] 122 (0, 0))
theorem LM.kp {w : World} {A : Option Addr} {n c gf : Nat} {lb : Array Value} {r : Int} {ps : List (List Int)} {X Y : World} (h : LM w A n c gf lb r ps X) {S : Nat → Prop} (hk : KpB S X.heap.size X Y) (hS : ∀ k, S k → w.heap.size + 5 ≤ k) : LM w A n c gf lb r ps Y :=
  ⟨h.bl.trans (hk.belowOf h.bl.size (fun k hs => by have := hS k hs; omega)), (hk.block _ (heap_lt h.t) (fun hs => by have := hS _ hs; omega)).trans h.t, (hk.block _ (heap_lt h.f) (fun hs => by have := hS _ hs; omega)).trans h.f, (hk.block _ (heap_lt h.r) (fun hs => by have := hS _ hs; omega)).trans h.r,
    h.p.of (hk.block _ h.p.lt (fun hs => by have := hS _ hs; omega)), (hk.block _ (heap_lt h.s) (fun hs => by have := hS _ hs; omega)).trans h.s⟩
theorem LM.put {w : World} {A : Option Addr} {n c gf : Nat} {lb : Array Value} {r : Int} {ps : List (List Int)} {X : World} (h : LM w A n c gf lb r ps X) {i : Nat} {d d' : List Int} (hd : ps[i]? = some d) (hl : d'.length = 31) : LM w A n c gf lb r (ps.set i d') (X.setCells (w.heap.size + 1 + 1 + 1) (i * 31) (vals d')) :=
  ⟨below_setCells (by omega) _ _ _ h.bl, (setCells_other _ _ (by omega) _ _ _ (heap_lt h.t)).trans h.t, (setCells_other _ _ (by omega) _ _ _ (heap_lt h.f)).trans h.f, (setCells_other _ _ (by omega) _ _ _ (heap_lt h.r)).trans h.r, h.p.put hd hl, (setCells_other _ _ (by omega) _ _ _ (heap_lt h.s)).trans h.s⟩
theorem LM.setR {w : World} {A : Option Addr} {n c gf : Nat} {lb : Array Value} {r : Int} {ps : List (List Int)} {X : World} (h : LM w A n c gf lb r ps X) (m : Int) : LM w A n c gf lb m ps (X.setCell ⟨w.heap.size + 1 + 1, 0, none⟩ (.int .i64 m)) :=
  ⟨h.bl.setCell (by show w.heap.size ≤ w.heap.size + 1 + 1; omega) _, (set_other_heap (heap_lt h.t) (by omega)).trans h.t, (set_other_heap (heap_lt h.f) (by omega)).trans h.f, heap_set _ h.r, h.p.other (by omega), (set_other_heap (heap_lt h.s) (by omega)).trans h.s⟩
theorem LM.lt {w : World} {A : Option Addr} {n c gf : Nat} {lb : Array Value} {r : Int} {ps : List (List Int)} {X : World} (h : LM w A n c gf lb r ps X) : w.heap.size + 5 ≤ X.heap.size := by have := heap_lt h.s; omega
def fillP (n k : Nat) : List (List Int) := List.replicate k nothingL ++ List.replicate (n - k) (List.replicate 31 0)
theorem fillP_at {n k : Nat} (h : k < n) : (fillP n k)[k]? = some (List.replicate 31 0) := by
  unfold fillP
  rw [List.getElem?_append_right (by simp), List.length_replicate, Nat.sub_self]
  exact List.getElem?_replicate_of_lt (by omega)
theorem fillP_next {n k : Nat} (h : k < n) : (fillP n k).set k nothingL = fillP n (k + 1) := by
  unfold fillP
  rw [List.set_append_right _ _ (by simp), List.length_replicate, Nat.sub_self, show n - k = (n - (k + 1)) + 1 by omega, List.replicate_succ, List.set_cons_zero, List.replicate_succ' (n := k), List.append_assoc]
  rfl
theorem fillP_zero (n : Nat) : zerosL n = fillP n 0 := by simp [fillP, zerosL]
theorem fillP_all (n : Nat) : fillP n n = List.replicate n nothingL := by simp [fillP]
theorem LM.new (w : World) (A : Option Addr) (n c gf : Nat) (lb : Array Value) : LM w A n c gf lb 0 (zerosL n) (((((w.alloc (.cells #[.slice A n c] 72)).alloc (.cells #[.func (.func gf) #[] lb] 108)).alloc (.cells #[.int .i64 0] 3)).alloc (.cells (vals (zerosL n).flatten).toArray 124)).alloc (.cells #[.slice (some ⟨w.heap.size + 1 + 1 + 1, 0, none⟩) n n] 122)) := by
  refine ⟨hb0to (hb0to (hb0to (hb0to (al_below w _) (al_below _ _)) (al_below _ _)) (al_below _ _)) (al_below _ _), heap_keep (heap_keep (heap_keep (heap_keep (heap_new1 w _)))), heap_keep (heap_keep (heap_keep (heap_new2 w _ _))), heap_keep (heap_keep (heap_new3 w _ _ _)), ⟨?_, fun c hc => ?_⟩, ?_⟩
  · have := heap_keep (o' := .cells #[.slice (some ⟨w.heap.size + 1 + 1 + 1, 0, none⟩) n n] 122) (World.alloc_heap_new (((w.alloc (.cells #[.slice A n c] 72)).alloc (.cells #[.func (.func gf) #[] lb] 108)).alloc (.cells #[.int .i64 0] 3)) (.cells (vals (zerosL n).flatten).toArray 124))
    simpa only [World.size_alloc] using this
  · rw [List.eq_of_mem_replicate hc]; rfl
  · have := World.alloc_heap_new ((((w.alloc (.cells #[.slice A n c] 72)).alloc (.cells #[.func (.func gf) #[] lb] 108)).alloc (.cells #[.int .i64 0] 3)).alloc (.cells (vals (zerosL n).flatten).toArray 124)) (.cells #[.slice (some ⟨w.heap.size + 1 + 1 + 1, 0, none⟩) n n] 122)
    simpa only [World.size_alloc] using this
/-- The store of a whole array, last of a region that draws its order. -/
theorem wp_storeO {o : Oper} {a : Act} {w : World} {K : Act → World → Prop} {Q : Exit → Act → World → Prop} (x y : Operand) (ho : o.op = .store 124 x y) (b d : Nat)
    (hx : a.eval x = .pointer (some ⟨b, d, none⟩)) (c : List Int) (hl : c.length = 31) (hy : a.eval y = .agg (vals c).toArray) (hT : w.there b d 31) (h : K (a.put o.dst undef) (w.setCells b d (vals c))) : o.wp Tryz.prog a w K Q := by
  unfold Oper.wp
  simp [execOp, ho, hx, hy, storeO hl hT, Result.andThen, Oper.upon]
  exact h
end Go.Proofs.YtmbcpmnigggbaabGreat.Cu
namespace Go.Proofs.YtmbcpmnigggbaabGreat.Cu
/-! Plain words on the run of least. -/
theorem back_pre_at {t : List CP} {pre : List (CP × Nat)} {x : CP × Nat} (h : pre ++ [x] <+: backL t) : pre.length < t.length ∧ x.2 = t.length - 1 - pre.length ∧ t[t.length - 1 - pre.length]? = some x.1 := by
  have hx : (backL t)[pre.length]? = some x := by
    obtain ⟨s, hs⟩ := h
    rw [← hs, List.append_assoc, List.getElem?_append_right (Nat.le_refl _), Nat.sub_self]
    rfl
  have hl := (List.getElem?_eq_some_iff.1 hx).1
  have hl2 : pre.length < t.length := by simpa [backL] using hl
  obtain ⟨p, hp, hb⟩ := back_at hl2
  rw [hx] at hb
  cases hb
  exact ⟨hl2, rfl, hp⟩
theorem run_next (t : List CP) (cost : Nat → Nat → Int) {k : Nat} {p : CP} (hp : t[t.length - 1 - k]? = some p) : runC t cost (k + 1) = stepC t cost (t.length - 1 - k) p (runC t cost k) := by
  rw [runC, hp]
theorem run_none (t : List CP) (cost : Nat → Nat → Int) {k : Nat} (h : runC t cost k = none) : ∀ m, runC t cost (k + m) = none
  | 0 => h
  | m + 1 => by
    show runC t cost (k + m + 1) = none
    rw [runC]
    cases t[t.length - 1 - (k + m)]? with
    | none => exact run_none t cost h m
    | some p => rw [run_none t cost h m]; rfl
/-- The first k of one list, then the other. -/
def mixTo (l m : List Int) (k : Nat) : List Int := l.take k ++ m.drop k
theorem mixTo_zero (l m : List Int) : mixTo l m 0 = m := by simp [mixTo]
theorem mixTo_all {l m : List Int} {n : Nat} (h1 : l.length = n) (h2 : m.length = n) : mixTo l m n = l := by
  unfold mixTo
  rw [List.take_of_length_le (by omega), List.drop_of_length_le (by omega), List.append_nil]
theorem mixTo_at {l m : List Int} {k : Nat} (hk : k < l.length) (h : m.length = l.length) : (mixTo l m k)[k]? = m[k]? := by
  unfold mixTo
  rw [List.getElem?_append_right (by simp; omega), List.length_take, Nat.min_eq_left (by omega), Nat.sub_self, List.getElem?_drop]
  rfl
theorem mixTo_set {l m : List Int} {k : Nat} {x : Int} (hx : l[k]? = some x) (h : m.length = l.length) : (mixTo l m k).set k x = mixTo l m (k + 1) := by
  have hk := (List.getElem?_eq_some_iff.1 hx).1
  have e : m.drop k = m[k]'(by omega) :: m.drop (k + 1) := List.drop_eq_getElem_cons (by omega)
  unfold mixTo
  rw [List.take_add_one, hx, e, List.set_append_right _ _ (by rw [List.length_take]; omega), List.length_take, Nat.min_eq_left (by omega), Nat.sub_self, List.set_cons_zero]
  simp
theorem lostL_at (p : CP) {k : Nat} (h : k < 31) : (lostL p)[k]? = some (if p.sl ≤ (k : Int) ∧ (k : Int) ≤ p.sh then 0 else far) := by simp [lostL, h]
theorem ownL_at (cost : Nat → Int) (base : List Int) {k : Nat} (h : k < 31) : (ownL cost base)[k]? = some (if cost k < far ∧ cat base k < far then cat base k + cost k else far) := by simp [ownL, h]
theorem lost_fin (p : CP) : Fin 0 (lostL p) := ⟨lostL_len p, fun n x hx => by
  have hn : n < 31 := by have := (List.getElem?_eq_some_iff.1 hx).1; rwa [lostL_len] at this
  rw [lostL_at p hn] at hx
  cases hx
  split
  · exact .inr (by omega)
  · exact .inl rfl⟩
theorem zero_fin : Fin 0 (List.replicate 31 0) := ⟨by simp, fun n x hx => by
  have := List.eq_of_mem_replicate (List.mem_of_getElem? hx)
  subst this
  exact .inr (by omega)⟩
theorem base_fin {b : Int} (h0 : 0 ≤ b) (hb : b < far) (t : List CP) (i : Nat) (p : CP) {pc : List Int} (h : Fin b pc) : Fin b (baseL t i p pc) := by
  unfold baseL
  split
  · have := plus_fin h (lost_fin p) (by omega)
    rwa [Int.add_zero] at this
  · exact zero_fin.mono h0
theorem cat_fin {b : Int} {c : List Int} (h : Fin b c) (n : Nat) : cat c n = far ∨ (-b ≤ cat c n ∧ cat c n ≤ b) := by
  by_cases hn : n < c.length
  · exact h.2 n _ (cat_at hn)
  · left; unfold cat; rw [List.getD_eq_getElem?_getD, List.getElem?_eq_none (by omega)]; rfl
theorem own_fin {b d : Int} {cost : Nat → Int} {base : List Int} (h : Fin b base) (hc : ∀ v, cost v = far ∨ (-d ≤ cost v ∧ cost v ≤ d)) : Fin (b + d) (ownL cost base) := ⟨ownL_len _ _, fun n x hx => by
  have hn : n < 31 := by have := (List.getElem?_eq_some_iff.1 hx).1; rwa [ownL_len] at this
  rw [ownL_at _ _ hn] at hx
  cases hx
  have h1 := cat_fin h n
  have h2 := hc n
  split
  · omega
  · exact .inl rfl⟩
theorem foldl_min_mem : ∀ (l : List Int) (x : Int), l.foldl min x = x ∨ l.foldl min x ∈ l
  | [], _ => .inl rfl
  | y :: l, x => by
    rw [List.foldl_cons]
    rcases foldl_min_mem l (min x y) with h | h
    · rw [h]
      by_cases hxy : x ≤ y
      · exact .inl (Int.min_eq_left hxy)
      · exact .inr (by rw [Int.min_eq_right (by omega)]; simp)
    · exact .inr (List.mem_cons_of_mem _ h)
theorem minL_mem {l : List Int} (h : l ≠ []) : minL l ∈ l := by
  cases l with
  | nil => exact absurd rfl h
  | cons x xs =>
    rcases foldl_min_mem xs x with h | h
    · simp [minL, h]
    · exact List.mem_cons_of_mem _ h
theorem min_fin {b : Int} {c : List Int} (h : Fin b c) : minL c = far ∨ (-b ≤ minL c ∧ minL c ≤ b) := by
  have hm := minL_mem (l := c) (fun e => by have := h.1; rw [e] at this; simp at this)
  obtain ⟨n, hn⟩ := List.mem_iff_getElem?.1 hm
  exact h.2 n _ hn
/-- The bound of the costs behind k parts. -/
def bndC (k : Nat) : Int := 3000 * ((2 : Int) ^ k - 1)
theorem bndC_succ (k : Nat) : bndC (k + 1) = bndC k + (bndC k + 3000) := by unfold bndC; rw [Int.pow_succ]; omega
theorem bndC_nonneg : ∀ k, 0 ≤ bndC k
  | 0 => by simp [bndC]
  | k + 1 => by have := bndC_nonneg k; rw [bndC_succ]; omega
theorem bndC_le : ∀ k, k ≤ 8 → bndC k ≤ 765000 := by
  intro k hk
  have h : (2 : Nat) ^ k ≤ 2 ^ 8 := Nat.pow_le_pow_right (by omega) hk
  have e : (2 : Int) ^ k = ((2 ^ k : Nat) : Int) := by simp
  unfold bndC
  rw [e]
  omega
theorem run_fin {t : List CP} {cost : Nat → Nat → Int} (hc : ∀ i v, cost i v = far ∨ (-3000 ≤ cost i v ∧ cost i v ≤ 3000)) : ∀ (k : Nat) (ps : List (List Int)) (all : Int), k ≤ 8 → runC t cost k = some (ps, all) →
    ps.length = t.length ∧ (∀ c ∈ ps, Fin (bndC k) c) ∧ -((k : Int) * 1000000) ≤ all ∧ all ≤ (k : Int) * 1000000
  | 0, ps, all, _, h => by
    simp only [runC, Option.some.injEq, Prod.mk.injEq] at h
    obtain ⟨rfl, rfl⟩ := h
    exact ⟨by simp, fun c hc => by rw [List.eq_of_mem_replicate hc]; exact nothing_fin, by omega, by omega⟩
  | k + 1, ps, all, hk, h => by
    have h0 := bndC_nonneg k
    have h8 := bndC_le k (by omega)
    have hs := bndC_succ k
    rw [runC] at h
    cases hp : t[t.length - 1 - k]? with
    | none =>
      rw [hp] at h
      obtain ⟨h1, h2, h3, h4⟩ := run_fin hc k ps all (by omega) h
      exact ⟨h1, fun c hc => (h2 c hc).mono (by omega), by omega, by omega⟩
    | some p =>
      rw [hp] at h
      simp only at h
      cases hr : runC t cost k with
      | none => rw [hr] at h; cases h
      | some q =>
        obtain ⟨ps0, all0⟩ := q
        obtain ⟨h1, h2, h3, h4⟩ := run_fin hc k ps0 all0 (by omega) hr
        rw [hr] at h
        have hlt := (List.getElem?_eq_some_iff.1 hp).1
        have hpc : Fin (bndC k) (ps0.getD (t.length - 1 - k) []) := by
          rw [List.getD_eq_getElem?_getD, List.getElem?_eq_getElem (by omega)]
          exact h2 _ (List.getElem_mem _)
        have hown := own_fin (base_fin h0 (by unfold far; omega) t (t.length - 1 - k) p hpc) (hc (t.length - 1 - k))
        simp only [stepC] at h
        split at h
        · simp only [Option.some.injEq, Prod.mk.injEq] at h
          obtain ⟨rfl, rfl⟩ := h
          refine ⟨by simpa using h1, fun c hcm => ?_, by omega, by omega⟩
          by_cases ho : p.of.toNat < ps0.length
          · rcases List.mem_or_eq_of_mem_set hcm with hcm | hcm
            · exact (h2 c hcm).mono (by omega)
            · rw [hcm, hs]
              refine plus_fin ?_ hown (by unfold far; omega)
              rw [List.getD_eq_getElem?_getD, List.getElem?_eq_getElem ho]
              exact h2 _ (List.getElem_mem _)
          · rw [List.set_eq_of_length_le (by omega)] at hcm
            exact (h2 c hcm).mono (by omega)
        · split at h
          · cases h
          · simp only [Option.some.injEq, Prod.mk.injEq] at h
            obtain ⟨rfl, rfl⟩ := h
            have hm := min_fin hown
            exact ⟨h1, fun c hcm => (h2 c hcm).mono (by omega), by omega, by omega⟩
end Go.Proofs.YtmbcpmnigggbaabGreat.Cu
