import Derived.Deep.Quiet
import Derived.Deep.QuietTactic
import Derived.RangeFuncCalls
import Derived.WalkKit
import Derived.OrdersIn
import Derived.BigQuiet
namespace Go.Proofs.Ytgemmmdcpbajoaa
open Go.RowKit

/-! A region that draws its order, inside a round of a range over a function: walked once, as outside. -/
/-- No operation of the region defers. -/
def noDefer (l : List Oper) : Bool := l.all fun o => match o.op with | .defer _ => false | _ => true
theorem noDefer_at {l : List Oper} (h : noDefer l = true) {i : Nat} {o : Oper} (ho : l[i]? = some o) : ∀ c, o.op ≠ .defer c := by
  intro c hc
  have := List.all_eq_true.1 h o (List.mem_of_getElem? ho)
  rw [hc] at this
  cases this
theorem wpOpIn_round {l n : Nat} {P : Program} {ops : Array Oper} {Q : Exit → Act → World → Prop} (hd : ∀ (i : Nat) (o : Oper), ops[i]? = some o → ∀ c, o.op ≠ .defer c) (hQ : ¬ LetsOut Q) {i : Nat} {K K' : Act → World → Prop} {a : Act} {w : World} (hK : ∀ a w, K a w → K' a w)
    (h : wpOp P ops Q i K a w) : wpOpIn (Fence.wide.inRound l) n P ops Q i K' a w := by
  unfold wpOp at h
  unfold wpOpIn
  cases ho : ops[i]? with
  | none => rw [ho] at h; exact hK _ _ h
  | some o =>
    rw [ho] at h
    simp only at h ⊢
    by_cases hw : Region.wanted o (yielded ops a.tmps) = true
    · rw [if_pos hw] at h ⊢
      have h := h.resolve_right (fun hh => hQ hh.2)
      refine ⟨fun _ _ => trivial, ?_⟩
      rw [Fence.inRound_round, Oper.semAt_some _ _ _ (hd i o ho)]
      unfold Oper.wp at h
      revert h
      generalize (execOp a.eval o).run P w = r
      intro h
      cases r with
      | ok x w' =>
        cases x with
        | enter f args =>
          refine ⟨(fun hh => by cases hh), CallsIn.inRound l (callsIn_wide.2 (Calls.mono h ?_))⟩
          intro e w'' he
          cases e with
          | returned v => exact hK _ _ he
          | panicked chain => exact he
          | outgrown => exact he
        | row row args => exact ⟨(fun hh => by cases hh), fun c cs _ => let ⟨v, w', r, s⟩ := h c cs; ⟨v, w', hK _ _ r, stepsIn_wide.2 s⟩⟩
        | value v => exact hK _ _ h
        | skip => exact hK _ _ h
        | defer d => exact hK _ _ h
        | _ => exact h.elim
      | halt x w' => cases x <;> simp only [Oper.upon] at h <;> simp only [Oper.uponIn] <;> first | exact h | exact h.elim
    · rw [if_neg hw] at h ⊢
      exact ⟨fun _ _ => trivial, hK _ _ h⟩
theorem wpAnyIn_round {l n : Nat} {P : Program} {md : Region.Mode} {ops : Array Oper} {Q : Exit → Act → World → Prop} (hd : ∀ (i : Nat) (o : Oper), ops[i]? = some o → ∀ c, o.op ≠ .defer c) (hQ : ¬ LetsOut Q) : ∀ (fuel : Nat) (listed : Array Bool) (a : Act) (w : World),
    wpAny P md ops Q fuel listed a w → wpAnyIn (Fence.wide.inRound l) n P md ops Q fuel listed a w
  | 0, _, _, _, h => h
  | fuel + 1, _, _, _, h => ⟨h.1, fun i hi => wpOpIn_round hd hQ (fun a w hh => wpAnyIn_round hd hQ fuel _ a w hh) (h.2 i hi)⟩
theorem wpIn_region_round {l n id : Nat} {P : Program} {L : List Oper} {Q : Exit → Act → World → Prop} {C : World → Prop} {a : Act} {w : World} (hQ : ¬ LetsOut Q) (hd : noDefer L = true) (hm : P.follows .mixedOrders = true) (hB : Region.lexB .any L.toArray = true) (hC : C { w with drawn := w.drawn + 1 })
    (h : wpQuiet P L.toArray C (fun a' => ∀ w', C w' → Q .normal a' w') L a) : (Code.region id L.toArray true).wpIn (Fence.wide.inRound l) n P Q a w := by
  simp only [Region.lexB, Bool.and_eq_true] at hB
  refine wpIn_region_any hm (wpAnyIn_round (fun i o ho => noDefer_at hd (by simpa using ho)) hQ _ _ _ _ ?_)
  refine wpAny_of_quiet (Q := fun a' => ∀ w', C w' → Q .normal a' w') (fun _ w' hw' h => h w' hw') _ _ _ _ hC ?_
  have := wpAnyQ_lex (C := C) (md := .any) hB.1 L.toArray.toList 0 (Array.replicate L.toArray.size false) a (by simp) (by simpa using hB.2) (by simpa using h)
  simpa using this

/-! A region whose last operation (a store, a builtin without a slot) waits for all others, which are quiet. -/
/-- The same operation, that does nothing. -/
def idle (o : Oper) : Oper := { o with op := .move (.const undef) }
def waitsAll (n : Nat) (o : Oper) : Bool := (List.range n).all fun j => o.after.any fun e => Region.binds .any e && e.on == j
def lastOK (n : Nat) (o : Oper) : Bool := o.guard.isNone && (o.dst.isNone && waitsAll n o)
/-- Each operation waits for earlier ones alone. -/
def backB (L : List Oper) : Bool := (List.range L.length).all fun j => (L.getD j default).after.all fun e => decide (e.on < j)
theorem backB_at {L : List Oper} (h : backB L = true) {j : Nat} {o : Oper} (ho : L[j]? = some o) : ∀ e ∈ o.after, e.on < j := by
  obtain ⟨hj, e1⟩ := List.getElem?_eq_some_iff.1 ho
  have := List.all_eq_true.1 h j (List.mem_range.2 hj)
  rw [List.getD, ho] at this
  intro e he
  obtain ⟨i, hi, rfl⟩ := Array.getElem_of_mem he
  have := Array.all_eq_true.1 this i hi
  simpa using this
theorem ready_none {L : List Oper} (h : backB L = true) {listed : Array Bool} (hz : listed.size = L.length) (hr : Region.ready .any L.toArray listed = []) : ∀ j, j < L.length → listed.getD j true = true := by
  intro j
  induction j using Nat.strongRecOn with
  | ind j ih =>
    intro hj
    cases hb : listed.getD j true with
    | true => rfl
    | false =>
      have : j ∈ Region.ready .any L.toArray listed := by
        rw [mem_ready]
        refine ⟨hb, L[j], by simp [hj], fun e he _ => ?_⟩
        have h1 := backB_at h (List.getElem?_eq_getElem hj) e he
        have h2 := ih e.on h1 (by omega)
        have h3 : e.on < listed.size := by omega
        simpa [h3] using h2
      rw [hr] at this
      simp at this
theorem waitsAll_at {n : Nat} {o : Oper} (h : waitsAll n o = true) {j : Nat} (hj : j < n) : ∃ e ∈ o.after, Region.binds .any e = true ∧ e.on = j := by
  have := List.all_eq_true.1 h j (List.mem_range.2 hj)
  obtain ⟨i, hi, h1⟩ := Array.any_eq_true.1 this
  simp only [Bool.and_eq_true, beq_iff_eq] at h1
  exact ⟨_, Array.getElem_mem hi, h1⟩
theorem snoc_at {α : Type} (l : List α) (x : α) (j : Nat) : (l ++ [x]).toArray[j]? = if j = l.length then some x else l[j]? := by
  simp only [List.getElem?_toArray]
  by_cases h : j = l.length
  · subst h; simp
  · rw [if_neg h]
    by_cases h2 : j < l.length
    · rw [List.getElem?_append_left h2]
    · rw [List.getElem?_append_right (by omega), List.getElem?_eq_none (by simp; omega), List.getElem?_eq_none (by omega)]
theorem ready_idle {l : List Oper} {o : Oper} {listed : Array Bool} {j : Nat} : j ∈ Region.ready .any (l ++ [idle o]).toArray listed ↔ j ∈ Region.ready .any (l ++ [o]).toArray listed := by
  rw [mem_ready, mem_ready, snoc_at, snoc_at]
  by_cases h : j = l.length
  · rw [if_pos h, if_pos h]; simp [idle]
  · rw [if_neg h, if_neg h]
theorem yielded_idle {l : List Oper} {o : Oper} (hd : o.dst = none) (tmps : Array Value) : yielded (l ++ [idle o]).toArray tmps = yielded (l ++ [o]).toArray tmps := by
  funext j
  unfold yielded
  rw [snoc_at, snoc_at]
  by_cases h : j = l.length
  · rw [if_pos h, if_pos h]; simp [idle, hd]
  · rw [if_neg h, if_neg h]
/-- What is asked behind the quiet operations: the last one. -/
def lastQ (P : Program) (o : Oper) (Q : Exit → Act → World → Prop) : Exit → Act → World → Prop
  | .normal, a, w => o.wp P a w (fun a' w' => Q .normal a' w') Q
  | e, a, w => Q e a w
theorem upon_lastQ {P : Program} {o o' : Oper} {a : Act} {w : World} {K K' : Act → World → Prop} {Q : Exit → Act → World → Prop} (hK : ∀ a w, K a w → K' a w) (h : o'.wp P a w K (lastQ P o Q)) : o'.wp P a w K' Q := by
  unfold Oper.wp at *
  generalize (execOp a.eval o').run P w = r at *
  cases r with
  | ok x w' =>
    cases x with
    | enter f args =>
      refine Calls.mono h ?_
      intro e w'' he
      cases e with
      | returned v => exact hK _ _ he
      | panicked chain => exact he
      | outgrown => exact he
    | row row args => exact Rows.mono h fun v w' r => hK _ _ r
    | value v => exact hK _ _ h
    | skip => exact hK _ _ h
    | defer d => exact hK _ _ h
    | _ => exact h.elim
  | halt x w' => cases x <;> first | exact h | exact h.elim
theorem wpAny_idle {P : Program} {l : List Oper} {o : Oper} {Q : Exit → Act → World → Prop} (hl : lastOK l.length o = true) (hb : backB (l ++ [o]) = true) : ∀ (fuel : Nat) (listed : Array Bool) (a : Act) (w : World), listed.size = l.length + 1 →
    listed.getD l.length true = false → wpAny P .any (l ++ [idle o]).toArray (lastQ P o Q) fuel listed a w → wpAny P .any (l ++ [o]).toArray Q fuel listed a w := by
  simp only [lastOK, Bool.and_eq_true, Option.isNone_iff_eq_none] at hl
  obtain ⟨hg, hd, hw⟩ := hl
  have hlast : ∀ {listed : Array Bool}, l.length ∈ Region.ready .any (l ++ [o]).toArray listed → ∀ j, j < l.length → listed.getD j false = true := fun {listed} hm j hj => by
    obtain ⟨_, o', ho', h⟩ := mem_ready.1 hm
    rw [snoc_at, if_pos rfl] at ho'
    cases ho'
    obtain ⟨e, he, hbb, hon⟩ := waitsAll_at hw hj
    rw [← hon]; exact h e he hbb
  have hno : ∀ {listed : Array Bool}, listed.size = l.length + 1 → listed.getD l.length true = false → Region.ready .any (l ++ [o]).toArray listed ≠ [] := fun {listed} hz hu hr => by
    have := ready_none hb (by rw [List.length_append]; exact hz) hr l.length (by simp)
    rw [this] at hu; cases hu
  intro fuel
  induction fuel with
  | zero =>
    intro listed a w hz hu h
    exact (hno hz hu (List.eq_nil_iff_forall_not_mem.2 fun j hj => by rw [← ready_idle, h.1] at hj; cases hj)).elim
  | succ fuel ih =>
    intro listed a w hz hu h
    refine ⟨fun hr => (hno hz hu hr).elim, fun i hi => ?_⟩
    have h1 := h.2 i (ready_idle.2 hi)
    by_cases hil : i = l.length
    · subst hil
      have hall := hlast hi
      have hrn : ∀ j, j ∉ Region.ready .any (l ++ [o]).toArray (listed.setIfInBounds l.length true) := fun j hj => by
        obtain ⟨h2, o', ho', -⟩ := mem_ready.1 hj
        have hjl : j < l.length + 1 := by
          have := (Array.getElem?_eq_some_iff.1 ho').1
          simpa using this
        by_cases e : j = l.length
        · subst e
          rw [Array.getD_eq_getD_getElem?, Array.getElem?_setIfInBounds_self_of_lt (by omega)] at h2
          simp at h2
        · rw [getD_set_ne true (Ne.symm e)] at h2
          have h3 := hall j (by omega)
          have h4 : j < listed.size := by omega
          simp [h4] at h2 h3
          rw [h2] at h3; cases h3
      have hend : ∀ {Q0 : Exit → Act → World → Prop} {a' : Act} {w' : World}, Q0 .normal a' w' → wpAny P .any (l ++ [o]).toArray Q0 fuel (listed.setIfInBounds l.length true) a' w' := fun {Q0 a' w'} hq => by
        cases fuel with
        | zero => exact ⟨List.eq_nil_iff_forall_not_mem.2 hrn, hq⟩
        | succ fuel => exact ⟨fun _ => hq, fun j hj => (hrn j hj).elim⟩
      -- what the idle operation leaves
      have hq : lastQ P o Q .normal a w := by
        unfold wpOp at h1
        rw [snoc_at, if_pos rfl] at h1
        have hgi : (idle o).guard = none := hg
        have hdi : (idle o).dst = none := hd
        have hex : execOp a.eval (idle o) = pure (.value (a.eval (.const undef))) := rfl
        simp only [Region.wanted, hgi, if_true] at h1
        have hk : wpAny P .any (l ++ [idle o]).toArray (lastQ P o Q) fuel (listed.setIfInBounds l.length true) a w := by
          rcases h1 with h1 | ⟨h1, _⟩
          · unfold Oper.wp at h1
            rw [hex] at h1
            simpa [Oper.upon, Act.put, hdi] using h1
          · unfold Oper.asks at h1
            rw [hex] at h1
            exact absurd (show noRoomEvent ∈ (#[] : Array Event) from h1.1) (by simp)
        cases fuel with
        | zero => exact hk.2
        | succ fuel => exact hk.1 (List.eq_nil_iff_forall_not_mem.2 fun j hj => hrn j (ready_idle.1 hj))
      unfold wpOp
      rw [snoc_at, if_pos rfl]
      simp only [Region.wanted, hg, if_true]
      refine .inl (Oper.wp_mono (fun a' w' h' => hend h') hq)
    · have hi2 : (l ++ [idle o]).toArray[i]? = (l ++ [o]).toArray[i]? := by rw [snoc_at, snoc_at, if_neg hil, if_neg hil]
      unfold wpOp at h1 ⊢
      rw [hi2, yielded_idle hd] at h1
      have hset : (listed.setIfInBounds i true).size = l.length + 1 := by simp [hz]
      have hun : (listed.setIfInBounds i true).getD l.length true = false := by rw [getD_set_ne true hil]; exact hu
      cases ho : (l ++ [o]).toArray[i]? with
      | none => rw [ho] at h1; exact ih _ _ _ hset hun h1
      | some o' =>
        rw [ho] at h1
        simp only at h1 ⊢
        split at h1
        · rename_i hwt
          rw [if_pos hwt]
          rcases h1 with h1 | ⟨h1, a', w', h2⟩
          · exact .inl (upon_lastQ (fun a w hh => ih _ a w hset hun hh) h1)
          · exact .inr ⟨h1, a', w', h2⟩
        · rename_i hwt
          rw [if_neg hwt]
          exact ih _ _ _ hset hun h1
theorem wpQuiet_snoc {P : Program} {ops : Array Oper} {C : World → Prop} {Q : Act → Prop} {o : Oper} (hg : o.guard = none) (hd : o.dst = none) : ∀ (l : List Oper) (a : Act), wpQuiet P ops C Q l a → wpQuiet P ops C Q (l ++ [idle o]) a
  | [], a, h => by
    have hgi : (idle o).guard = none := hg
    have hdi : (idle o).dst = none := hd
    rw [List.nil_append, wpQuiet, if_pos (by simp [Region.wanted, hgi])]
    refine ⟨a.eval (.const undef), fun w _ => ?_, by simpa [Act.put, hdi] using h⟩
    exact ⟨rfl, rfl⟩
  | o' :: l, a, h => by
    rw [wpQuiet] at h
    rw [List.cons_append, wpQuiet]
    split
    · rename_i hw
      rw [if_pos hw] at h
      exact Oper.quiet_mono (fun a' h' => wpQuiet_snoc hg hd l a' h') h
    · rename_i hw
      rw [if_neg hw] at h
      exact wpQuiet_snoc hg hd l _ h
theorem wpAny_tail {P : Program} {l : List Oper} {o : Oper} {Q : Exit → Act → World → Prop} {C : World → Prop} {a : Act} {w : World} (hl : lastOK l.length o = true) (hb : backB (l ++ [o]) = true) (hB : Region.lexB .any (l ++ [idle o]).toArray = true) (hC : C { w with drawn := w.drawn + 1 })
    (h : wpQuiet P (l ++ [idle o]).toArray C (fun a' => ∀ w', C w' → o.wp P a' w' (fun a'' w'' => Q .normal a'' w'') Q) l a) :
    wpAny P .any (l ++ [o]).toArray Q (l ++ [o]).toArray.size (Array.replicate (l ++ [o]).toArray.size false) a { w with drawn := w.drawn + 1 } := by
  simp only [Region.lexB, Bool.and_eq_true] at hB
  have hl' := hl
  simp only [lastOK, Bool.and_eq_true, Option.isNone_iff_eq_none] at hl'
  refine wpAny_idle hl hb _ _ _ _ (by simp) (by simp) ?_
  refine wpAny_of_quiet (Q := fun a' => ∀ w', C w' → o.wp P a' w' (fun a'' w'' => Q .normal a'' w'') Q) (fun _ w' hw' h => h w' hw') _ _ _ _ hC ?_
  have := wpAnyQ_lex (C := C) (md := .any) hB.1 (l ++ [idle o]).toArray.toList 0 (Array.replicate (l ++ [idle o]).toArray.size false) a (by simp) (by simpa using hB.2) (by simpa using wpQuiet_snoc hl'.1 hl'.2.1 l a h)
  simpa using this
/-- The region as the walk meets it: its first N operations are quiet. -/
theorem wpIn_region_tail {k n id : Nat} {P : Program} {L : List Oper} {Q : Exit → Act → World → Prop} {C : World → Prop} {a : Act} {w : World} (l : List Oper) (o : Oper) (hL : L = l ++ [o]) (hQ : ¬ LetsOut Q) (hd : noDefer L = true) (hm : P.follows .mixedOrders = true) (hl : lastOK l.length o = true) (hb : backB L = true) (hB : Region.lexB .any (l ++ [idle o]).toArray = true)
    (hC : C { w with drawn := w.drawn + 1 }) (h : wpQuiet P (l ++ [idle o]).toArray C (fun a' => ∀ w', C w' → o.wp P a' w' (fun a'' w'' => Q .normal a'' w'') Q) l a) : (Code.region id L.toArray true).wpIn (Fence.wide.inRound k) n P Q a w := by
  subst hL
  exact wpIn_region_any hm (wpAnyIn_round (fun i o ho => noDefer_at hd (by simpa using ho)) hQ _ _ _ _ (wpAny_tail hl hb hB hC h))
theorem wp_region_tail {id : Nat} {P : Program} {L : List Oper} {Q : Exit → Act → World → Prop} {C : World → Prop} {a : Act} {w : World} (l : List Oper) (o : Oper) (hL : L = l ++ [o]) (hm : P.follows .mixedOrders = true) (hl : lastOK l.length o = true) (hb : backB L = true) (hB : Region.lexB .any (l ++ [idle o]).toArray = true)
    (hC : C { w with drawn := w.drawn + 1 }) (h : wpQuiet P (l ++ [idle o]).toArray C (fun a' => ∀ w', C w' → o.wp P a' w' (fun a'' w'' => Q .normal a'' w'') Q) l a) : (Code.region id L.toArray true).wp P Q a w := by
  subst hL
  exact wp_region_any hm (wpAny_tail hl hb hB hC h)
end Go.Proofs.Ytgemmmdcpbajoaa
