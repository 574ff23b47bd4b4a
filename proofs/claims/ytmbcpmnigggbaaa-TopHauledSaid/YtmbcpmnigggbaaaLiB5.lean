import Derived.Maps.AppendAt
import Derived.Laws.AppendOwnNone
import Derived.Laws.AppendOwn
import Derived.Deep.QuietTactic
import Derived.Deep.DeepCutAuto
import Derived.Outline
import Derived.WalkKit
import Derived.WalkSpells
import Derived.BigQuiet
import Derived.BigRegion
import Derived.Below
import Derived.Lib.Hide
import Derived.TacticsInMore
import Derived.LoopNIn
import Derived.LoopIn
import Derived.OwnWalk
import Derived.OwnWalkIn
import Derived.Test.YtmbcpmnigggbaaaProg
import Derived.Test.YtmbcpmnigggbaaaLiR3
import Derived.Deep.RegionHeld3
import Derived.Deep.RegionWith
import Derived.Deep.MidRow
import Derived.KernelRfl
import Derived.Deep.DeepMust
namespace Go.Proofs.Ytmbcpmnigggbaaa.Li
open Go.RowKit

/-! A region that draws its order, whose operations read and whose calls make memory of their own: walked once, in the order of the text. -/
open Classical in
/-- The world x, if it lies over w; else w itself. -/
noncomputable def extB (w x : World) : World := if Below w.heap.size w x then x else w
theorem extB_below (w x : World) : Below w.heap.size w (extB w x) := by
  unfold extB
  split
  · assumption
  · exact Below.refl _ _
theorem extB_of {w W : World} (h : Below w.heap.size w W) : ∃ x, W = extB w x := ⟨W, by unfold extB; rw [if_pos h]⟩
theorem cell_lt {w : World} {a : Addr} {v : Value} (h : w.cell? a = some v) : a.block < w.heap.size := by
  unfold World.cell? at h
  split at h
  · rename_i hh
    exact (Array.getElem?_eq_some_iff.1 hh).1
  · cases h
theorem extB_cell {w : World} {a : Addr} {v : Value} (h : w.cell? a = some v) : ∀ x, (extB w x).cell? a = some v := fun x => ((extB_below w x).cell (cell_lt h)).trans h
theorem below_cell {w W : World} (hb : Below w.heap.size w W) {a : Addr} {v : Value} (h : w.cell? a = some v) : W.cell? a = some v := (hb.cell (cell_lt h)).trans h
theorem wp_region_ext {P : Program} {id : Nat} {Q : Exit → Act → World → Prop} {a : Act} {w : World} {l : List Oper} (hm : P.follows .mixedOrders = true) (hB : Region.lexB .any l.toArray = true)
    (h : wpQuiet P l.toArray (fun w' => ∃ x, w' = extB w x) (fun a' => ∀ w', (∃ x, w' = extB w x) → Q .normal a' w') l a) : (Code.region id l.toArray true).wp P Q a w :=
  wp_region_quiet (C := fun w' => ∃ x, w' = extB w x) hm hB (extB_of (Below.refl _ w).drew) (by simpa using h)
theorem ext_call {P : Program} {f : FuncId} {args : Array Value} {w x : World} {v : Value} (h : Calls P f args (extB w x) fun e w' => e = .returned v ∧ Below (extB w x).heap.size (extB w x) w') :
    Calls P f args (extB w x) fun e w'' => e = .returned v ∧ ∃ y, w'' = extB w y :=
  h.mono fun _ _ ⟨he, hb⟩ => ⟨he, extB_of ((extB_below w x).trans (hb.mono (extB_below w x).size))⟩
theorem ext_same {P : Program} {f : FuncId} {args : Array Value} {w x : World} {v : Value} (h : Calls P f args (extB w x) fun e w' => e = .returned v ∧ extB w x = w') :
    Calls P f args (extB w x) fun e w'' => e = .returned v ∧ ∃ y, w'' = extB w y :=
  h.mono fun _ _ ⟨he, hb⟩ => ⟨he, x, hb.symm⟩

/-- n lies from lo to hi. -/
def inR (n lo hi : Int) : Bool := decide (lo ≤ n) && decide (n ≤ hi)
theorem inR_true {n lo hi : Int} : inR n lo hi = true ↔ lo ≤ n ∧ n ≤ hi := by simp [inR]
theorem addr_add (b o j : Nat) : (⟨b, o, none⟩ : Addr).add j = ⟨b, o + j, none⟩ := by
  cases j with
  | zero => rfl
  | succ j => simp [Addr.add]

/-- The slice at A holds the numbers l. -/
def IntsAt (W : World) (B : Nat) (A : Option Addr) (l : List Int) : Prop :=
  l = [] ∨ ∃ b off, A = some ⟨b, off, none⟩ ∧ b < B ∧ ∀ i x, l[i]? = some x → W.cell? ⟨b, off + i, none⟩ = some (.int .i64 x)
theorem IntsAt.keep {W W' : World} {B B' : Nat} {A : Option Addr} {l : List Int} (h : IntsAt W B A l) (hB : B ≤ B') (hk : ∀ b o, b < B → W'.cell? ⟨b, o, none⟩ = W.cell? ⟨b, o, none⟩) : IntsAt W' B' A l := by
  rcases h with h | ⟨b, off, hA, hb, hc⟩
  · exact .inl h
  · exact .inr ⟨b, off, hA, by omega, fun i x hx => by rw [hk _ _ hb]; exact hc i x hx⟩
theorem IntsAt.at_ {W : World} {B : Nat} {A : Option Addr} {l : List Int} (h : IntsAt W B A l) {k : Nat} {x : Int} (hx : l[k]? = some x) : ∃ b off, A = some ⟨b, off, none⟩ ∧ b < B ∧ W.cell? ⟨b, off + k, none⟩ = some (.int .i64 x) := by
  rcases h with h | ⟨b, off, hA, hb, hc⟩
  · subst h; simp at hx
  · exact ⟨b, off, hA, hb, hc k x hx⟩
/-- The slice at A holds the pairs l (kinds, parts). -/
def PairsAt (W : World) (B : Nat) (A : Option Addr) (l : List (Int × Int)) : Prop :=
  l = [] ∨ ∃ b off, A = some ⟨b, off, none⟩ ∧ b < B ∧ ∀ i x, l[i]? = some x → W.cell? ⟨b, off + i * 2, none⟩ = some (.int .i64 x.1) ∧ W.cell? ⟨b, off + i * 2 + 1, none⟩ = some (.int .i64 x.2)
theorem PairsAt.keep {W W' : World} {B B' : Nat} {A : Option Addr} {l : List (Int × Int)} (h : PairsAt W B A l) (hB : B ≤ B') (hk : ∀ b o, b < B → W'.cell? ⟨b, o, none⟩ = W.cell? ⟨b, o, none⟩) : PairsAt W' B' A l := by
  rcases h with h | ⟨b, off, hA, hb, hc⟩
  · exact .inl h
  · exact .inr ⟨b, off, hA, by omega, fun i x hx => by rw [hk _ _ hb, hk _ _ hb]; exact hc i x hx⟩
theorem PairsAt.at_ {W : World} {B : Nat} {A : Option Addr} {l : List (Int × Int)} (h : PairsAt W B A l) {k : Nat} {x : Int × Int} (hx : l[k]? = some x) : ∃ b off, A = some ⟨b, off, none⟩ ∧ b < B ∧
    W.cell? ⟨b, off + k * 2, none⟩ = some (.int .i64 x.1) ∧ W.cell? ⟨b, off + k * 2 + 1, none⟩ = some (.int .i64 x.2) := by
  rcases h with h | ⟨b, off, hA, hb, hc⟩
  · subst h; simp at hx
  · exact ⟨b, off, hA, hb, hc k x hx⟩

/-! Lifts, in plain words: seas, truths, shares. -/
/-- A sea: the catch's weight, the places (Low, High), the boats (Carry, Pence). -/
structure Sea where
  wl : Int
  wh : Int
  ps : List (Int × Int)
  bs : List (Int × Int)
def sumL (l : List (Int × Int)) : Int := (l.map (·.1)).sum
def sumH (l : List (Int × Int)) : Int := (l.map (·.2)).sum
theorem sumL_cons (x : Int × Int) (l : List (Int × Int)) : sumL (x :: l) = x.1 + sumL l := by simp [sumL]
theorem sumH_cons (x : Int × Int) (l : List (Int × Int)) : sumH (x :: l) = x.2 + sumH l := by simp [sumH]
/-- A sea that is valid. -/
structure SOK (s : Sea) : Prop where
  w0 : 0 ≤ s.wl
  w1 : s.wl ≤ s.wh
  w2 : s.wh ≤ 2000
  pl : s.ps.length ≤ 4
  bl : s.bs.length ≤ 6
  p : ∀ x ∈ s.ps, 0 ≤ x.1 ∧ x.1 ≤ x.2 ∧ x.2 ≤ 12
  b : ∀ x ∈ s.bs, 0 ≤ x.1 ∧ x.1 ≤ 1000 ∧ 0 ≤ x.2 ∧ x.2 ≤ 99
  lo : sumL s.ps ≤ 12
  hi : 12 ≤ sumH s.ps
/-- Parts that lie in spans, and are so many together. -/
inductive Parting : List (Int × Int) → Int → List Int → Prop
  | nil : Parting [] 0 []
  | cons {x : Int × Int} {l : List (Int × Int)} {t v : Int} {p : List Int} : x.1 ≤ v → v ≤ x.2 → Parting l (t - v) p → Parting (x :: l) t (v :: p)
theorem Parting.len {l : List (Int × Int)} {t : Int} {p : List Int} (h : Parting l t p) : p.length = l.length := by
  induction h with
  | nil => rfl
  | cons _ _ _ ih => simp [ih]
/-- What a place can have: in a whole of t. -/
def shareL (l : List (Int × Int)) (t : Int) (x : Int × Int) : Int × Int := (max x.1 (t - (sumH l - x.2)), min x.2 (t - (sumL l - x.1)))
/-! Small words on worlds. -/
theorem drew_below (w : World) : Below w.heap.size w w.drew := (Below.refl _ _).drew
theorem al_below (W : World) (o : Obj) : Below W.heap.size W (W.alloc o) := (Below.refl _ W).alloc (Nat.le_refl _) o
theorem hb0to {w w1 w2 : World} (h : Below w.heap.size w w1) (k : Below w1.heap.size w1 w2) : Below w.heap.size w w2 := h.trans (k.mono h.size)
theorem heap_lt {W : World} {k : Nat} {o : Obj} (h : W.heap[k]? = some o) : k < W.heap.size := (Array.getElem?_eq_some_iff.1 h).1
theorem below_drewN {B : Nat} {W W' : World} (h : Below B W W') (m : Nat) : Below B W (W'.drewN m) := ⟨h.os, h.tape, h.output, h.size, h.block⟩
theorem heap_set {W : World} {b o : Nat} {arr : Array Value} {t : TypeId} (v : Value) (h : W.heap[b]? = some (.cells arr t (0, 0))) : (W.setCell ⟨b, o, none⟩ v).heap[b]? = some (.cells (arr.setIfInBounds o v) t (0, 0)) := by
  obtain ⟨hlt, e⟩ := Array.getElem?_eq_some_iff.1 h
  have : (W.setCell ⟨b, o, none⟩ v).heap[b]? = some ((W.setCell ⟨b, o, none⟩ v).heap[b]'(by simp [World.setCell]; exact hlt)) := Array.getElem?_eq_getElem _
  rw [this]
  simp only [World.setCell]
  rw [Array.getElem_modify_self, e]
  rfl

theorem set_other_heap {W : World} {b o k : Nat} {u : Value} (hk : k < W.heap.size) (hne : k ≠ b) : (W.setCell ⟨b, o, none⟩ u).heap[k]? = W.heap[k]? := ((KpB.refl (fun k => k = b) W.heap.size W).set o u (.inl rfl)).block k hk hne
theorem ints_later {w W : World} {A : Option Addr} {l : List Int} (hI : IntsAt w w.heap.size A l) (hb : Below w.heap.size w W) : IntsAt W W.heap.size A l := hI.keep hb.size fun b o hlt => hb.cell (p := ⟨b, o, none⟩) hlt
theorem snoc_ind {α : Type} {P : List α → Prop} (h0 : P []) (h1 : ∀ l x, P l → P (l ++ [x])) (l : List α) : P l := by
  suffices h : ∀ l : List α, P l.reverse by simpa using h l.reverse
  intro l
  induction l with
  | nil => simpa using h0
  | cons x l ih => rw [List.reverse_cons]; exact h1 _ _ ih
/-- Where the slices of a sea lie. -/
structure SL where
  Ap : Option Addr
  cp : Nat
  Ab : Option Addr
  cb : Nat
abbrev SL.enc (L : SL) (s : Sea) : Value := .agg #[.int .i64 s.wl, .int .i64 s.wh, .slice L.Ap s.ps.length L.cp, .slice L.Ab s.bs.length L.cb]
structure SeaAt (W : World) (B : Nat) (L : SL) (s : Sea) : Prop where
  p : PairsAt W B L.Ap s.ps
  b : PairsAt W B L.Ab s.bs
theorem SeaAt.keep {W W' : World} {B B' : Nat} {L : SL} {s : Sea} (hh : SeaAt W B L s) (hB : B ≤ B') (hk : ∀ b o, b < B → W'.cell? ⟨b, o, none⟩ = W.cell? ⟨b, o, none⟩) : SeaAt W' B' L s :=
  ⟨hh.p.keep hB hk, hh.b.keep hB hk⟩
theorem SeaAt.below {W W' : World} {L : SL} {s : Sea} (hh : SeaAt W W.heap.size L s) (hb : Below W.heap.size W W') : SeaAt W' W'.heap.size L s :=
  hh.keep hb.size fun _ _ hlt => hb.cell (p := ⟨_, _, none⟩) hlt
/-- A box with a sea. -/
def SBox (W : World) (b : Nat) (L : SL) (s : Sea) : Prop := W.heap[b]? = some (.cells #[.int .i64 s.wl, .int .i64 s.wh, .slice L.Ap s.ps.length L.cp, .slice L.Ab s.bs.length L.cb] 44 (0, 0))
theorem SBox.cells {W : World} {b : Nat} {L : SL} {s : Sea} (hb : SBox W b L s) : W.cell? ⟨b, 0, none⟩ = some (.int .i64 s.wl) ∧ W.cell? ⟨b, 1, none⟩ = some (.int .i64 s.wh) ∧ W.cell? ⟨b, 2, none⟩ = some (.slice L.Ap s.ps.length L.cp) ∧ W.cell? ⟨b, 3, none⟩ = some (.slice L.Ab s.bs.length L.cb) := by
  simp [World.cell?, show W.heap[b]? = _ from hb]
theorem SBox.new (W : World) (L : SL) (s : Sea) : SBox (W.alloc (.cells #[.int .i64 s.wl, .int .i64 s.wh, .slice L.Ap s.ps.length L.cp, .slice L.Ab s.bs.length L.cb] 44)) W.heap.size L s := World.alloc_heap_new W _
theorem SBox.lt {W : World} {b : Nat} {L : SL} {s : Sea} (hb : SBox W b L s) : b < W.heap.size := (Array.getElem?_eq_some_iff.1 hb).1
theorem SBox.of {W W' : World} {b : Nat} {L : SL} {s : Sea} (hb : SBox W b L s) (e : W'.heap[b]? = W.heap[b]?) : SBox W' b L s := e.trans hb
/-- A sea that is valid, as a test. -/
def spanOK (m : Int) (x : Int × Int) : Bool := inR x.1 0 x.2 && decide (x.2 ≤ m)
def boatOK (x : Int × Int) : Bool := inR x.1 0 999 && inR x.2 0 99
def bigS (s : Sea) : Bool := spanOK 2000 (s.wl, s.wh) && (decide (s.ps.length ≤ 4) && decide (s.bs.length ≤ 6))
def validS (s : Sea) : Bool := bigS s && (s.ps.all (spanOK 12) && (inR 12 (sumL s.ps) (sumH s.ps) && s.bs.all boatOK))
def ckS (s : Sea) : Int := if validS s then 0 else 50
theorem SOK.ofValid {s : Sea} (h : validS s = true) : SOK s := by
  unfold validS bigS spanOK at h
  simp only [Bool.and_eq_true, decide_eq_true_eq, inR_true, List.all_eq_true] at h
  obtain ⟨⟨⟨h1, h2⟩, h3, h4⟩, h5, h6, h7⟩ := h
  refine ⟨h1.1, h1.2, h2, h3, h4, fun x hx => ?_, fun x hx => ?_, h6.1, h6.2⟩
  · have := h5 x hx
    omega
  · have := h7 x hx
    simp only [boatOK, Bool.and_eq_true, inR_true] at this
    omega
open Go.RowKit

/-! Lifts: within 82, Check 51. -/
theorem within_any (n lo hi : Int) (w : World) : Calls Try.prog 135 #[.int .i64 n, .int .i64 lo, .int .i64 hi] w fun e w' => e = .returned (.bool (inR n lo hi)) ∧ w = w' := by
  by_cases h : lo ≤ n <;> by_cases h2 : n ≤ hi
  all_goals
    have e : inR n lo hi = (decide (lo ≤ n) && decide (n ≤ hi)) := rfl
    rw [e]
    go_enter Try.func135, Try.ntmps135
    go_wp2
    go_ret
    simp [*]
theorem within28_any (n lo hi : Int) (w : World) : Calls Try.prog 28 #[.int .i64 n, .int .i64 lo, .int .i64 hi] w fun e w' => e = .returned (.bool (inR n lo hi)) ∧ w = w' := by
  by_cases h : lo ≤ n <;> by_cases h2 : n ≤ hi
  all_goals
    have e : inR n lo hi = (decide (lo ≤ n) && decide (n ≤ hi)) := rfl
    rw [e]
    go_enter Try.func28, Try.ntmps28
    go_wp2
    go_ret
    simp [*]
theorem rwithin_any (n lo hi : Int) (w : World) : Calls Try.prog 69 #[.int .i64 n, .int .i64 lo, .int .i64 hi] w fun e w' => e = .returned (.bool (inR n lo hi)) ∧ w = w' := by
  go_enter Try.func69, Try.ntmps69
  go_wp2_with (go_at_call 28; refine (within28_any _ _ _ _).mono ?_; rintro e w' ⟨rfl, rfl⟩)
  go_ret
  exact ⟨rfl, rfl⟩
theorem isPlace_any (L : SL) (s : Sea) (k : Int) (w : World) (hn : s.ps.length ≤ 1000) : Calls Try.prog 83 #[L.enc s, .int .i64 k] w fun e w' => e = .returned (.bool (inR k 0 (s.ps.length - 1))) ∧ Below w.heap.size w w' := by
  go_enter Try.func83, Try.ntmps83
  go_wp2_with (go_at_call 135; refine (within_any _ _ _ _).mono ?_; rintro e w' ⟨rfl, rfl⟩)
  go_ret
  exact ⟨rfl, (Below.refl _ _).alloc (Nat.le_refl _) _⟩
theorem rIsBoat_any (L : SL) (s : Sea) (k : Int) (w : World) (hn : s.bs.length ≤ 1000) : Calls Try.prog 76 #[L.enc s, .int .i64 k] w fun e w' => e = .returned (.bool (inR k 0 (s.bs.length - 1))) ∧ Below w.heap.size w w' := by
  go_enter Try.func76, Try.ntmps76
  go_wp2_with (go_at_call 69; refine (rwithin_any _ _ _ _).mono ?_; rintro e w' ⟨rfl, rfl⟩)
  go_ret
  exact ⟨rfl, (Below.refl _ _).alloc (Nat.le_refl _) _⟩
theorem rIsSpan_any (x : Int × Int) (m : Int) (w : World) : Calls Try.prog 68 #[.agg #[.int .i64 x.1, .int .i64 x.2], .int .i64 m] w fun e w' => e = .returned (.bool (inR x.2 0 m && inR x.1 0 x.2)) ∧ Below w.heap.size w w' := by
  cases h : inR x.2 0 m
  · go_enter Try.func68, Try.ntmps68
    go_wp2_with (go_at_call 69; refine (rwithin_any _ _ _ _).mono ?_; rintro e w' ⟨rfl, rfl⟩; rw [h])
    go_ret
    exact ⟨rfl, (Below.refl _ _).alloc (Nat.le_refl _) _⟩
  · have H := Lib.hid h
    clear h
    go_enter Try.func68, Try.ntmps68
    go_wp2_with (first
      | (go_at_call 69; (with_reducible refine (rwithin_any x.2 0 m _).mono ?_); rintro e w' ⟨rfl, rfl⟩; rw [H.out])
      | (go_at_call 69; (with_reducible refine (rwithin_any x.1 0 x.2 _).mono ?_); rintro e w' ⟨rfl, rfl⟩))
    go_ret
    exact ⟨rfl, (Below.refl _ _).alloc (Nat.le_refl _) _⟩
theorem span_eq (x : Int × Int) {m : Int} : (inR x.2 0 m && inR x.1 0 x.2) = spanOK m x := by
  rw [Bool.eq_iff_iff]
  simp only [spanOK, Bool.and_eq_true, inR_true, decide_eq_true_eq]
  omega
open Go.RowKit

/-! Lifts: Check 51. -/
theorem take_nextP {l : List (Int × Int)} {k : Nat} {x : Int × Int} (h : l[k]? = some x) : l.take (k + 1) = l.take k ++ [x] := by
  obtain ⟨hl, e⟩ := List.getElem?_eq_some_iff.1 h
  rw [List.take_add_one, h]; rfl
theorem sumL_app (a b : List (Int × Int)) : sumL (a ++ b) = sumL a + sumL b := by simp [sumL]
theorem sumH_app (a b : List (Int × Int)) : sumH (a ++ b) = sumH a + sumH b := by simp [sumH]
theorem sumL_next {l : List (Int × Int)} {k : Nat} {x : Int × Int} (h : l[k]? = some x) : sumL (l.take (k + 1)) = sumL (l.take k) + x.1 := by
  rw [take_nextP h, sumL_app]; simp [sumL]
theorem sumH_next {l : List (Int × Int)} {k : Nat} {x : Int × Int} (h : l[k]? = some x) : sumH (l.take (k + 1)) = sumH (l.take k) + x.2 := by
  rw [take_nextP h, sumH_app]; simp [sumH]
set_option maxRecDepth 100000 in
set_option maxHeartbeats 4000000 in
theorem check_yes (L : SL) (s : Sea) (hv : bigS s = true) (w : World) (hH : SeaAt w w.heap.size L s) :
    Calls Try.prog 130 #[L.enc s] w fun e w' => e = .returned (.int .i64 (ckS s)) ∧ Below w.heap.size w w' := by
  have hbig := hv
  unfold bigS spanOK at hv
  simp only [Bool.and_eq_true, decide_eq_true_eq] at hv
  obtain ⟨⟨h1, h2⟩, h3, h4⟩ := hv
  have HBIG := Lib.hid hbig
  have hd1 : decide ((2000 : Int) < s.wh) = false := decide_eq_false (by omega)
  have hd2 : decide ((4 : Int) < (s.ps.length : Int)) = false := decide_eq_false (by omega)
  have hd3 : decide ((6 : Int) < (s.bs.length : Int)) = false := decide_eq_false (by omega)
  have H1 := Lib.hid h1
  have HH := Lib.hid hH
  have hbw := (Below.refl w.heap.size w).alloc (Nat.le_refl _) (.cells #[.int .i64 s.wl, .int .i64 s.wh, .slice L.Ap s.ps.length L.cp, .slice L.Ab s.bs.length L.cb] 44)
  have HB := Lib.hid (SBox.new w L s)
  have hc0 := (SBox.new w L s).cells
  obtain ⟨W0, hW0⟩ : ∃ W0, w.alloc (.cells #[.int .i64 s.wl, .int .i64 s.wh, .slice L.Ap s.ps.length L.cp, .slice L.Ab s.bs.length L.cb] 44) = W0 := ⟨_, rfl⟩
  rw [hW0] at hbw HB hc0
  have HBW := Lib.hid hbw
  have HW0 := Lib.hid hW0
  clear hbig h1 hH hbw hW0
  obtain ⟨Ap, cp, Ab, cb⟩ := L
  go_enter Try.func130, Try.ntmps130
  go_upto_region 1 with (fail)
  have e := HW0.out
  rw [e]
  clear e
  go_wp2_with (go_at_call 135; (with_reducible refine (within_any s.wl 0 s.wh _).mono ?_); rintro e w' ⟨rfl, rfl⟩; rw [H1.out])
  go_loopw [3, 4, 38] (fun s3 s4 i wr => ∃ (k : Nat) (x y : Int), k ≤ s.ps.length ∧ i = .int .i64 k ∧ s3 = .int .i64 x ∧ s4 = .int .i64 y ∧ Hid (x = sumL (s.ps.take k)) ∧ Hid (y = sumH (s.ps.take k)) ∧ (0 ≤ x ∧ x ≤ 12 * k ∧ 0 ≤ y ∧ y ≤ 12 * k) ∧ Hid ((s.ps.take k).all (spanOK 12) = true) ∧ Hid (Below W0.heap.size W0 wr)) (fun _ _ i _ => s.ps.length - (intOf i).toNat)
  case atStart => exact ⟨0, 0, 0, Nat.zero_le _, rfl, rfl, rfl, Lib.hid rfl, Lib.hid rfl, by simp, Lib.hid rfl, Lib.hid (Below.refl _ _)⟩
  case round =>
    obtain ⟨k, x, y, hk, rfl, rfl, rfl, hX, hY, ⟨x0, x1, y0, y1⟩, hall, hb⟩ := hrel
    by_cases hlt : k < s.ps.length
    · obtain ⟨p, hp⟩ : ∃ p, s.ps[k]? = some p := ⟨_, List.getElem?_eq_getElem hlt⟩
      obtain ⟨bp, op, eP, blt, d1, d2⟩ := HH.out.p.at_ hp
      have d1' := (hb0to HBW.out hb.out).cell (p := ⟨bp, op + k * 2, none⟩) blt |>.trans d1
      have d2' := (hb0to HBW.out hb.out).cell (p := ⟨bp, op + k * 2 + 1, none⟩) blt |>.trans d2
      have HX1 := Lib.hid (sumL_next hp)
      have HY1 := Lib.hid (sumH_next hp)
      have HT := Lib.hid (take_nextP hp)
      have HM := Lib.hid (List.mem_of_getElem? hp)
      simp only at eP
      clear hp d1 d2
      obtain ⟨p1, p2⟩ := p
      simp only at d1' d2' HX1 HY1
      obtain ⟨c0, c1, c2, c3⟩ := (HB.out.of (hb.out.block _ HB.out.lt)).cells
      subst eP
      cases hq : spanOK 12 (p1, p2)
      · have HQ := Lib.hid (show ckS s = 50 by
          unfold ckS
          rw [if_neg]
          unfold validS
          have : s.ps.all (spanOK 12) = false := by
            rw [List.all_eq_false]
            exact ⟨_, HM.out, by simp [hq]⟩
          simp [this])
        unfold spanOK at hq
        simp only at hq
        cases hq1 : inR p1 0 p2
        · have HQ1 := Lib.hid hq1
          clear hq hq1
          as_aux_lemma =>
          go_wp2_with (go_at_call 135; (with_reducible refine (within_any p1 0 p2 _).mono ?_); rintro e w' ⟨rfl, rfl⟩; rw [HQ1.out])
          go_ret
          exact ⟨by rw [HQ.out]; rfl, hb0to HBW.out (hb0to hb.out (al_below _ _))⟩
        · have HQ1 := Lib.hid hq1
          rw [hq1, Bool.true_and] at hq
          have hq2 : decide ((12 : Int) < p2) = true := by simp at hq ⊢; omega
          clear hq hq1
          as_aux_lemma =>
          go_wp2_with (go_at_call 135; (with_reducible refine (within_any p1 0 p2 _).mono ?_); rintro e w' ⟨rfl, rfl⟩; rw [HQ1.out])
          go_ret
          exact ⟨by rw [HQ.out]; rfl, hb0to HBW.out (hb0to hb.out (al_below _ _))⟩
      · have HALL := Lib.hid (show (s.ps.take (k + 1)).all (spanOK 12) = true by rw [HT.out, List.all_append, hall.out]; simp [hq])
        unfold spanOK at hq
        simp only [Bool.and_eq_true, decide_eq_true_eq] at hq
        obtain ⟨hq1, hq2⟩ := hq
        have hq1' := inR_true.1 hq1
        have HQ1 := Lib.hid hq1
        have hq3 : decide ((12 : Int) < p2) = false := decide_eq_false (by omega)
        have hwx : IntKind.i64.wrap (x + p1) = x + p1 := IntWalk.i64_in _ (by omega)
        have hwy : IntKind.i64.wrap (y + p2) = y + p2 := IntWalk.i64_in _ (by omega)
        clear hq1
        as_aux_lemma =>
        go_upto_region 9 with (go_at_call 135; (with_reducible refine (within_any p1 0 p2 _).mono ?_); rintro e w' ⟨rfl, rfl⟩; rw [HQ1.out])
        go_quiet (fail)
        go_wp2_with (fail)
        go_roundw
        case rel => exact ⟨k + 1, x + p1, y + p2, by omega, by go_num, rfl, rfl, Lib.hid (by rw [HX1.out, ← hX.out]), Lib.hid (by rw [HY1.out, ← hY.out]), by omega, HALL, Lib.hid (below_drewN (hb0to hb.out (al_below _ _)) _)⟩
        case measure => simp [intOf]; omega
    · obtain rfl : k = s.ps.length := by omega
      obtain rfl : x = sumL s.ps := by have := hX.out; rwa [List.take_length] at this
      obtain rfl : y = sumH s.ps := by have := hY.out; rwa [List.take_length] at this
      have hall2 := hall.out
      rw [List.take_length] at hall2
      have HALL := Lib.hid hall2
      clear hall hall2 hX hY
      obtain ⟨c0, c1, c2, c3⟩ := (HB.out.of (hb.out.block _ HB.out.lt)).cells
      cases hw : inR 12 (sumL s.ps) (sumH s.ps)
      · have HWW := Lib.hid hw
        have HQ := Lib.hid (show ckS s = 50 by unfold ckS validS; simp [hw])
        clear hw
        as_aux_lemma =>
        go_wp2_with (go_at_call 135; (with_reducible refine (within_any 12 (sumL s.ps) (sumH s.ps) _).mono ?_); rintro e w' ⟨rfl, rfl⟩; rw [HWW.out])
        go_ret
        exact ⟨by rw [HQ.out]; rfl, hb0to HBW.out hb.out⟩
      · have HWW := Lib.hid hw
        clear hw
        as_aux_lemma =>
        go_wp2_with (go_at_call 135; (with_reducible refine (within_any 12 (sumL s.ps) (sumH s.ps) _).mono ?_); rintro e w' ⟨rfl, rfl⟩; rw [HWW.out])
        go_loopw [69] (fun i wx => ∃ k : Nat, k ≤ s.bs.length ∧ i = .int .i64 k ∧ Hid ((s.bs.take k).all boatOK = true) ∧ Hid (Below wr.heap.size wr wx)) (fun i _ => s.bs.length - (intOf i).toNat)
        case atStart => exact ⟨0, Nat.zero_le _, rfl, Lib.hid rfl, Lib.hid (Below.refl _ _)⟩
        case round =>
          obtain ⟨k, hk, rfl, hall, hb2⟩ := hrel
          by_cases hlt : k < s.bs.length
          · obtain ⟨p, hp⟩ : ∃ p, s.bs[k]? = some p := ⟨_, List.getElem?_eq_getElem hlt⟩
            have hbA := hb0to HBW.out (hb0to hb.out hb2.out)
            obtain ⟨bp, op, eP, blt, d1, d2⟩ := HH.out.b.at_ hp
            have d1' := hbA.cell (p := ⟨bp, op + k * 2, none⟩) blt |>.trans d1
            have d2' := hbA.cell (p := ⟨bp, op + k * 2 + 1, none⟩) blt |>.trans d2
            have HT := Lib.hid (take_nextP hp)
            have HM := Lib.hid (List.mem_of_getElem? hp)
            have HBA := Lib.hid hbA
            simp only at eP
            clear hp d1 d2 hbA
            obtain ⟨p1, p2⟩ := p
            simp only at d1' d2'
            subst eP
            cases hq : boatOK (p1, p2)
            · have HQ := Lib.hid (show ckS s = 50 by
                unfold ckS
                rw [if_neg]
                unfold validS
                have : s.bs.all boatOK = false := by
                  rw [List.all_eq_false]
                  exact ⟨_, HM.out, by simp [hq]⟩
                simp [this])
              unfold boatOK at hq
              simp only at hq
              cases hq1 : inR p1 0 999
              · have HQ1 := Lib.hid hq1
                clear hq hq1
                as_aux_lemma =>
                go_wp2_with (go_at_call 135; (with_reducible refine (within_any p1 0 999 _).mono ?_); rintro e w' ⟨rfl, rfl⟩; rw [HQ1.out])
                go_ret
                exact ⟨by rw [HQ.out]; rfl, hb0to HBA.out (al_below _ _)⟩
              · have HQ1 := Lib.hid hq1
                rw [hq1, Bool.true_and] at hq
                have HQ2 := Lib.hid hq
                clear hq hq1
                as_aux_lemma =>
                go_wp2_with (first
                  | (go_at_call 135; (with_reducible refine (within_any p1 0 999 _).mono ?_); rintro e w' ⟨rfl, rfl⟩; rw [HQ1.out])
                  | (go_at_call 135; (with_reducible refine (within_any p2 0 99 _).mono ?_); rintro e w' ⟨rfl, rfl⟩; rw [HQ2.out]))
                go_ret
                exact ⟨by rw [HQ.out]; rfl, hb0to HBA.out (al_below _ _)⟩
            · have HALL2 := Lib.hid (show (s.bs.take (k + 1)).all boatOK = true by rw [HT.out, List.all_append, hall.out]; simp [hq])
              unfold boatOK at hq
              simp only [Bool.and_eq_true] at hq
              have HQ1 := Lib.hid hq.1
              have HQ2 := Lib.hid hq.2
              clear hq
              as_aux_lemma =>
              go_wp2_with (first
                | (go_at_call 135; (with_reducible refine (within_any p1 0 999 _).mono ?_); rintro e w' ⟨rfl, rfl⟩; rw [HQ1.out])
                | (go_at_call 135; (with_reducible refine (within_any p2 0 99 _).mono ?_); rintro e w' ⟨rfl, rfl⟩; rw [HQ2.out]))
              go_roundw
              case rel => exact ⟨k + 1, by omega, by go_num, HALL2, Lib.hid (hb0to hb2.out (al_below _ _))⟩
              case measure => simp [intOf]; omega
          · obtain rfl : k = s.bs.length := by omega
            have HQ := Lib.hid (show ckS s = 0 by
              have := hall.out
              rw [List.take_length] at this
              unfold ckS validS
              rw [if_pos (by rw [HBIG.out, HALL.out, HWW.out, this]; rfl)])
            go_wp2_with (fail)
            go_ret
            exact ⟨by rw [HQ.out]; rfl, hb0to HBW.out (hb0to hb.out hb2.out)⟩
set_option maxRecDepth 100000 in
set_option maxHeartbeats 4000000 in
theorem check_no (L : SL) (s : Sea) (hv : bigS s = false) (w : World) :
    Calls Try.prog 130 #[L.enc s] w fun e w' => e = .returned (.int .i64 (ckS s)) ∧ Below w.heap.size w w' := by
  have HQ := Lib.hid (show ckS s = 50 by unfold ckS validS; simp [hv])
  have hbw := (Below.refl w.heap.size w).alloc (Nat.le_refl _) (.cells #[.int .i64 s.wl, .int .i64 s.wh, .slice L.Ap s.ps.length L.cp, .slice L.Ab s.bs.length L.cb] 44)
  have HBW := Lib.hid hbw
  have hc : inR s.wl 0 s.wh = false ∨ (inR s.wl 0 s.wh = true ∧ decide ((2000 : Int) < s.wh) = true) ∨ (inR s.wl 0 s.wh = true ∧ decide ((2000 : Int) < s.wh) = false ∧ decide ((4 : Int) < (s.ps.length : Int)) = true) ∨ (inR s.wl 0 s.wh = true ∧ decide ((2000 : Int) < s.wh) = false ∧ decide ((4 : Int) < (s.ps.length : Int)) = false ∧ decide ((6 : Int) < (s.bs.length : Int)) = true) := by
    by_cases a : inR s.wl 0 s.wh = true
    · by_cases b : s.wh ≤ 2000
      · by_cases c : s.ps.length ≤ 4
        · by_cases d : s.bs.length ≤ 6
          · unfold bigS spanOK at hv
            simp [a, b, c, d] at hv
          · exact .inr (.inr (.inr ⟨a, decide_eq_false (by omega), decide_eq_false (by omega), decide_eq_true (by omega)⟩))
        · exact .inr (.inr (.inl ⟨a, decide_eq_false (by omega), decide_eq_true (by omega)⟩))
      · exact .inr (.inl ⟨a, decide_eq_true (by omega)⟩)
    · exact .inl (by simpa using a)
  clear hv hbw
  obtain ⟨Ap, cp, Ab, cb⟩ := L
  rcases hc with a | ⟨a, b⟩ | ⟨a, b, c⟩ | ⟨a, b, c, d⟩
  all_goals
    have HA := Lib.hid a
    clear a
    as_aux_lemma =>
    go_enter Try.func130, Try.ntmps130
    go_wp2_with (go_at_call 135; (with_reducible refine (within_any s.wl 0 s.wh _).mono ?_); rintro e w' ⟨rfl, rfl⟩; rw [HA.out])
    go_ret
    exact ⟨by rw [HQ.out]; rfl, HBW.out⟩
theorem check_any (L : SL) (s : Sea) (w : World) (hH : SeaAt w w.heap.size L s) : Calls Try.prog 130 #[L.enc s] w fun e w' => e = .returned (.int .i64 (ckS s)) ∧ Below w.heap.size w w' := by
  cases hv : bigS s
  · exact check_no L s hv w
  · exact check_yes L s hv w hH
open Go.RowKit

/-! Lifts: the specification's Check 52, ask 87. -/
theorem rIsSpan2 (x : Int × Int) (m : Int) (w : World) : Calls Try.prog 68 #[.agg #[.int .i64 x.1, .int .i64 x.2], .int .i64 m] w fun e w' => e = .returned (.bool (spanOK m x)) ∧ Below w.heap.size w w' := by
  rw [← span_eq]; exact rIsSpan_any x m w
set_option maxRecDepth 100000 in
set_option maxHeartbeats 4000000 in
theorem rcheck_yes (L : SL) (s : Sea) (hv : bigS s = true) (w : World) (hH : SeaAt w w.heap.size L s) :
    Calls Try.prog 18 #[L.enc s] w fun e w' => e = .returned (.int .i64 (ckS s)) ∧ Below w.heap.size w w' := by
  have hbig := hv
  unfold bigS at hv
  simp only [Bool.and_eq_true, decide_eq_true_eq] at hv
  obtain ⟨h1, h3, h4⟩ := hv
  have HBIG := Lib.hid hbig
  have hd2 : decide ((4 : Int) < (s.ps.length : Int)) = false := decide_eq_false (by omega)
  have hd3 : decide ((6 : Int) < (s.bs.length : Int)) = false := decide_eq_false (by omega)
  have H1 := Lib.hid h1
  have HH := Lib.hid hH
  have hbw := (Below.refl w.heap.size w).alloc (Nat.le_refl _) (.cells #[.int .i64 s.wl, .int .i64 s.wh, .slice L.Ap s.ps.length L.cp, .slice L.Ab s.bs.length L.cb] 44)
  have HB := Lib.hid (SBox.new w L s)
  have hc0 := (SBox.new w L s).cells
  obtain ⟨W0, hW0⟩ : ∃ W0, w.alloc (.cells #[.int .i64 s.wl, .int .i64 s.wh, .slice L.Ap s.ps.length L.cp, .slice L.Ab s.bs.length L.cb] 44) = W0 := ⟨_, rfl⟩
  rw [hW0] at hbw HB hc0
  have HBW := Lib.hid hbw
  have HW0 := Lib.hid hW0
  clear hbig h1 hH hbw hW0
  obtain ⟨Ap, cp, Ab, cb⟩ := L
  go_enter Try.func18, Try.ntmps18
  go_upto_region 1 with (fail)
  have e := HW0.out
  rw [e]
  clear e
  go_wp2_with (go_at_call 68; (with_reducible refine (rIsSpan2 (s.wl, s.wh) 2000 _).mono ?_); rintro e w1 ⟨rfl, hb1⟩; rw [H1.out]; have B1 := Lib.hid hb1; have c1 := (HB.out.of (hb1.block _ HB.out.lt)).cells; clear hb1)
  clear hc0 c1
  go_loopw [3, 4, 5] (fun s3 s4 i wr => ∃ (k : Nat) (x y : Int), k ≤ s.ps.length ∧ i = .int .i64 k ∧ s3 = .int .i64 x ∧ s4 = .int .i64 y ∧ Hid (x = sumL (s.ps.take k)) ∧ Hid (y = sumH (s.ps.take k)) ∧ (0 ≤ x ∧ x ≤ 12 * k ∧ 0 ≤ y ∧ y ≤ 12 * k) ∧ Hid ((s.ps.take k).all (spanOK 12) = true) ∧ Hid (Below W0.heap.size W0 wr)) (fun _ _ i _ => s.ps.length - (intOf i).toNat)
  case atStart => exact ⟨0, 0, 0, Nat.zero_le _, rfl, rfl, rfl, Lib.hid rfl, Lib.hid rfl, by simp, Lib.hid rfl, B1⟩
  case round =>
    obtain ⟨k, x, y, hk, rfl, rfl, rfl, hX, hY, ⟨x0, x1, y0, y1⟩, hall, hb⟩ := hrel
    obtain ⟨c0, c1, c2, c3⟩ := (HB.out.of (hb.out.block _ HB.out.lt)).cells
    by_cases hlt : k < s.ps.length
    · obtain ⟨p, hp⟩ : ∃ p, s.ps[k]? = some p := ⟨_, List.getElem?_eq_getElem hlt⟩
      obtain ⟨bp, op, eP, blt, d1, d2⟩ := HH.out.p.at_ hp
      have d1' := (hb0to HBW.out hb.out).cell (p := ⟨bp, op + k * 2, none⟩) blt |>.trans d1
      have d2' := (hb0to HBW.out hb.out).cell (p := ⟨bp, op + k * 2 + 1, none⟩) blt |>.trans d2
      have HX1 := Lib.hid (sumL_next hp)
      have HY1 := Lib.hid (sumH_next hp)
      have HT := Lib.hid (take_nextP hp)
      have HM := Lib.hid (List.mem_of_getElem? hp)
      simp only at eP
      clear hp d1 d2
      obtain ⟨p1, p2⟩ := p
      simp only at d1' d2' HX1 HY1
      subst eP
      cases hq : spanOK 12 (p1, p2)
      · have HQ := Lib.hid (show ckS s = 50 by
          unfold ckS
          rw [if_neg]
          unfold validS
          have : s.ps.all (spanOK 12) = false := by
            rw [List.all_eq_false]
            exact ⟨_, HM.out, by simp [hq]⟩
          simp [this])
        have HQ1 := Lib.hid hq
        clear hq
        as_aux_lemma =>
        go_wp2_with (go_at_call 68; (with_reducible refine (rIsSpan2 (p1, p2) 12 _).mono ?_); rintro e w2 ⟨rfl, hb2⟩; rw [HQ1.out]; have B2 := Lib.hid (hb0to hb.out hb2); clear hb2)
        go_ret
        exact ⟨by rw [HQ.out]; rfl, hb0to HBW.out B2.out⟩
      · have HALL := Lib.hid (show (s.ps.take (k + 1)).all (spanOK 12) = true by rw [HT.out, List.all_append, hall.out]; simp [hq])
        have HQ1 := Lib.hid hq
        unfold spanOK at hq
        simp only [Bool.and_eq_true, decide_eq_true_eq] at hq
        obtain ⟨hq1, hq2⟩ := hq
        have hq1' := inR_true.1 hq1
        have hwx : IntKind.i64.wrap (x + p1) = x + p1 := IntWalk.i64_in _ (by omega)
        have hwy : IntKind.i64.wrap (y + p2) = y + p2 := IntWalk.i64_in _ (by omega)
        clear hq1
        as_aux_lemma =>
        go_upto_region 9 with (go_at_call 68; (with_reducible refine (rIsSpan2 (p1, p2) 12 _).mono ?_); rintro e w2 ⟨rfl, hb2⟩; rw [HQ1.out]; have B2 := Lib.hid (hb0to hb.out hb2); have e1 := below_cell hb2 d1'; have e2 := below_cell hb2 d2'; obtain ⟨f0, f1, f2, f3⟩ := (HB.out.of (B2.out.block _ HB.out.lt)).cells; clear hb2)
        go_quiet (fail)
        go_wp2_with (fail)
        go_roundw
        case rel => exact ⟨k + 1, x + p1, y + p2, by omega, by go_num, rfl, rfl, Lib.hid (by rw [HX1.out, ← hX.out]), Lib.hid (by rw [HY1.out, ← hY.out]), by omega, HALL, Lib.hid (below_drewN B2.out _)⟩
        case measure => simp [intOf]; omega
    · obtain rfl : k = s.ps.length := by omega
      obtain rfl : x = sumL s.ps := by have := hX.out; rwa [List.take_length] at this
      obtain rfl : y = sumH s.ps := by have := hY.out; rwa [List.take_length] at this
      have hall2 := hall.out
      rw [List.take_length] at hall2
      have HALL := Lib.hid hall2
      clear hall hall2 hX hY
      as_aux_lemma =>
      go_wp2_with (fail)
      clear c0 c1 c2 c3
      go_loopw [6] (fun i wx => ∃ k : Nat, k ≤ s.bs.length ∧ i = .int .i64 k ∧ Hid ((s.bs.take k).all boatOK = true) ∧ Hid (Below wr.heap.size wr wx)) (fun i _ => s.bs.length - (intOf i).toNat)
      case atStart => exact ⟨0, Nat.zero_le _, rfl, Lib.hid rfl, Lib.hid (Below.refl _ _)⟩
      case round =>
        obtain ⟨k, hk, rfl, hall, hb2⟩ := hrel
        have hbA := hb0to hb.out hb2.out
        obtain ⟨c0, c1, c2, c3⟩ := (HB.out.of (hbA.block _ HB.out.lt)).cells
        by_cases hlt : k < s.bs.length
        · obtain ⟨p, hp⟩ : ∃ p, s.bs[k]? = some p := ⟨_, List.getElem?_eq_getElem hlt⟩
          obtain ⟨bp, op, eP, blt, d1, d2⟩ := HH.out.b.at_ hp
          have d1' := (hb0to HBW.out hbA).cell (p := ⟨bp, op + k * 2, none⟩) blt |>.trans d1
          have d2' := (hb0to HBW.out hbA).cell (p := ⟨bp, op + k * 2 + 1, none⟩) blt |>.trans d2
          have HT := Lib.hid (take_nextP hp)
          have HM := Lib.hid (List.mem_of_getElem? hp)
          have HBA := Lib.hid (hb0to HBW.out hbA)
          simp only at eP
          clear hp d1 d2 hbA
          obtain ⟨p1, p2⟩ := p
          simp only at d1' d2'
          subst eP
          cases hq : boatOK (p1, p2)
          · have HQ := Lib.hid (show ckS s = 50 by
              unfold ckS
              rw [if_neg]
              unfold validS
              have : s.bs.all boatOK = false := by
                rw [List.all_eq_false]
                exact ⟨_, HM.out, by simp [hq]⟩
              simp [this])
            unfold boatOK at hq
            simp only at hq
            cases hq1 : inR p1 0 999
            · have HQ1 := Lib.hid hq1
              clear hq hq1
              as_aux_lemma =>
              go_wp2_with (go_at_call 69; (with_reducible refine (rwithin_any p1 0 999 _).mono ?_); rintro e w' ⟨rfl, rfl⟩; rw [HQ1.out])
              go_ret
              exact ⟨by rw [HQ.out]; rfl, hb0to HBA.out (al_below _ _)⟩
            · have HQ1 := Lib.hid hq1
              rw [hq1, Bool.true_and] at hq
              have HQ2 := Lib.hid hq
              clear hq hq1
              as_aux_lemma =>
              go_wp2_with (first
                | (go_at_call 69; (with_reducible refine (rwithin_any p1 0 999 _).mono ?_); rintro e w' ⟨rfl, rfl⟩; rw [HQ1.out])
                | (go_at_call 69; (with_reducible refine (rwithin_any p2 0 99 _).mono ?_); rintro e w' ⟨rfl, rfl⟩; rw [HQ2.out]))
              go_ret
              exact ⟨by rw [HQ.out]; rfl, hb0to HBA.out (al_below _ _)⟩
          · have HALL2 := Lib.hid (show (s.bs.take (k + 1)).all boatOK = true by rw [HT.out, List.all_append, hall.out]; simp [hq])
            unfold boatOK at hq
            simp only [Bool.and_eq_true] at hq
            have HQ1 := Lib.hid hq.1
            have HQ2 := Lib.hid hq.2
            clear hq
            as_aux_lemma =>
            go_wp2_with (first
              | (go_at_call 69; (with_reducible refine (rwithin_any p1 0 999 _).mono ?_); rintro e w' ⟨rfl, rfl⟩; rw [HQ1.out])
              | (go_at_call 69; (with_reducible refine (rwithin_any p2 0 99 _).mono ?_); rintro e w' ⟨rfl, rfl⟩; rw [HQ2.out]))
            go_roundw
            case rel => exact ⟨k + 1, by omega, by go_num, HALL2, Lib.hid (hb0to hb2.out (al_below _ _))⟩
            case measure => simp [intOf]; omega
        · obtain rfl : k = s.bs.length := by omega
          have hall3 := hall.out
          rw [List.take_length] at hall3
          have hck : ckS s = if inR 12 (sumL s.ps) (sumH s.ps) = true then 0 else 50 := by
            unfold ckS validS
            rw [HBIG.out, HALL.out, hall3]
            simp
          have hway : (12 < sumL s.ps ∧ ckS s = 50) ∨ (sumL s.ps ≤ 12 ∧ decide ((12 : Int) < sumL s.ps) = false ∧ sumH s.ps < 12 ∧ ckS s = 50) ∨ (sumL s.ps ≤ 12 ∧ decide ((12 : Int) < sumL s.ps) = false ∧ decide (sumH s.ps < 12) = false ∧ ckS s = 0) := by
            rw [hck]
            by_cases a : 12 < sumL s.ps
            · exact .inl ⟨a, by rw [if_neg (by rw [inR_true]; omega)]⟩
            · by_cases b : sumH s.ps < 12
              · exact .inr (.inl ⟨by omega, decide_eq_false a, b, by rw [if_neg (by rw [inR_true]; omega)]⟩)
              · exact .inr (.inr ⟨by omega, decide_eq_false a, decide_eq_false b, by rw [if_pos (by rw [inR_true]; omega)]⟩)
          have HBA := Lib.hid (hb0to HBW.out hbA)
          clear hck hall3 hall hbA
          rcases hway with ⟨a, q⟩ | ⟨a, b, cc, q⟩ | ⟨a, b, cc, q⟩
          all_goals
            have HQ := Lib.hid q
            clear q
            as_aux_lemma =>
            go_wp2_with (fail)
            go_ret
            exact ⟨by rw [HQ.out]; rfl, HBA.out⟩
open Go.RowKit

set_option maxRecDepth 100000 in
set_option maxHeartbeats 4000000 in
theorem rcheck_no (L : SL) (s : Sea) (hv : bigS s = false) (w : World) :
    Calls Try.prog 18 #[L.enc s] w fun e w' => e = .returned (.int .i64 (ckS s)) ∧ Below w.heap.size w w' := by
  have HQ := Lib.hid (show ckS s = 50 by unfold ckS validS; simp [hv])
  have hbw := (Below.refl w.heap.size w).alloc (Nat.le_refl _) (.cells #[.int .i64 s.wl, .int .i64 s.wh, .slice L.Ap s.ps.length L.cp, .slice L.Ab s.bs.length L.cb] 44)
  have HB := Lib.hid (SBox.new w L s)
  have hc0 := (SBox.new w L s).cells
  obtain ⟨W0, hW0⟩ : ∃ W0, w.alloc (.cells #[.int .i64 s.wl, .int .i64 s.wh, .slice L.Ap s.ps.length L.cp, .slice L.Ab s.bs.length L.cb] 44) = W0 := ⟨_, rfl⟩
  rw [hW0] at hbw HB hc0
  have HBW := Lib.hid hbw
  have HW0 := Lib.hid hW0
  have hc : spanOK 2000 (s.wl, s.wh) = false ∨ (spanOK 2000 (s.wl, s.wh) = true ∧ decide ((4 : Int) < (s.ps.length : Int)) = true) ∨ (spanOK 2000 (s.wl, s.wh) = true ∧ decide ((4 : Int) < (s.ps.length : Int)) = false ∧ decide ((6 : Int) < (s.bs.length : Int)) = true) := by
    by_cases a : spanOK 2000 (s.wl, s.wh) = true
    · by_cases c : s.ps.length ≤ 4
      · by_cases d : s.bs.length ≤ 6
        · unfold bigS at hv
          simp [a, c, d] at hv
        · exact .inr (.inr ⟨a, decide_eq_false (by omega), decide_eq_true (by omega)⟩)
      · exact .inr (.inl ⟨a, decide_eq_true (by omega)⟩)
    · exact .inl (by simpa using a)
  clear hv hbw hW0
  obtain ⟨Ap, cp, Ab, cb⟩ := L
  rcases hc with a | ⟨a, b⟩ | ⟨a, b, c⟩
  all_goals
    have HA := Lib.hid a
    clear a
    as_aux_lemma =>
    go_enter Try.func18, Try.ntmps18
    go_upto_region 1 with (fail)
    have e := HW0.out
    rw [e]
    clear e
    go_wp2_with (go_at_call 68; (with_reducible refine (rIsSpan2 (s.wl, s.wh) 2000 _).mono ?_); rintro e w1 ⟨rfl, hb1⟩; rw [HA.out]; have B1 := Lib.hid hb1; have c1 := (HB.out.of (hb1.block _ HB.out.lt)).cells; clear hb1)
    go_ret
    exact ⟨by rw [HQ.out]; rfl, hb0to HBW.out B1.out⟩
theorem rcheck_any (L : SL) (s : Sea) (w : World) (hH : SeaAt w w.heap.size L s) : Calls Try.prog 18 #[L.enc s] w fun e w' => e = .returned (.int .i64 (ckS s)) ∧ Below w.heap.size w w' := by
  cases hv : bigS s
  · exact rcheck_no L s hv w
  · exact rcheck_yes L s hv w hH
/-- The error of a sea that is asked for something. -/
def askS (s : Sea) (is : Bool) : Int := if validS s = false then 50 else if is = false then 1 else 0
theorem ckS_eq (s : Sea) : ckS s = if validS s = true then 0 else 50 := rfl
end Go.Proofs.Ytmbcpmnigggbaaa.Li
