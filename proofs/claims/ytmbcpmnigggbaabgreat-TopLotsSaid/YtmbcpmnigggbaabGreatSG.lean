import Derived.WalkKit
import Derived.WalkSpells
import Derived.BigQuiet
import Derived.BigRegion
import Derived.Below
import Derived.Lib.Hide
import Derived.TacticsInMore
import Derived.LoopNIn
import Derived.LoopIn
import Derived.OwnWalk
import Derived.OwnWalkIn
import Derived.Test.YtmbcpmnigggbaabGreatProg
import Derived.Test.YtmbcpmnigggbaabGreatR2
import Derived.Deep.RegionHeld3
import Derived.Deep.RegionWith
import Derived.Deep.MidRow
import Derived.KernelRfl
import Derived.Deep.DeepMust
import Derived.Outline
import Derived.Deep.QuietTactic
import Derived.ArgAppend
namespace Go.Proofs.YtmbcpmnigggbaabGreat
open Go.RowKit

/-! A region that draws its order, whose operations read and whose calls make memory of their own: walked once, in the order of the text. -/
open Classical in
/-- The world x, if it lies over w; else w itself. -/
noncomputable def extB (w x : World) : World := if Below w.heap.size w x then x else w
theorem extB_below (w x : World) : Below w.heap.size w (extB w x) := by
  unfold extB
  split
  · assumption
  · exact Below.refl _ _
theorem extB_of {w W : World} (h : Below w.heap.size w W) : ∃ x, W = extB w x := ⟨W, by unfold extB; rw [if_pos h]⟩
theorem cell_lt {w : World} {a : Addr} {v : Value} (h : w.cell? a = some v) : a.block < w.heap.size := by
  unfold World.cell? at h
  split at h
  · rename_i hh
    exact (Array.getElem?_eq_some_iff.1 hh).1
  · cases h
theorem extB_cell {w : World} {a : Addr} {v : Value} (h : w.cell? a = some v) : ∀ x, (extB w x).cell? a = some v := fun x => ((extB_below w x).cell (cell_lt h)).trans h
theorem below_cell {w W : World} (hb : Below w.heap.size w W) {a : Addr} {v : Value} (h : w.cell? a = some v) : W.cell? a = some v := (hb.cell (cell_lt h)).trans h
theorem wp_region_ext {P : Program} {id : Nat} {Q : Exit → Act → World → Prop} {a : Act} {w : World} {l : List Oper} (hm : P.follows .mixedOrders = true) (hB : Region.lexB .any l.toArray = true)
    (h : wpQuiet P l.toArray (fun w' => ∃ x, w' = extB w x) (fun a' => ∀ w', (∃ x, w' = extB w x) → Q .normal a' w') l a) : (Code.region id l.toArray true).wp P Q a w :=
  wp_region_quiet (C := fun w' => ∃ x, w' = extB w x) hm hB (extB_of (Below.refl _ w).drew) (by simpa using h)
theorem ext_call {P : Program} {f : FuncId} {args : Array Value} {w x : World} {v : Value} (h : Calls P f args (extB w x) fun e w' => e = .returned v ∧ Below (extB w x).heap.size (extB w x) w') :
    Calls P f args (extB w x) fun e w'' => e = .returned v ∧ ∃ y, w'' = extB w y :=
  h.mono fun _ _ ⟨he, hb⟩ => ⟨he, extB_of ((extB_below w x).trans (hb.mono (extB_below w x).size))⟩
theorem ext_same {P : Program} {f : FuncId} {args : Array Value} {w x : World} {v : Value} (h : Calls P f args (extB w x) fun e w' => e = .returned v ∧ extB w x = w') :
    Calls P f args (extB w x) fun e w'' => e = .returned v ∧ ∃ y, w'' = extB w y :=
  h.mono fun _ _ ⟨he, hb⟩ => ⟨he, x, hb.symm⟩

/-- n lies from lo to hi. -/
def inR (n lo hi : Int) : Bool := decide (lo ≤ n) && decide (n ≤ hi)
theorem inR_true {n lo hi : Int} : inR n lo hi = true ↔ lo ≤ n ∧ n ≤ hi := by simp [inR]
theorem inR_false {n lo hi : Int} : inR n lo hi = false ↔ ¬ (lo ≤ n ∧ n ≤ hi) := by rw [← inR_true]; simp

theorem addr_add (b o j : Nat) : (⟨b, o, none⟩ : Addr).add j = ⟨b, o + j, none⟩ := by
  cases j with
  | zero => rfl
  | succ j => simp [Addr.add]

/-- The slice at A holds the numbers l. -/
def IntsAt (W : World) (B : Nat) (A : Option Addr) (l : List Int) : Prop :=
  l = [] ∨ ∃ b off, A = some ⟨b, off, none⟩ ∧ b < B ∧ ∀ i x, l[i]? = some x → W.cell? ⟨b, off + i, none⟩ = some (.int .i64 x)
theorem IntsAt.keep {W W' : World} {B B' : Nat} {A : Option Addr} {l : List Int} (h : IntsAt W B A l) (hB : B ≤ B') (hk : ∀ b o, b < B → W'.cell? ⟨b, o, none⟩ = W.cell? ⟨b, o, none⟩) : IntsAt W' B' A l := by
  rcases h with h | ⟨b, off, hA, hb, hc⟩
  · exact .inl h
  · exact .inr ⟨b, off, hA, by omega, fun i x hx => by rw [hk _ _ hb]; exact hc i x hx⟩
theorem IntsAt.at_ {W : World} {B : Nat} {A : Option Addr} {l : List Int} (h : IntsAt W B A l) {k : Nat} {x : Int} (hx : l[k]? = some x) : ∃ b off, A = some ⟨b, off, none⟩ ∧ b < B ∧ W.cell? ⟨b, off + k, none⟩ = some (.int .i64 x) := by
  rcases h with h | ⟨b, off, hA, hb, hc⟩
  · subst h; simp at hx
  · exact ⟨b, off, hA, hb, hc k x hx⟩
/-- The slice at A holds the pairs l (kinds, parts). -/
def PairsAt (W : World) (B : Nat) (A : Option Addr) (l : List (Int × Int)) : Prop :=
  l = [] ∨ ∃ b off, A = some ⟨b, off, none⟩ ∧ b < B ∧ ∀ i x, l[i]? = some x → W.cell? ⟨b, off + i * 2, none⟩ = some (.int .i64 x.1) ∧ W.cell? ⟨b, off + i * 2 + 1, none⟩ = some (.int .i64 x.2)
theorem PairsAt.keep {W W' : World} {B B' : Nat} {A : Option Addr} {l : List (Int × Int)} (h : PairsAt W B A l) (hB : B ≤ B') (hk : ∀ b o, b < B → W'.cell? ⟨b, o, none⟩ = W.cell? ⟨b, o, none⟩) : PairsAt W' B' A l := by
  rcases h with h | ⟨b, off, hA, hb, hc⟩
  · exact .inl h
  · exact .inr ⟨b, off, hA, by omega, fun i x hx => by rw [hk _ _ hb, hk _ _ hb]; exact hc i x hx⟩
theorem PairsAt.at_ {W : World} {B : Nat} {A : Option Addr} {l : List (Int × Int)} (h : PairsAt W B A l) {k : Nat} {x : Int × Int} (hx : l[k]? = some x) : ∃ b off, A = some ⟨b, off, none⟩ ∧ b < B ∧
    W.cell? ⟨b, off + k * 2, none⟩ = some (.int .i64 x.1) ∧ W.cell? ⟨b, off + k * 2 + 1, none⟩ = some (.int .i64 x.2) := by
  rcases h with h | ⟨b, off, hA, hb, hc⟩
  · subst h; simp at hx
  · exact ⟨b, off, hA, hb, hc k x hx⟩

/-- A house: kinds (Salt, Days), the floor's salt, parts (Kind, Pounds), barrels. -/
structure House where
  ks : List (Int × Int)
  fl : Int
  ps : List (Int × Int)
  bs : List Int

/-- Where the slices of a house lie. -/
structure HL where
  Ak : Option Addr
  ck : Nat
  Ap : Option Addr
  cp : Nat
  Ab : Option Addr
  cb : Nat

abbrev HL.enc (L : HL) (h : House) : Value := .agg #[.slice L.Ak h.ks.length L.ck, .int .i64 h.fl, .slice L.Ap h.ps.length L.cp, .slice L.Ab h.bs.length L.cb]
structure HouseAt (W : World) (B : Nat) (L : HL) (h : House) : Prop where
  k : PairsAt W B L.Ak h.ks
  p : PairsAt W B L.Ap h.ps
  b : IntsAt W B L.Ab h.bs
theorem HouseAt.keep {W W' : World} {B B' : Nat} {L : HL} {h : House} (hh : HouseAt W B L h) (hB : B ≤ B') (hk : ∀ b o, b < B → W'.cell? ⟨b, o, none⟩ = W.cell? ⟨b, o, none⟩) : HouseAt W' B' L h :=
  ⟨hh.k.keep hB hk, hh.p.keep hB hk, hh.b.keep hB hk⟩
theorem HouseAt.below {W W' : World} {L : HL} {h : House} (hh : HouseAt W W.heap.size L h) (hb : Below W.heap.size W W') : HouseAt W' W'.heap.size L h :=
  hh.keep hb.size fun _ _ hlt => hb.cell (p := ⟨_, _, none⟩) hlt

/-- A house that is valid. -/
def kindOK (x : Int × Int) : Bool := inR x.1 0 9 && inR x.2 0 20
def partOK (nk : Nat) (x : Int × Int) : Bool := inR x.1 0 (nk - 1) && inR x.2 0 40
def bigOK (h : House) : Bool := decide (h.ks.length ≤ 3) && (inR h.fl 0 9 && (decide (h.ps.length ≤ 6) && decide (h.bs.length ≤ 4)))
def validH (h : House) : Bool := bigOK h && (h.ks.all kindOK && (h.ps.all (partOK h.ks.length) && h.bs.all fun b => inR b 0 99))
def ckH (h : House) : Int := if validH h then 0 else 80

/-- What is in a barrel: how many parts, pounds, the greatest Salt, the greatest Days. -/
structure Cask where
  n : Int
  p : Int
  s : Int
  d : Int
abbrev Cask.enc (c : Cask) : Value := .agg #[.int .i64 c.n, .int .i64 c.p, .int .i64 c.s, .int .i64 c.d]
def c0 : Cask := ⟨0, 0, 0, 0⟩
def layC (c : Cask) (k p : Int × Int) : Cask := ⟨c.n + 1, c.p + p.2, max c.s k.1, max c.d k.2⟩
def saltC (fl : Int) (c : Cask) : Int := if c.n = 0 then 0 else fl + (c.p * c.s + 9) / 10
/-- Bounds that no arithmetic on a cask leaves. -/
structure Cask.ok (c : Cask) : Prop where
  n0 : 0 ≤ c.n
  n1 : c.n ≤ 100
  p0 : 0 ≤ c.p
  p1 : c.p ≤ 10000
  s0 : 0 ≤ c.s
  s1 : c.s ≤ 9
  d0 : 0 ≤ c.d
  d1 : c.d ≤ 20
open Go.RowKit

theorem between_any (n lo hi : Int) (w : World) : Calls Tryz.prog 102 #[.int .i64 n, .int .i64 lo, .int .i64 hi] w fun e w' => e = .returned (.bool (inR n lo hi)) ∧ w = w' := by
  by_cases h : lo ≤ n <;> by_cases h2 : n ≤ hi
  all_goals
    have e : inR n lo hi = (decide (lo ≤ n) && decide (n ≤ hi)) := rfl
    have E := Lib.hid e
    clear e
    go_enter Tryz.func102, Tryz.ntmps102
    go_wp2
    go_ret
    exact ⟨by rw [E.out]; simp <;> omega, rfl⟩

theorem saltC_any (c : Cask) (fl : Int) (hc : c.ok) (hf : 0 ≤ fl ∧ fl ≤ 9) (w : World) : Calls Tryz.prog 99 #[c.enc, .int .i64 fl] w fun e w' => e = .returned (.int .i64 (saltC fl c)) ∧ Below w.heap.size w w' := by
  obtain ⟨n, p, s, d⟩ := c
  obtain ⟨hn0, hn1, hp0, hp1, hs0, hs1, hd0, hd1⟩ := hc
  simp only at hn0 hn1 hp0 hp1 hs0 hs1 hd0 hd1
  have hps : 0 ≤ p * s := Int.mul_nonneg hp0 hs0
  have hps2 : p * s ≤ 10000 * 9 := Int.mul_le_mul hp1 hs1 hs0 (by omega)
  by_cases h0 : n = 0
  · have hd : (n == 0) = true := by simpa using h0
    have H0 := Lib.hid h0
    clear h0
    go_enter Tryz.func99, Tryz.ntmps99
    go_wp2
    go_ret
    exact ⟨by simp [saltC, H0.out], (Below.refl _ _).alloc (Nat.le_refl _) _⟩
  · have hd : (n == 0) = false := by simpa using h0
    have H0 := Lib.hid h0
    clear h0
    go_enter Tryz.func99, Tryz.ntmps99
    go_wp2
    go_ret
    exact ⟨by simp [saltC, H0.out], (Below.refl _ _).alloc (Nat.le_refl _) _⟩
open Go.RowKit

/-- The cask at the cells from o on of block b. -/
structure CaskAt (W : World) (b o : Nat) (c : Cask) : Prop where
  n : W.cell? ⟨b, o, none⟩ = some (.int .i64 c.n)
  p : W.cell? ⟨b, o + 1, none⟩ = some (.int .i64 c.p)
  s : W.cell? ⟨b, o + 2, none⟩ = some (.int .i64 c.s)
  d : W.cell? ⟨b, o + 3, none⟩ = some (.int .i64 c.d)

theorem heap_set {W : World} {b o : Nat} {arr : Array Value} {t : TypeId} (v : Value) (h : W.heap[b]? = some (.cells arr t (0, 0))) : (W.setCell ⟨b, o, none⟩ v).heap[b]? = some (.cells (arr.setIfInBounds o v) t (0, 0)) := by
  obtain ⟨hlt, e⟩ := Array.getElem?_eq_some_iff.1 h
  have : (W.setCell ⟨b, o, none⟩ v).heap[b]? = some ((W.setCell ⟨b, o, none⟩ v).heap[b]'(by simp [World.setCell]; exact hlt)) := Array.getElem?_eq_getElem _
  rw [this]
  simp only [World.setCell]
  rw [Array.getElem_modify_self, e]
  rfl

theorem lay_end (w W1 W2 : World) (arr : Array Value) (t : TypeId) (b o : Nat) (c : Cask) (k p : Int × Int) (o1 o2 o3 : Obj) (s' d' : Int)
    (hb : w.heap[b]? = some (.cells arr t (0, 0))) (h1 : W1 = (((w.setCell ⟨b, o, none⟩ (.int .i64 (c.n + 1))).alloc o1).alloc o2).alloc o3) (h2 : W2 = (W1.setCell ⟨b, o + 1, none⟩ (.int .i64 (c.p + p.2))).drew)
    (hs : s' = (layC c k p).s) (hd : d' = (layC c k p).d) :
    KpB (fun k => k = b) w.heap.size w ((W2.setCell ⟨b, o + 2, none⟩ (.int .i64 s')).setCell ⟨b, o + 3, none⟩ (.int .i64 d')).drew ∧
      ((W2.setCell ⟨b, o + 2, none⟩ (.int .i64 s')).setCell ⟨b, o + 3, none⟩ (.int .i64 d')).drew.heap[b]? = some (.cells ((((arr.setIfInBounds o (.int .i64 (layC c k p).n)).setIfInBounds (o + 1) (.int .i64 (layC c k p).p)).setIfInBounds (o + 2) (.int .i64 (layC c k p).s)).setIfInBounds (o + 3) (.int .i64 (layC c k p).d)) t (0, 0)) := by
  subst hs hd
  have hbl : b < w.heap.size := (Array.getElem?_eq_some_iff.1 hb).1
  have k0 : KpB (fun k => k = b) w.heap.size w (w.setCell ⟨b, o, none⟩ (.int .i64 (c.n + 1))) := (KpB.refl _ _ _).set _ _ (.inl rfl)
  have g0 := heap_set (o := o) (.int .i64 (c.n + 1)) hb
  have b1 : Below w.heap.size (w.setCell ⟨b, o, none⟩ (.int .i64 (c.n + 1))) W1 := by
    rw [h1]; exact (((Below.refl _ _).alloc (by simp [World.setCell]) _).alloc (by simp [World.setCell] <;> omega) _).alloc (by simp [World.setCell] <;> omega) _
  have k1 : KpB (fun k => k = b) w.heap.size w W1 := k0.trans (kpB_of_below b1)
  have g1 : W1.heap[b]? = _ := (b1.block b hbl).trans g0
  have g2 := heap_set (o := o + 1) (.int .i64 (c.p + p.2)) g1
  have k2 : KpB (fun k => k = b) w.heap.size w (W1.setCell ⟨b, o + 1, none⟩ (.int .i64 (c.p + p.2))) := k1.set _ _ (.inl rfl)
  have k3 : KpB (fun k => k = b) w.heap.size w W2 := by rw [h2]; exact ⟨k2.os, k2.tape, k2.output, k2.size, k2.block⟩
  have e3 : W2.heap = (W1.setCell ⟨b, o + 1, none⟩ (.int .i64 (c.p + p.2))).heap := by rw [h2]; rfl
  have g3 := g2
  rw [← e3] at g3
  have k4 := (k3.set (o + 2) (.int .i64 (layC c k p).s) (.inl rfl)).set (o + 3) (.int .i64 (layC c k p).d) (.inl rfl)
  exact ⟨⟨k4.os, k4.tape, k4.output, k4.size, k4.block⟩, heap_set _ (heap_set _ g3)⟩

set_option maxRecDepth 100000 in
set_option maxHeartbeats 4000000 in
theorem lay_any (L : HL) (hs : House) (i kk : Nat) (k p : Int × Int) (c : Cask) (hc : c.ok) (b o : Nat) (w : World) (arr : Array Value) (t : TypeId)
    (hH : HouseAt w w.heap.size L hs) (hp : hs.ps[i]? = some p) (hkk : p.1 = (kk : Int)) (hk : hs.ks[kk]? = some k) (hpb : 0 ≤ p.2 ∧ p.2 ≤ 40) (hkb : 0 ≤ k.1 ∧ k.1 ≤ 9 ∧ 0 ≤ k.2 ∧ k.2 ≤ 20) (_hi : hs.ps.length ≤ 40 ∧ hs.ks.length ≤ 40)
    (hb : w.heap[b]? = some (.cells arr t (0, 0))) (hC : CaskAt w b o c) :
    Calls Tryz.prog 106 #[.pointer (some ⟨b, o, none⟩), L.enc hs, .int .i64 i] w fun e w' => (∃ v, e = .returned v) ∧
      KpB (fun k => k = b) w.heap.size w w' ∧ w'.heap[b]? = some (.cells ((((arr.setIfInBounds o (.int .i64 (layC c k p).n)).setIfInBounds (o + 1) (.int .i64 (layC c k p).p)).setIfInBounds (o + 2) (.int .i64 (layC c k p).s)).setIfInBounds (o + 3) (.int .i64 (layC c k p).d)) t (0, 0)) := by
  obtain ⟨Ak, ck, Ap, cp, Ab, cb⟩ := L
  obtain ⟨n0, n1, p0, p1, s0, s1, d0, d1⟩ := hc
  obtain ⟨cn, cp', cs, cd⟩ := hC
  obtain ⟨bp, op, e1, hbp, q1, q2⟩ := hH.p.at_ hp
  obtain ⟨bk, ok, e2, hbk, r1, r2⟩ := hH.k.at_ hk
  simp only at e1 e2
  subst e1 e2
  obtain ⟨pk, pp⟩ := p
  obtain ⟨kS, kD⟩ := k
  simp only at hkk hpb hkb q1 q2 r1 r2
  subst hkk
  have hi1 : i < hs.ps.length := (List.getElem?_eq_some_iff.1 hp).1
  have hi2 : kk < hs.ks.length := (List.getElem?_eq_some_iff.1 hk).1
  have fr : ∀ o, w.frozen? ⟨b, o, none⟩ = false := fun o => by simp [World.frozen?, hb]
  have hbl : b < w.heap.size := (Array.getElem?_eq_some_iff.1 hb).1
  have hb1 : b < w.heap.size + 1 := by omega
  have hb2 : b < w.heap.size + 1 + 1 := by omega
  have hn0 : ¬ b = w.heap.size := by omega
  have hn1 : ¬ b = w.heap.size + 1 := by omega
  have hn2 : ¬ b = w.heap.size + 1 + 1 := by omega
  clear hH hp hk
  have HB := Lib.hid hb
  clear hb
  go_enter Tryz.func106, Tryz.ntmps106
  go_wp2
  obtain ⟨W1, hW1⟩ : ∃ W1, W1 = ((((w.setCell ⟨b, o, none⟩ (.int .i64 (c.n + 1))).alloc (.cells #[.slice (some ⟨bk, ok, none⟩) hs.ks.length ck, .int .i64 hs.fl, .slice (some ⟨bp, op, none⟩) hs.ps.length cp, .slice Ab hs.bs.length cb] 38)).alloc (.cells #[.int .i64 kk, .int .i64 pp] 68)).alloc (.cells #[.int .i64 kS, .int .i64 kD] 66)) := ⟨_, rfl⟩
  have f1 : W1.cell? ⟨b, o + 1, none⟩ = some (.int .i64 c.p) := by rw [hW1]; clear hW1; simp [go_sem, *]
  have f2 : W1.cell? ⟨b, o + 2, none⟩ = some (.int .i64 c.s) := by rw [hW1]; clear hW1; simp [go_sem, *]
  have f3 : W1.cell? ⟨b, o + 3, none⟩ = some (.int .i64 c.d) := by rw [hW1]; clear hW1; simp [go_sem, *]
  have g1 : W1.cell? ⟨w.heap.size + 1, 1, none⟩ = some (.int .i64 pp) := by rw [hW1]; clear hW1; simp [go_sem, *]
  have g2 : W1.cell? ⟨w.heap.size + 1 + 1, 0, none⟩ = some (.int .i64 kS) := by rw [hW1]; clear hW1; simp [go_sem, *]
  have g3 : W1.cell? ⟨w.heap.size + 1 + 1, 1, none⟩ = some (.int .i64 kD) := by rw [hW1]; clear hW1; simp [go_sem, *]
  have fr1 : ∀ o, W1.frozen? ⟨b, o, none⟩ = false := fun o => by rw [hW1]; clear hW1; simp [go_sem, *]
  have HW := Lib.hid hW1
  rw [← hW1]
  clear hW1
  go_region
  go_wp2
  obtain ⟨W2, hW2⟩ : ∃ W2, W2 = (W1.setCell ⟨b, o + 1, none⟩ (.int .i64 (c.p + pp))).drew := ⟨_, rfl⟩
  have h2 : W2.cell? ⟨b, o + 2, none⟩ = some (.int .i64 c.s) := by rw [hW2]; clear hW2; simp [go_sem, *]
  have h3 : W2.cell? ⟨b, o + 3, none⟩ = some (.int .i64 c.d) := by rw [hW2]; clear hW2; simp [go_sem, *]
  have k2 : W2.cell? ⟨w.heap.size + 1 + 1, 0, none⟩ = some (.int .i64 kS) := by rw [hW2]; clear hW2; simp [go_sem, *]
  have k3 : W2.cell? ⟨w.heap.size + 1 + 1, 1, none⟩ = some (.int .i64 kD) := by rw [hW2]; clear hW2; simp [go_sem, *]
  have fr2 : ∀ o, W2.frozen? ⟨b, o, none⟩ = false := fun o => by rw [hW2]; clear hW2; simp [go_sem, *]
  have HV := Lib.hid hW2
  rw [← hW2]
  clear hW2
  go_region
  all_goals go_wp2
  all_goals
    go_end0
    exact ⟨⟨_, rfl⟩, lay_end w W1 W2 arr t b o c (kS, kD) (kk, pp) _ _ _ _ _ HB.out HW.out HV.out (by simp [layC] <;> omega) (by simp [layC] <;> omega)⟩
open Go.RowKit

/-- A house whose numbers are in their bounds. -/
structure HOK (h : House) : Prop where
  kl : h.ks.length ≤ 3
  f0 : 0 ≤ h.fl
  f1 : h.fl ≤ 9
  pl : h.ps.length ≤ 6
  bl : h.bs.length ≤ 4
  k : ∀ (i : Nat) (x : Int × Int), h.ks[i]? = some x → 0 ≤ x.1 ∧ x.1 ≤ 9 ∧ 0 ≤ x.2 ∧ x.2 ≤ 20
  p : ∀ (i : Nat) (x : Int × Int), h.ps[i]? = some x → 0 ≤ x.1 ∧ x.1 < h.ks.length ∧ 0 ≤ x.2 ∧ x.2 ≤ 40
  b : ∀ (i : Nat) (x : Int), h.bs[i]? = some x → 0 ≤ x ∧ x ≤ 99

def flatC : List Cask → List Value
  | [] => []
  | c :: l => .int .i64 c.n :: .int .i64 c.p :: .int .i64 c.s :: .int .i64 c.d :: flatC l
theorem flatC_len : ∀ l, (flatC l).length = l.length * 4
  | [] => rfl
  | c :: l => by simp only [flatC, List.length_cons, flatC_len l]; omega
theorem flatC_at : ∀ (l : List Cask) (j : Nat) (c : Cask), l[j]? = some c → (flatC l)[j * 4]? = some (.int .i64 c.n) ∧ (flatC l)[j * 4 + 1]? = some (.int .i64 c.p) ∧ (flatC l)[j * 4 + 2]? = some (.int .i64 c.s) ∧ (flatC l)[j * 4 + 3]? = some (.int .i64 c.d)
  | [], j, c, h => by simp at h
  | x :: l, 0, c, h => by simp at h; subst h; exact ⟨rfl, rfl, rfl, rfl⟩
  | x :: l, j + 1, c, h => by
    have := flatC_at l j c (by simpa using h)
    have e : (j + 1) * 4 = j * 4 + 1 + 1 + 1 + 1 := by omega
    rw [e]
    simp only [flatC, List.getElem?_cons_succ]
    exact this
theorem flatC_set : ∀ (l : List Cask) (j : Nat) (c : Cask), ((((flatC l).set (j * 4) (.int .i64 c.n)).set (j * 4 + 1) (.int .i64 c.p)).set (j * 4 + 2) (.int .i64 c.s)).set (j * 4 + 3) (.int .i64 c.d) = flatC (l.set j c)
  | [], j, c => by simp [flatC]
  | x :: l, 0, c => rfl
  | x :: l, j + 1, c => by
    have := flatC_set l j c
    have e : (j + 1) * 4 = j * 4 + 1 + 1 + 1 + 1 := by omega
    rw [e]
    simp only [flatC, List.set_cons_succ]
    rw [this]

/-- All casks of a house, in the block cb. -/
def CasksAt (W : World) (cb : Nat) (l : List Cask) : Prop := W.heap[cb]? = some (.cells (flatC l).toArray 135 (0, 0))
theorem CasksAt.at_ {W : World} {cb : Nat} {l : List Cask} (h : CasksAt W cb l) {j : Nat} {c : Cask} (hj : l[j]? = some c) : CaskAt W cb (j * 4) c := by
  obtain ⟨h1, h2, h3, h4⟩ := flatC_at l j c hj
  have h : W.heap[cb]? = some (.cells (flatC l).toArray 135 (0, 0)) := h
  exact ⟨by simp [World.cell?, h, h1], by simp [World.cell?, h, h2], by simp [World.cell?, h, h3], by simp [World.cell?, h, h4]⟩

def barrelOf (pack : List Int) (k : Nat) : Int := pack.getD k (-1)
def partOf (h : House) (k : Nat) : Int × Int := h.ps.getD k (0, 0)
def kindOf (h : House) (p : Int × Int) : Int × Int := h.ks.getD p.1.toNat (0, 0)
/-- The casks behind the first k parts. -/
def casksTo (h : House) (pack : List Int) : Nat → List Cask
  | 0 => [c0, c0, c0, c0, c0]
  | k + 1 => if barrelOf pack k = -1 then casksTo h pack k else
    (casksTo h pack k).set (barrelOf pack k).toNat (layC ((casksTo h pack k).getD (barrelOf pack k).toNat c0) (kindOf h (partOf h k)) (partOf h k))
theorem casksTo_len (h : House) (pack : List Int) : ∀ k, (casksTo h pack k).length = 5
  | 0 => rfl
  | k + 1 => by
    unfold casksTo
    split
    · exact casksTo_len h pack k
    · rw [List.length_set]; exact casksTo_len h pack k

theorem HOK.part {h : House} (hv : HOK h) {k : Nat} (hk : k < h.ps.length) : ∃ kk : Nat, h.ps[k]? = some (partOf h k) ∧ (partOf h k).1 = (kk : Int) ∧ h.ks[kk]? = some (kindOf h (partOf h k)) ∧ (0 ≤ (partOf h k).2 ∧ (partOf h k).2 ≤ 40) ∧
    0 ≤ (kindOf h (partOf h k)).1 ∧ (kindOf h (partOf h k)).1 ≤ 9 ∧ 0 ≤ (kindOf h (partOf h k)).2 ∧ (kindOf h (partOf h k)).2 ≤ 20 := by
  have e : h.ps[k]? = some (partOf h k) := by simp [partOf, List.getD, List.getElem?_eq_getElem hk]
  obtain ⟨p0, p1, p2, p3⟩ := hv.p k _ e
  obtain ⟨kk, hkk⟩ := Int.eq_ofNat_of_zero_le p0
  have hkk : (partOf h k).1 = (kk : Int) := hkk
  have hlt : kk < h.ks.length := by omega
  have e2 : h.ks[kk]? = some (kindOf h (partOf h k)) := by
    simp [kindOf, hkk, List.getD, List.getElem?_eq_getElem hlt]
  exact ⟨kk, e, hkk, e2, ⟨p2, p3⟩, hv.k kk _ e2⟩

/-- Bounds of a cask with at most k parts. -/
structure Cask.upto (c : Cask) (k : Nat) : Prop where
  n0 : 0 ≤ c.n
  n1 : c.n ≤ k
  p0 : 0 ≤ c.p
  p1 : c.p ≤ 40 * k
  s0 : 0 ≤ c.s
  s1 : c.s ≤ 9
  d0 : 0 ≤ c.d
  d1 : c.d ≤ 20
theorem Cask.upto.ok {c : Cask} {k : Nat} (h : c.upto k) (hk : k ≤ 100) : c.ok := ⟨h.n0, by have := h.n1; omega, h.p0, by have := h.p1; omega, h.s0, h.s1, h.d0, h.d1⟩
theorem casksTo_upto {h : House} (hv : HOK h) (pack : List Int) : ∀ k, k ≤ h.ps.length → ∀ (j : Nat) (c : Cask), (casksTo h pack k)[j]? = some c → c.upto k
  | 0, _, j, c, hc => by
    have : c = c0 := by
      simp only [casksTo] at hc
      have := List.mem_of_getElem? hc
      simpa using this
    subst this
    exact ⟨by decide, by decide, by decide, by decide, by decide, by decide, by decide, by decide⟩
  | k + 1, hk, j, c, hc => by
    have ih := casksTo_upto hv pack k (by omega)
    have up : ∀ {c : Cask}, c.upto k → c.upto (k + 1) := fun h => ⟨h.n0, by have := h.n1; omega, h.p0, by have := h.p1; omega, h.s0, h.s1, h.d0, h.d1⟩
    unfold casksTo at hc
    split at hc
    · exact up (ih j c hc)
    · rw [List.getElem?_set] at hc
      split at hc
      · split at hc
        · obtain rfl := Option.some.inj hc
          rename_i hlt
          have hb := ih (barrelOf pack k).toNat ((casksTo h pack k).getD (barrelOf pack k).toNat c0) (by simp [List.getD, List.getElem?_eq_getElem hlt])
          obtain ⟨kk, -, -, -, ⟨p2, p3⟩, k0, k1, k2, k3⟩ := hv.part (k := k) (by omega)
          obtain ⟨n0, n1, p0, p1, s0, s1, d0, d1⟩ := hb
          exact ⟨by simp only [layC]; omega, by simp only [layC]; omega, by simp only [layC]; omega, by simp only [layC]; omega, by simp only [layC]; omega, by simp only [layC]; omega, by simp only [layC]; omega, by simp only [layC]; omega⟩
        · cases hc
      · exact up (ih j c hc)
/-- All casks of a packing. -/
def packedC (h : House) (pack : List Int) : List Cask := casksTo h pack h.ps.length
def encCs (l : List Cask) : Value := .agg (flatC l).toArray
open Go.RowKit

/-- The box of a house. -/
def HBox (W : World) (b : Nat) (L : HL) (h : House) : Prop := W.heap[b]? = some (.cells #[.slice L.Ak h.ks.length L.ck, .int .i64 h.fl, .slice L.Ap h.ps.length L.cp, .slice L.Ab h.bs.length L.cb] 38 (0, 0))
theorem HBox.cells {W : World} {b : Nat} {L : HL} {h : House} (hb : HBox W b L h) : W.cell? ⟨b, 0, none⟩ = some (.slice L.Ak h.ks.length L.ck) ∧ W.cell? ⟨b, 1, none⟩ = some (.int .i64 h.fl) ∧ W.cell? ⟨b, 2, none⟩ = some (.slice L.Ap h.ps.length L.cp) ∧ W.cell? ⟨b, 3, none⟩ = some (.slice L.Ab h.bs.length L.cb) := by
  simp [World.cell?, show W.heap[b]? = _ from hb]
theorem HBox.new (W : World) (L : HL) (h : House) : HBox (W.alloc (.cells #[.slice L.Ak h.ks.length L.ck, .int .i64 h.fl, .slice L.Ap h.ps.length L.cp, .slice L.Ab h.bs.length L.cb] 38)) W.heap.size L h := World.alloc_heap_new W _
theorem HBox.lt {W : World} {b : Nat} {L : HL} {h : House} (hb : HBox W b L h) : b < W.heap.size := (Array.getElem?_eq_some_iff.1 hb).1
theorem HBox.of {W W' : World} {b : Nat} {L : HL} {h : House} (hb : HBox W b L h) (e : W'.heap[b]? = W.heap[b]?) : HBox W' b L h := e.trans hb

theorem HouseAt.drew {W : World} {B : Nat} {L : HL} {h : House} (hh : HouseAt W B L h) : HouseAt W.drew B L h := ⟨hh.k, hh.p, hh.b⟩
theorem CaskAt.drew {W : World} {b o : Nat} {c : Cask} (h : CaskAt W b o c) : CaskAt W.drew b o c := ⟨h.n, h.p, h.s, h.d⟩
theorem setIf_same {c : Array Value} {o : Nat} {v : Value} (h : c[o]? = some v) : c.setIfInBounds o v = c := by
  obtain ⟨hlt, e⟩ := Array.getElem?_eq_some_iff.1 h
  apply Array.ext
  · simp
  · intro i h1 h2
    rw [Array.getElem_setIfInBounds]
    split
    · rename_i ei; subst ei; exact e.symm
    · rfl
theorem set_same {W : World} {b o : Nat} {v : Value} (h : W.cell? ⟨b, o, none⟩ = some v) : W.setCell ⟨b, o, none⟩ v = W := by
  unfold World.cell? at h
  cases hb : W.heap[b]? with
  | none => simp [hb] at h
  | some ob =>
    obtain ⟨hlt, e⟩ := Array.getElem?_eq_some_iff.1 hb
    have hh : (W.setCell ⟨b, o, none⟩ v).heap = W.heap := by
      apply Array.ext
      · simp [World.setCell]
      · intro i h1 h2
        simp only [World.setCell]
        by_cases ei : i = b
        · subst ei
          rw [Array.getElem_modify_self, e]
          cases ob <;> simp_all [setIf_same]
        · rw [Array.getElem_modify_of_ne (Ne.symm ei)]
    show ({ W with heap := (W.setCell ⟨b, o, none⟩ v).heap } : World) = W
    rw [hh]

theorem casks_set {W : World} {cb : Nat} {l : List Cask} {j : Nat} {c : Cask} (h : W.heap[cb]? = some (.cells (((((flatC l).toArray.setIfInBounds (j * 4) (.int .i64 c.n)).setIfInBounds (j * 4 + 1) (.int .i64 c.p)).setIfInBounds (j * 4 + 2) (.int .i64 c.s)).setIfInBounds (j * 4 + 3) (.int .i64 c.d)) 135 (0, 0))) : CasksAt W cb (l.set j c) := by
  unfold CasksAt
  rw [← flatC_set, h]
  simp
theorem KpB.ofDrew {S : Nat → Prop} {n : Nat} {W W' : World} (h : KpB S n W.drew W') : KpB S n W W' := ⟨h.os, h.tape, h.output, h.size, h.block⟩

theorem list5 {α : Type} {l : List α} (h : l.length = 5) : ∃ a b c d e, l = [a, b, c, d, e] := by
  match l, h with
  | [a, b, c, d, e], _ => exact ⟨a, b, c, d, e, rfl⟩

theorem results_cell {P : Program} {fn : Func} {t : Tmp} {ty : TypeId} (h : fn.results = #[.cell t ty]) {tmps : Array Value} {w : World} {v : Value} {p : Addr} (ht : tmps.getD t undef = .pointer (some p))
    (hl : (Instr.loadAt ty (.pointer (some p))).run P w = .ok v w) : (results fn tmps).run P w = .ok v w := by
  have e : (results fn tmps).run P w = (Instr.loadAt ty (tmps.getD t undef)).run P w := by
    have ht' : tmps[t]?.getD undef = .pointer (some p) := by simpa using ht
    rw [ht]
    simp [results, h, ht', Instr.loadAt, Instr.sureAddr, asAddr]
  rw [e, ht]; exact hl
theorem casks_range {W : World} {cb : Nat} {l : List Cask} (hC : CasksAt W cb l) : W.rangeAt cb 0 (flatC l) := fun j v hj => by
  simp [World.cell?, show W.heap[cb]? = _ from hC, hj]
theorem load81 {W : World} {cb : Nat} {l : List Cask} (hl : l.length = 5) (hC : CasksAt W cb l) : (Instr.loadAt 135 (.pointer (some ⟨cb, 0, none⟩))).run Tryz.prog W = .ok (encCs l) W :=
  run_loadAt_mid W cb 0 135 (flatC l) _ (casks_range hC) Tryz.underlying135 rfl (by rw [flatC_len, hl]; kernel_rfl)
theorem setCells_same (W : World) (b : Nat) : ∀ (l : List Value) (o : Nat), W.rangeAt b o l → W.setCells b o l = W
  | [], o, _ => rfl
  | v :: l, o, h => by
    have h0 := h 0 v rfl
    simp only [Nat.add_zero] at h0
    rw [World.setCells, set_same h0]
    exact setCells_same W b l (o + 1) (fun j u hj => by have := h (j + 1) u (by simpa using hj); rwa [show o + (j + 1) = o + 1 + j by omega] at this)
theorem flatC_one : ∀ l, (flatC l).all (·.oneCell') = true
  | [] => rfl
  | c :: l => by simp only [flatC, List.all_cons, flatC_one l]; rfl
theorem casks_there {W : World} {cb : Nat} {l : List Cask} (hC : CasksAt W cb l) : W.there cb 0 (flatC l).toArray.size := fun j hj => by
  have hj' : j < (flatC l).length := by simpa using hj
  exact ⟨by simp [World.cell?, show W.heap[cb]? = _ from hC, hj'], by simp [World.frozen?, show W.heap[cb]? = _ from hC]⟩
theorem info81 {l : List Cask} (hl : l.length = 5) : (Tryz.prog.info? 135).map (·.size) = some (flatC l).length := by rw [flatC_len, hl]; kernel_rfl
theorem info81' {l : List Cask} (hl : l.length = 5) : (Tryz.prog.info? 135).map (·.size) = some (flatC l).toArray.size := by rw [List.size_toArray, flatC_len, hl]; kernel_rfl
theorem flatC_one' (l : List Cask) : (flatC l).toArray.all (·.oneCell') = true := by have := flatC_one l; simpa using this
/-- The load of a whole array of casks, and the store of what is there already, as the walk meets them. -/
theorem wpl_load81 {ops : Array Oper} {rest : List Oper} {o : Oper} {a : Act} {w : World} {Q : Exit → Act → World → Prop} (hgd : o.guard = none) (x : Operand) (ho : o.op = .load 135 x) (cb : Nat)
    (hx : a.eval x = .pointer (some ⟨cb, 0, none⟩)) (l : List Cask) (hl : l.length = 5) (hC : CasksAt w cb l) (h : wpList Tryz.prog ops Q rest (a.put o.dst (encCs l)) w) : wpList Tryz.prog ops Q (o :: rest) a w :=
  wpList_load_mid hgd 135 x ho cb 0 hx (flatC l) _ (casks_range hC) Tryz.underlying135 rfl (info81 hl) h
theorem wpl_store81 {ops : Array Oper} {rest : List Oper} {o : Oper} {a : Act} {w : World} {Q : Exit → Act → World → Prop} (hgd : o.guard = none) (x y : Operand) (ho : o.op = .store 135 x y) (cb : Nat)
    (hx : a.eval x = .pointer (some ⟨cb, 0, none⟩)) (l : List Cask) (hy : a.eval y = encCs l) (hl : l.length = 5) (hC : CasksAt w cb l) (h : wpList Tryz.prog ops Q rest (a.put o.dst undef) w) : wpList Tryz.prog ops Q (o :: rest) a w := by
  refine wpList_store_mid hgd 135 x y ho cb 0 (flatC l).toArray hx hy (casks_there hC) (info81' hl) (flatC_one' l) ?_
  rw [List.toList_toArray, setCells_same w cb _ 0 (casks_range hC)]
  exact h
set_option maxRecDepth 100000 in
set_option maxHeartbeats 4000000 in
theorem packed_any (L : HL) (h : House) (hv : HOK h) (pack : List Int) (hl : pack.length = h.ps.length) (hr : ∀ (k : Nat) (b : Int), pack[k]? = some b → -1 ≤ b ∧ b ≤ 4) (A : Option Addr) (c : Nat) (w : World)
    (hH : HouseAt w w.heap.size L h) (hP : IntsAt w w.heap.size A pack) :
    Calls Tryz.prog 98 #[L.enc h, .slice A pack.length c] w fun e w' => e = .returned (encCs (packedC h pack)) ∧ Below w.heap.size w w' := by
  have hpl := hv.pl
  have hkl := hv.kl
  have HH := Lib.hid hH
  have HP := Lib.hid hP
  have HR := Lib.hid hr
  have HV := Lib.hid hv
  have HL' := Lib.hid hl
  have hp6 : pack.length ≤ 6 := by omega
  clear hH hP hr hv hl
  go_enter Tryz.func98, Tryz.ntmps98
  go_wp2
  go_loopw [9] (fun i wr => ∃ k : Nat, k ≤ pack.length ∧ i = .int .i64 k ∧ Below w.heap.size w wr ∧ HBox wr w.heap.size L h ∧ CasksAt wr (w.heap.size + 1) (casksTo h pack k)) (fun i _ => pack.length - (intOf i).toNat)
  case atStart =>
    refine ⟨0, Nat.zero_le _, rfl, ((Below.refl _ _).alloc (Nat.le_refl _) _).alloc (by simp) _, (HBox.new w L h).of (Below.heap_alloc _ _ _ (by simp)), ?_⟩
    have := World.alloc_heap_new (w.alloc (.cells #[.slice L.Ak h.ks.length L.ck, .int .i64 h.fl, .slice L.Ap h.ps.length L.cp, .slice L.Ab h.bs.length L.cb] 38)) (.cells (flatC [c0, c0, c0, c0, c0]).toArray 135)
    rw [World.size_alloc] at this
    exact this
  case round =>
    obtain ⟨k, hk, rfl, hb, hB, hC⟩ := hrel
    by_cases hlt : k < pack.length
    · as_aux_lemma =>
      obtain ⟨x, hx⟩ : ∃ x, pack[k]? = some x := ⟨_, List.getElem?_eq_getElem hlt⟩
      obtain ⟨b1, o1, rfl, b1lt, d1⟩ := IntsAt.at_ (HP.out.keep hb.size fun _ _ hlt => hb.cell (p := ⟨_, _, none⟩) hlt) hx
      obtain ⟨hx0, hx4⟩ := HR.out k x hx
      obtain ⟨e0, e1, e2, e3⟩ := hB.cells
      have hbx : barrelOf pack k = x := by simp [barrelOf, List.getD, hx]
      by_cases hm : x = -1
      · have hd : (x != -1) = false := by simp [hm]
        go_wp2
        go_roundw
        case rel => exact ⟨k + 1, by omega, by go_num, hb, hB, by rw [casksTo, if_pos (hbx.trans hm)]; exact hC⟩
        case measure => simp [intOf]; omega
      · obtain ⟨xn, rfl⟩ : ∃ xn : Nat, x = (xn : Int) := ⟨x.toNat, by omega⟩
        have hd : decide ((xn : Int) ≠ -1) = true := by simp <;> omega
        obtain ⟨kk, p1, p2, p3, p4, p5⟩ := HV.out.part (k := k) (by rw [← HL'.out]; exact hlt)
        have hxl : xn < (casksTo h pack k).length := by rw [casksTo_len]; omega
        obtain ⟨cc, hcc⟩ : ∃ cc, (casksTo h pack k)[xn]? = some cc := ⟨_, List.getElem?_eq_getElem hxl⟩
        have hcok := (casksTo_upto HV.out pack k (by rw [← HL'.out]; exact hk) xn cc hcc).ok (by omega)
        have hCC := hC.at_ hcc
        have hHr := HH.out.below hb
        have P1 := Lib.hid p1
        have P2 := Lib.hid p2
        have P3 := Lib.hid p3
        have X1 := Lib.hid hx
        have C1 := Lib.hid hcc
        clear p1 p2 p3 hx hcc
        go_wp2
        go_region_with (go_at_call 106; go_must (refine (lay_any L h k kk _ _ cc hcok (w.heap.size + 1) (xn * 4) wr.drew (flatC (casksTo h pack k)).toArray 135 hHr.drew P1.out P2.out P3.out p4 p5 ⟨by omega, by omega⟩ hC hCC.drew).mono ?_); rintro e W5 ⟨⟨v, rfl⟩, g1, g2⟩)
        all_goals go_wp2
        all_goals
          go_roundw
          case rel =>
            have hle := hb.size
            have g1' : KpB (fun j => j = w.heap.size + 1) wr.heap.size wr W5 := g1.ofDrew
            refine ⟨k + 1, by omega, by go_num, hb.trans ((g1'.mono hle (S' := fun j => j = w.heap.size + 1) fun _ _ h => h).below fun j hj => by have hj' : j = w.heap.size + 1 := hj; omega), hB.of (g1'.block _ hB.lt (fun hj => by have hj' : w.heap.size = w.heap.size + 1 := hj; omega)), ?_⟩
            have hne : ¬ barrelOf pack k = -1 := by rw [hbx]; exact hm
            rw [casksTo, if_neg hne, hbx]
            have e5 : ((casksTo h pack k).getD (xn : Int).toNat c0) = cc := by simp [List.getD, C1.out]
            rw [e5, Int.toNat_natCast]
            exact casks_set g2
          case measure => simp [intOf]; omega
    · obtain rfl : k = pack.length := by omega
      have hl5 := casksTo_len h pack pack.length
      have e1 := HL'.out
      as_aux_lemma =>
        go_wp2_with (first
          | (refine wpl_load81 rfl (.tmp 4) rfl (w.heap.size + 1) rfl _ hl5 hC ?_)
          | (refine wpl_store81 rfl (.tmp 4) (.tmp 22) rfl (w.heap.size + 1) rfl (casksTo h pack pack.length) rfl hl5 hC ?_))
        refine bodyPost_ret (results_cell rfl rfl (load81 hl5 hC)) rfl ⟨?_, hb⟩
        rw [packedC, e1]
end Go.Proofs.YtmbcpmnigggbaabGreat
namespace Go.Proofs.YtmbcpmnigggbaabGreat
open Go.RowKit
def caskOf (l : List Cask) (b : Nat) : Cask := l.getD b c0
def roomOK (h : House) (l : List Cask) (b : Nat) : Bool := decide ((caskOf l b).p + saltC h.fl (caskOf l b) ≤ h.bs.getD b 0)
/-- No barrel is over. -/
def fitsC (h : House) (l : List Cask) : Bool := (List.range h.bs.length).all (roomOK h l)

theorem saltC_bd {c : Cask} {fl : Int} (hc : c.ok) (hf : 0 ≤ fl ∧ fl ≤ 9) : 0 ≤ saltC fl c ∧ saltC fl c ≤ 10000 := by
  obtain ⟨hn0, hn1, hp0, hp1, hs0, hs1, hd0, hd1⟩ := hc
  have hps : 0 ≤ c.p * c.s := Int.mul_nonneg hp0 hs0
  have hps2 : c.p * c.s ≤ 10000 * 9 := Int.mul_le_mul hp1 hs1 hs0 (by omega)
  unfold saltC
  split <;> omega

set_option maxRecDepth 100000 in
set_option maxHeartbeats 4000000 in
theorem fits_any (L : HL) (h : House) (hv : HOK h) (l : List Cask) (hl : l.length = 5) (hok : ∀ (j : Nat) (c : Cask), l[j]? = some c → c.ok) (w : World) (hH : HouseAt w w.heap.size L h) :
    Calls Tryz.prog 105 #[encCs l, L.enc h] w fun e w' => e = .returned (.bool (fitsC h l)) ∧ Below w.heap.size w w' := by
  have hbl := hv.bl
  have hf0 := hv.f0
  have hf1 := hv.f1
  have HH := Lib.hid hH
  have HV := Lib.hid hv
  have HO := Lib.hid hok
  clear hH hv hok
  obtain ⟨Ak, ck, Ap, cp, Ab, cb⟩ := L
  unfold encCs
  go_enter Tryz.func105, Tryz.ntmps105
  go_wp2
  go_loopw [10] (fun i wr => ∃ k : Nat, k ≤ h.bs.length ∧ i = .int .i64 k ∧ Below w.heap.size w wr ∧ HBox wr (w.heap.size + 1) ⟨Ak, ck, Ap, cp, Ab, cb⟩ h ∧ CasksAt wr w.heap.size l ∧ ∀ j, j < k → roomOK h l j = true) (fun i _ => h.bs.length - (intOf i).toNat)
  case atStart =>
    have hb2 : Below w.heap.size w ((w.alloc (.cells (flatC l).toArray 135)).alloc (.cells #[.slice Ak h.ks.length ck, .int .i64 h.fl, .slice Ap h.ps.length cp, .slice Ab h.bs.length cb] 38)) := ((Below.refl _ _).alloc (Nat.le_refl _) _).alloc (by simp) _
    have hB2 := HBox.new (w.alloc (.cells (flatC l).toArray 135)) ⟨Ak, ck, Ap, cp, Ab, cb⟩ h
    rw [World.size_alloc] at hB2
    exact ⟨0, Nat.zero_le _, rfl, hb2, hB2, (Below.heap_alloc _ _ _ (by simp)).trans (World.alloc_heap_new w _), fun j hj => by omega⟩
  case round =>
    obtain ⟨k, hk, rfl, hb, hB, hC, hall⟩ := hrel
    have HA := Lib.hid hall
    clear hall
    by_cases hlt : k < h.bs.length
    · obtain ⟨x, hx⟩ : ∃ x, h.bs[k]? = some x := ⟨_, List.getElem?_eq_getElem hlt⟩
      obtain ⟨b1, o1, rfl, b1lt, d1⟩ := IntsAt.at_ (HH.out.b.keep hb.size fun _ _ hlt => hb.cell (p := ⟨_, _, none⟩) hlt) hx
      have hkl : k < l.length := by omega
      obtain ⟨cc, hcc⟩ : ∃ cc, l[k]? = some cc := ⟨_, List.getElem?_eq_getElem hkl⟩
      have hcok := HO.out k cc hcc
      have hsb := saltC_bd hcok ⟨hf0, hf1⟩
      have hp0 := hcok.p0
      have hp1 := hcok.p1
      obtain ⟨f0, f1, f2, f3⟩ := hC.at_ hcc
      have e0 := extB_cell f0
      have e1 := extB_cell f1
      have e2 := extB_cell f2
      have e3 := extB_cell f3
      obtain ⟨_, g1, _, _⟩ := hB.cells
      have e4 := extB_cell g1
      have hro : roomOK h l k = decide (cc.p + saltC h.fl cc ≤ x) := by simp [roomOK, caskOf, List.getD, hcc, hx]
      have RO := Lib.hid hro
      have CK := Lib.hid hcok
      clear hro hcok hx hcc
      by_cases hov : x < cc.p + saltC h.fl cc
      · as_aux_lemma =>
        go_wp2
        refine wp_region_ext (by kernel_rfl) (by kernel_rfl) ?_
        repeat (go_big_quiet_step ((go_at_call 99; exact ext_call (saltC_any cc h.fl CK.out ⟨hf0, hf1⟩ _))))
        refine wpQuiet_nil ?_
        rintro _ ⟨x1, rfl⟩
        have hb1 := hb.trans ((extB_below wr x1).mono hb.size)
        go_wp2
        go_ret
        refine ⟨?_, hb1⟩
        have : fitsC h l = false := by
          rw [fitsC, List.all_eq_false]
          exact ⟨k, List.mem_range.2 hlt, by rw [RO.out]; simp; omega⟩
        rw [this]; rfl
      · as_aux_lemma =>
        go_wp2
        refine wp_region_ext (by kernel_rfl) (by kernel_rfl) ?_
        repeat (go_big_quiet_step ((go_at_call 99; exact ext_call (saltC_any cc h.fl CK.out ⟨hf0, hf1⟩ _))))
        refine wpQuiet_nil ?_
        rintro _ ⟨x1, rfl⟩
        have hb0 := extB_below wr x1
        have hb1 := hb.trans (hb0.mono hb.size)
        go_wp2
        go_roundw
        case rel =>
          refine ⟨k + 1, by omega, by go_num, hb1, hB.of (hb0.block _ hB.lt), (hb0.block _ (Array.getElem?_eq_some_iff.1 hC).1).trans hC, fun j hj => ?_⟩
          by_cases ej : j = k
          · subst ej; rw [RO.out]; simp; omega
          · exact HA.out j (by omega)
        case measure => simp [intOf]; omega
    · obtain rfl : k = h.bs.length := by omega
      go_wp2
      go_ret
      refine ⟨?_, hb⟩
      have : fitsC h l = true := by
        rw [fitsC, List.all_eq_true]
        exact fun j hj => HA.out j (List.mem_range.1 hj)
      rw [this]; rfl
theorem at_caskOf {l : List Cask} {k : Nat} (h : k < l.length) : l[k]? = some (caskOf l k) := by simp [caskOf, List.getD, List.getElem?_eq_getElem h]
set_option maxRecDepth 100000 in
theorem index81 {l : List Cask} (hl : l.length = 5) {k : Nat} (hk : k < 5) (w : World) : (Instr.index 135 (encCs l) (.int .i64 k)).run Tryz.prog w = .ok (caskOf l k).enc w := by
  obtain ⟨a, b, c, d, e, rfl⟩ := list5 hl
  have : k = 0 ∨ k = 1 ∨ k = 2 ∨ k = 3 ∨ k = 4 := by omega
  rcases this with rfl | rfl | rfl | rfl | rfl <;> rfl

end Go.Proofs.YtmbcpmnigggbaabGreat
namespace Go.Proofs.YtmbcpmnigggbaabGreat
open Go.RowKit
theorem isBarrel_any (L : HL) (h : House) (k : Int) (w : World) (hn : h.bs.length ≤ 1000) : Calls Tryz.prog 97 #[L.enc h, .int .i64 k] w fun e w' => e = .returned (.bool (inR k 0 (h.bs.length - 1))) ∧ Below w.heap.size w w' := by
  go_enter Tryz.func97, Tryz.ntmps97
  go_wp2_with (go_at_call 102; refine (between_any _ _ _ _).mono ?_; rintro e w' ⟨rfl, rfl⟩)
  go_ret
  exact ⟨rfl, (Below.refl _ _).alloc (Nat.le_refl _) _⟩
theorem check1_any (n : Int) (w : World) : Calls Tryz.prog 103 #[.int .i64 n] w fun e w' => e = .returned (.bool (!inR n 0 99)) ∧ w = w' := by
  go_enter Tryz.func103, Tryz.ntmps103
  go_wp2_with (go_at_call 102; refine (between_any _ _ _ _).mono ?_; rintro e w' ⟨rfl, rfl⟩)
  go_ret
  exact ⟨rfl, rfl⟩
theorem good1_any (L : HL) (h : House) (b : Nat) (n : Int) (w : World) (hn : h.bs.length ≤ 1000) (hB : HBox w b L h) : Calls Tryz.prog 104 #[.int .i64 n, .pointer (some ⟨b, 0, none⟩)] w fun e w' => e = .returned (.bool (!inR n 0 (h.bs.length - 1))) ∧ Below w.heap.size w w' := by
  obtain ⟨g0, g1, g2, g3⟩ := hB.cells
  clear hB
  go_enter Tryz.func104, Tryz.ntmps104
  go_wp2_with (go_at_call 97; refine (isBarrel_any L h _ _ hn).mono ?_; rintro e w' ⟨rfl, hb⟩)
  go_ret
  exact ⟨rfl, hb⟩

/-- slices.IndexFunc's answer. -/
def firstB (p : Int → Bool) : List Int → Nat → Int
  | [], _ => -1
  | x :: l, k => if p x then (k : Int) else firstB p l (k + 1)
theorem firstB_any (p : Int → Bool) : ∀ (l : List Int) (k : Nat), decide (0 ≤ firstB p l k) = l.any p
  | [], k => by simp [firstB]
  | x :: l, k => by
    unfold firstB
    by_cases h : p x = true
    · rw [if_pos h]; simp [h]
    · rw [if_neg h, firstB_any p l (k + 1)]; simp [h]
theorem firstB_yes {p : Int → Bool} {l : List Int} {k : Nat} {x : Int} (hx : l[k]? = some x) (hp : p x = true) : firstB p (l.drop k) k = k := by
  obtain ⟨h, e⟩ := List.getElem?_eq_some_iff.1 hx
  rw [List.drop_eq_getElem_cons h, firstB, e, if_pos hp]
theorem firstB_no {p : Int → Bool} {l : List Int} {k : Nat} {x : Int} (hx : l[k]? = some x) (hp : p x = false) : firstB p (l.drop k) k = firstB p (l.drop (k + 1)) (k + 1) := by
  obtain ⟨h, e⟩ := List.getElem?_eq_some_iff.1 hx
  rw [List.drop_eq_getElem_cons h, firstB, e, if_neg (by simp [hp])]
theorem firstB_end {p : Int → Bool} {l : List Int} : firstB p (l.drop l.length) l.length = -1 := by simp [firstB]
set_option maxRecDepth 100000 in
set_option maxHeartbeats 4000000 in
theorem index78_any (A : Option Addr) (c : Nat) (l : List Int) (hl : l.length ≤ 1000) (w : World) (hI : IntsAt w w.heap.size A l) :
    Calls Tryz.prog 85 #[.slice A l.length c, .func (.func 103) #[] #[]] w fun e w' => e = .returned (.int .i64 (firstB (fun x => !inR x 0 99) l 0)) ∧ Below w.heap.size w w' := by
  have HI := Lib.hid hI
  clear hI
  go_enter Tryz.func85, Tryz.ntmps85
  go_wp2
  go_loopw [5, 8] (fun _ i wr => ∃ k : Nat, k ≤ l.length ∧ i = .int .i64 k ∧ Hid (firstB (fun x => !inR x 0 99) l 0 = firstB (fun x => !inR x 0 99) (l.drop k) k) ∧ Below w.heap.size w wr) (fun _ i _ => l.length - (intOf i).toNat)
  case atStart => exact ⟨0, Nat.zero_le _, rfl, Lib.hid (by rw [List.drop_zero]), Below.refl _ _⟩
  case round =>
    obtain ⟨k, hk, rfl, hF, hb⟩ := hrel
    by_cases hlt : k < l.length
    · obtain ⟨x, hx⟩ : ∃ x, l[k]? = some x := ⟨_, List.getElem?_eq_getElem hlt⟩
      obtain ⟨b1, o1, rfl, b1lt, d1⟩ := HI.out.at_ hx
      have d2 := below_cell hb d1
      have HX := Lib.hid hx
      clear hx d1
      have hsz := hb.size
      cases hp : (fun x => !inR x 0 99) x
      · have HPX := Lib.hid hp
        have hp' : inR x 0 99 = true := by simpa using hp
        clear hp
        go_wp2_with (go_at_call 103; refine (check1_any _ _).mono ?_; rintro e W5 ⟨rfl, rfl⟩)
        go_roundw
        case rel => exact ⟨k + 1, by omega, by go_num, Lib.hid (by rw [hF.out]; exact firstB_no HX.out HPX.out), hb⟩
        case measure => simp [intOf]; omega
      · have HPX := Lib.hid hp
        have hp' : inR x 0 99 = false := by simpa using hp
        clear hp
        go_wp2_with (go_at_call 103; refine (check1_any _ _).mono ?_; rintro e W5 ⟨rfl, rfl⟩)
        go_ret
        exact ⟨by rw [hF.out, firstB_yes HX.out HPX.out]; rfl, hb⟩
    · obtain rfl : k = l.length := by omega
      go_wp2
      go_ret
      exact ⟨by rw [hF.out, firstB_end]; rfl, hb⟩
theorem contains78_any (A : Option Addr) (c : Nat) (l : List Int) (hl : l.length ≤ 1000) (w : World) (hI : IntsAt w w.heap.size A l) :
    Calls Tryz.prog 62 #[.slice A l.length c, .func (.func 103) #[] #[]] w fun e w' => e = .returned (.bool (l.any (fun x => !inR x 0 99))) ∧ Below w.heap.size w w' := by
  rw [← firstB_any (fun x => !inR x 0 99) l 0]
  go_enter Tryz.func62, Tryz.ntmps62
  go_wp2_with (go_at_call 85; refine (index78_any A c l hl _ hI).mono ?_; rintro e w' ⟨rfl, hb⟩)
  go_ret
  exact ⟨rfl, hb⟩
set_option maxRecDepth 100000 in
set_option maxHeartbeats 4000000 in
theorem index99_any (L : HL) (h : House) (hbl : h.bs.length ≤ 1000) (b : Nat) (A : Option Addr) (c : Nat) (l : List Int) (hl : l.length ≤ 1000) (w : World) (hI : IntsAt w w.heap.size A l) (hB : HBox w b L h) :
    Calls Tryz.prog 85 #[.slice A l.length c, .func (.func 104) #[] #[.pointer (some ⟨b, 0, none⟩)]] w fun e w' => e = .returned (.int .i64 (firstB (fun x => !inR x 0 (h.bs.length - 1)) l 0)) ∧ Below w.heap.size w w' := by
  have HI := Lib.hid hI
  clear hI
  have HBX := Lib.hid hB
  clear hB
  go_enter Tryz.func85, Tryz.ntmps85
  go_wp2
  go_loopw [5, 8] (fun _ i wr => ∃ k : Nat, k ≤ l.length ∧ i = .int .i64 k ∧ Hid (firstB (fun x => !inR x 0 (h.bs.length - 1)) l 0 = firstB (fun x => !inR x 0 (h.bs.length - 1)) (l.drop k) k) ∧ Below w.heap.size w wr) (fun _ i _ => l.length - (intOf i).toNat)
  case atStart => exact ⟨0, Nat.zero_le _, rfl, Lib.hid (by rw [List.drop_zero]), Below.refl _ _⟩
  case round =>
    obtain ⟨k, hk, rfl, hF, hb⟩ := hrel
    by_cases hlt : k < l.length
    · obtain ⟨x, hx⟩ : ∃ x, l[k]? = some x := ⟨_, List.getElem?_eq_getElem hlt⟩
      obtain ⟨b1, o1, rfl, b1lt, d1⟩ := HI.out.at_ hx
      have d2 := below_cell hb d1
      have HX := Lib.hid hx
      clear hx d1
      have hsz := hb.size
      cases hp : (fun x => !inR x 0 (h.bs.length - 1)) x
      · have HPX := Lib.hid hp
        have hp' : inR x 0 (h.bs.length - 1) = true := by simpa using hp
        clear hp
        go_wp2_with (go_at_call 104; refine (good1_any L h b _ _ hbl (HBX.out.of (hb.block _ HBX.out.lt))).mono ?_; rintro e W5 ⟨rfl, hb5⟩)
        go_roundw
        case rel => exact ⟨k + 1, by omega, by go_num, Lib.hid (by rw [hF.out]; exact firstB_no HX.out HPX.out), hb.trans (hb5.mono hsz)⟩
        case measure => simp [intOf]; omega
      · have HPX := Lib.hid hp
        have hp' : inR x 0 (h.bs.length - 1) = false := by simpa using hp
        clear hp
        go_wp2_with (go_at_call 104; refine (good1_any L h b _ _ hbl (HBX.out.of (hb.block _ HBX.out.lt))).mono ?_; rintro e W5 ⟨rfl, hb5⟩)
        go_ret
        exact ⟨by rw [hF.out, firstB_yes HX.out HPX.out]; rfl, hb.trans (hb5.mono hsz)⟩
    · obtain rfl : k = l.length := by omega
      go_wp2
      go_ret
      exact ⟨by rw [hF.out, firstB_end]; rfl, hb⟩
theorem contains99_any (L : HL) (h : House) (hbl : h.bs.length ≤ 1000) (b : Nat) (A : Option Addr) (c : Nat) (l : List Int) (hl : l.length ≤ 1000) (w : World) (hI : IntsAt w w.heap.size A l) (hB : HBox w b L h) :
    Calls Tryz.prog 62 #[.slice A l.length c, .func (.func 104) #[] #[.pointer (some ⟨b, 0, none⟩)]] w fun e w' => e = .returned (.bool (l.any (fun x => !inR x 0 (h.bs.length - 1)))) ∧ Below w.heap.size w w' := by
  rw [← firstB_any (fun x => !inR x 0 (h.bs.length - 1)) l 0]
  go_enter Tryz.func62, Tryz.ntmps62
  go_wp2_with (go_at_call 85; refine (index99_any L h hbl b A c l hl _ hI hB).mono ?_; rintro e w' ⟨rfl, hb⟩)
  go_ret
  exact ⟨rfl, hb⟩
theorem allTo_bad {p : Int × Int → Bool} {l : List (Int × Int)} {k : Nat} {x : Int × Int} (hx : l[k]? = some x) (hp : p x = false) : l.all p = false := by
  rw [List.all_eq_false]
  exact ⟨x, List.mem_of_getElem? hx, by simp [hp]⟩
theorem allTo_good {p : Int × Int → Bool} {l : List (Int × Int)} (h : ∀ j x, j < l.length → l[j]? = some x → p x = true) : l.all p = true := by
  rw [List.all_eq_true]
  intro x hx
  obtain ⟨j, hj⟩ := List.getElem?_of_mem hx
  exact h j x (List.getElem?_eq_some_iff.1 hj).1 hj
theorem allTo_step {p : Int × Int → Bool} {l : List (Int × Int)} {k : Nat} {x : Int × Int} (h : ∀ j x, j < k → l[j]? = some x → p x = true) (hx : l[k]? = some x) (hk : p x = true) : ∀ j x, j < k + 1 → l[j]? = some x → p x = true := by
  intro j y hj hy
  by_cases e : j = k
  · subst e; rw [hx] at hy; cases hy; exact hk
  · exact h j y (by omega) hy
theorem ckH_yes {h : House} (hv : validH h = true) : ckH h = 0 := by simp [ckH, hv]
theorem ckH_no {h : House} (hv : validH h = false) : ckH h = 80 := by simp [ckH, hv]
theorem validH_parts {h : House} (h0 : bigOK h = true) (h1 : h.ks.all kindOK = true) (h2 : h.ps.all (partOK h.ks.length) = true) : validH h = h.bs.all fun b => inR b 0 99 := by
  simp [validH, h0, h1, h2]
theorem any_not_all (l : List Int) (p : Int → Bool) : l.any (fun x => !p x) = !l.all p := by
  rw [Bool.eq_iff_iff]; simp

set_option maxRecDepth 100000 in
set_option maxHeartbeats 4000000 in
theorem check_no (L : HL) (h : House) (hn : h.ks.length ≤ 1000 ∧ h.ps.length ≤ 1000 ∧ h.bs.length ≤ 1000) (hv : bigOK h = false) (w : World) :
    Calls Tryz.prog 95 #[L.enc h] w fun e w' => e = .returned (.int .i64 (ckH h)) ∧ Below w.heap.size w w' := by
  obtain ⟨n1, n2, n3⟩ := hn
  have hv2 : ckH h = 80 := ckH_no (by simp [validH, hv])
  rw [hv2]
  clear hv2
  have hbw : Below w.heap.size w (w.alloc (.cells #[.slice L.Ak h.ks.length L.ck, .int .i64 h.fl, .slice L.Ap h.ps.length L.cp, .slice L.Ab h.bs.length L.cb] 38)) := (Below.refl _ _).alloc (Nat.le_refl _) _
  obtain ⟨Ak, ck, Ap, cp, Ab, cb⟩ := L
  by_cases k1 : h.ks.length ≤ 3
  · cases f1 : inR h.fl 0 9
    · clear hv
      go_enter Tryz.func95, Tryz.ntmps95
      go_wp2_with (go_at_call 102; refine (between_any _ _ _ _).mono ?_; rintro e w' ⟨rfl, rfl⟩)
      go_ret
      exact ⟨rfl, hbw⟩
    · by_cases p1 : h.ps.length ≤ 6
      · have b1 : 4 < h.bs.length := by
          have : ¬ h.bs.length ≤ 4 := fun hb => by simp [bigOK, k1, f1, p1, hb] at hv
          omega
        clear hv
        go_enter Tryz.func95, Tryz.ntmps95
        go_wp2_with (go_at_call 102; refine (between_any _ _ _ _).mono ?_; rintro e w' ⟨rfl, rfl⟩)
        go_ret
        exact ⟨rfl, hbw⟩
      · have p2 : 6 < h.ps.length := by omega
        clear hv p1
        go_enter Tryz.func95, Tryz.ntmps95
        go_wp2_with (go_at_call 102; refine (between_any _ _ _ _).mono ?_; rintro e w' ⟨rfl, rfl⟩)
        go_ret
        exact ⟨rfl, hbw⟩
  · have k2 : 3 < h.ks.length := by omega
    clear hv k1
    go_enter Tryz.func95, Tryz.ntmps95
    go_wp2_with (go_at_call 102; refine (between_any _ _ _ _).mono ?_; rintro e w' ⟨rfl, rfl⟩)
    go_ret
    exact ⟨rfl, hbw⟩

set_option maxRecDepth 100000 in
set_option maxHeartbeats 4000000 in
theorem check_yes (L : HL) (h : House) (hv : bigOK h = true) (w : World) (hH : HouseAt w w.heap.size L h) :
    Calls Tryz.prog 95 #[L.enc h] w fun e w' => e = .returned (.int .i64 (ckH h)) ∧ Below w.heap.size w w' := by
  have hv' := hv
  simp only [bigOK, Bool.and_eq_true, decide_eq_true_eq] at hv'
  obtain ⟨k1, f1, p1, b1⟩ := hv'
  have HV := Lib.hid hv
  have HH := Lib.hid hH
  clear hv hH
  obtain ⟨Ak, ck, Ap, cp, Ab, cb⟩ := L
  go_enter Tryz.func95, Tryz.ntmps95
  go_wp2_with (go_at_call 102; refine (between_any _ _ _ _).mono ?_; rintro e w' ⟨rfl, rfl⟩)
  clear f1
  go_loopw [32] (fun i wr => ∃ k : Nat, k ≤ h.ks.length ∧ i = .int .i64 k ∧ Hid (∀ j x, j < k → h.ks[j]? = some x → kindOK x = true) ∧ Below w.heap.size w wr ∧ HBox wr w.heap.size ⟨Ak, ck, Ap, cp, Ab, cb⟩ h) (fun i _ => h.ks.length - (intOf i).toNat)
  case atStart => exact ⟨0, Nat.zero_le _, rfl, Lib.hid (fun j x hj => by omega), (Below.refl _ _).alloc (Nat.le_refl _) _, HBox.new w ⟨Ak, ck, Ap, cp, Ab, cb⟩ h⟩
  case round =>
    obtain ⟨k, hk, rfl, hok, hb, hB⟩ := hrel
    have hsz := hb.size
    by_cases hlt : k < h.ks.length
    · obtain ⟨x, hx⟩ : ∃ x, h.ks[k]? = some x := ⟨_, List.getElem?_eq_getElem hlt⟩
      obtain ⟨bk, ok, rfl, hbk, d1, d2⟩ := HH.out.k.at_ hx
      have e1 := below_cell hb d1
      have e2 := below_cell hb d2
      have HX := Lib.hid hx
      clear hx d1 d2
      cases h1 : inR x.1 0 9
      · have hno : Hid (kindOK x = false) := Lib.hid (by rw [kindOK, h1]; rfl)
        go_wp2_with (go_at_call 102; refine (between_any _ _ _ _).mono ?_; rintro e w' ⟨rfl, rfl⟩)
        go_ret
        exact ⟨by rw [ckH_no (by simp [validH, allTo_bad HX.out hno.out])]; rfl, hb.alloc hsz _⟩
      · cases h2 : inR x.2 0 20
        · have hno : Hid (kindOK x = false) := Lib.hid (by rw [kindOK, h1, h2]; rfl)
          go_wp2_with (go_at_call 102; refine (between_any _ _ _ _).mono ?_; rintro e w' ⟨rfl, rfl⟩)
          go_ret
          exact ⟨by rw [ckH_no (by simp [validH, allTo_bad HX.out hno.out])]; rfl, hb.alloc hsz _⟩
        · have hyes : Hid (kindOK x = true) := Lib.hid (by rw [kindOK, h1, h2]; rfl)
          go_wp2_with (go_at_call 102; refine (between_any _ _ _ _).mono ?_; rintro e w' ⟨rfl, rfl⟩)
          go_roundw
          case rel => exact ⟨k + 1, by omega, by go_num, Lib.hid (allTo_step hok.out HX.out hyes.out), hb.alloc hsz _, hB.of (Below.heap_alloc _ _ _ hB.lt)⟩
          case measure => simp [intOf]; omega
    · obtain rfl : k = h.ks.length := by omega
      have hkall : Hid (h.ks.all kindOK = true) := Lib.hid (allTo_good hok.out)
      clear hok hlt hk
      obtain ⟨g0, g1, g2, g3⟩ := hB.cells
      go_wp2
      clear g0 g1 g2 g3
      obtain ⟨wo, rfl⟩ : ∃ wo : World, wo = wr := ⟨_, rfl⟩
      go_loopw [50] (fun i wr => ∃ k : Nat, k ≤ h.ps.length ∧ i = .int .i64 k ∧ Hid (∀ j x, j < k → h.ps[j]? = some x → partOK h.ks.length x = true) ∧ Below w.heap.size w wr ∧ HBox wr w.heap.size ⟨Ak, ck, Ap, cp, Ab, cb⟩ h) (fun i _ => h.ps.length - (intOf i).toNat)
      case atStart => exact ⟨0, Nat.zero_le _, rfl, Lib.hid (fun j x hj => by omega), hb, hB⟩
      case round =>
        clear hb hB hsz
        obtain ⟨k, hk, rfl, hok, hb, hB⟩ := hrel
        have hsz := hb.size
        obtain ⟨g0, g1, g2, g3⟩ := hB.cells
        have hlt0 : w.heap.size < wr.heap.size := hB.lt
        have hne0 : ¬ w.heap.size = wr.heap.size := by omega
        by_cases hlt : k < h.ps.length
        · obtain ⟨x, hx⟩ : ∃ x, h.ps[k]? = some x := ⟨_, List.getElem?_eq_getElem hlt⟩
          obtain ⟨bk, ok, rfl, hbk, d1, d2⟩ := HH.out.p.at_ hx
          have e1 := below_cell hb d1
          have e2 := below_cell hb d2
          have HX := Lib.hid hx
          clear hx d1 d2
          cases h1 : inR x.1 0 (h.ks.length - 1)
          · have hno : Hid (partOK h.ks.length x = false) := Lib.hid (by rw [partOK, h1]; rfl)
            go_wp2_with (go_at_call 102; refine (between_any _ _ _ _).mono ?_; rintro e w' ⟨rfl, rfl⟩)
            go_ret
            exact ⟨by rw [ckH_no (by simp [validH, allTo_bad HX.out hno.out])]; rfl, hb.alloc hsz _⟩
          · cases h2 : inR x.2 0 40
            · have hno : Hid (partOK h.ks.length x = false) := Lib.hid (by rw [partOK, h1, h2]; rfl)
              go_wp2_with (go_at_call 102; refine (between_any _ _ _ _).mono ?_; rintro e w' ⟨rfl, rfl⟩)
              go_ret
              exact ⟨by rw [ckH_no (by simp [validH, allTo_bad HX.out hno.out])]; rfl, hb.alloc hsz _⟩
            · have hyes : Hid (partOK h.ks.length x = true) := Lib.hid (by rw [partOK, h1, h2]; rfl)
              go_wp2_with (go_at_call 102; refine (between_any _ _ _ _).mono ?_; rintro e w' ⟨rfl, rfl⟩)
              go_roundw
              case rel => exact ⟨k + 1, by omega, by go_num, Lib.hid (allTo_step hok.out HX.out hyes.out), hb.alloc hsz _, hB.of (Below.heap_alloc _ _ _ hB.lt)⟩
              case measure => simp [intOf]; omega
        · obtain rfl : k = h.ps.length := by omega
          have hpall : Hid (h.ps.all (partOK h.ks.length) = true) := Lib.hid (allTo_good hok.out)
          have hI : IntsAt wr wr.heap.size Ab h.bs := (HH.out.b).keep hsz fun _ _ hlt => hb.cell (p := ⟨_, _, none⟩) hlt
          clear hok hlt hk
          cases ha : (h.bs.all fun b => inR b 0 99)
          · have ha2 : (h.bs.any fun x => !inR x 0 99) = true := by rw [any_not_all, ha]; rfl
            have HA := Lib.hid ha
            clear ha
            go_wp2_with (go_at_call 62; refine (contains78_any Ab cb h.bs (by omega) wr hI).mono ?_; rintro e W5 ⟨rfl, hb5⟩)
            go_ret
            exact ⟨by rw [ckH_no (by rw [validH_parts HV.out hkall.out hpall.out]; exact HA.out)]; rfl, hb.trans (hb5.mono hsz)⟩
          · have ha2 : (h.bs.any fun x => !inR x 0 99) = false := by rw [any_not_all, ha]; rfl
            have HA := Lib.hid ha
            clear ha
            go_wp2_with (go_at_call 62; refine (contains78_any Ab cb h.bs (by omega) wr hI).mono ?_; rintro e W5 ⟨rfl, hb5⟩)
            go_ret
            exact ⟨by rw [ckH_yes (by rw [validH_parts HV.out hkall.out hpall.out]; exact HA.out)]; rfl, hb.trans (hb5.mono hsz)⟩
theorem check_any (L : HL) (h : House) (hn : h.ks.length ≤ 1000 ∧ h.ps.length ≤ 1000 ∧ h.bs.length ≤ 1000) (w : World) (hH : HouseAt w w.heap.size L h) :
    Calls Tryz.prog 95 #[L.enc h] w fun e w' => e = .returned (.int .i64 (ckH h)) ∧ Below w.heap.size w w' := by
  cases hv : bigOK h
  · exact check_no L h hn hv w
  · exact check_yes L h hv w hH
theorem HOK.ofValid {h : House} (hv : validH h = true) : HOK h := by
  simp only [validH, bigOK, Bool.and_eq_true, decide_eq_true_eq, inR_true, List.all_eq_true] at hv
  obtain ⟨⟨k1, f1, p1, b1⟩, hk, hp, hb⟩ := hv
  refine ⟨k1, f1.1, f1.2, p1, b1, fun i x hx => ?_, fun i x hx => ?_, fun i x hx => hb x (List.mem_of_getElem? hx)⟩
  · have := hk x (List.mem_of_getElem? hx)
    simp only [kindOK, Bool.and_eq_true, inR_true] at this
    omega
  · have := hp x (List.mem_of_getElem? hx)
    simp only [partOK, Bool.and_eq_true, inR_true] at this
    omega
end Go.Proofs.YtmbcpmnigggbaabGreat
namespace Go.Proofs.YtmbcpmnigggbaabGreat
open Go.RowKit
/-! Plain lists: the parts of a barrel, its cask, and all lists with a barrel for each part. -/
def layAt (h : House) (c : Cask) (i : Int) : Cask := layC c (kindOf h (partOf h i.toNat)) (partOf h i.toNat)
/-- The cask with some parts. -/
def caskIn (h : House) (l : List Int) : Cask := l.foldl (layAt h) c0
theorem caskIn_snoc (h : House) (l : List Int) (i : Int) : caskIn h (l ++ [i]) = layAt h (caskIn h l) i := by simp [caskIn]
/-- The parts among the first k that are in a barrel. -/
def inTo (pack : List Int) (b : Int) : Nat → List Int
  | 0 => []
  | k + 1 => if barrelOf pack k = b then inTo pack b k ++ [(k : Int)] else inTo pack b k
def inOf (pack : List Int) (b : Int) : List Int := inTo pack b pack.length
theorem inTo_len (pack : List Int) (b : Int) : ∀ k, (inTo pack b k).length ≤ k
  | 0 => Nat.le_refl _
  | k + 1 => by
    have := inTo_len pack b k
    unfold inTo
    split
    · simp; omega
    · omega
theorem mem_inTo {pack : List Int} {b : Int} : ∀ {k : Nat} {i : Int}, i ∈ inTo pack b k ↔ ∃ j : Nat, i = (j : Int) ∧ j < k ∧ barrelOf pack j = b
  | 0, i => by simp [inTo]
  | k + 1, i => by
    unfold inTo
    split
    · rename_i hb
      rw [List.mem_append, mem_inTo]
      constructor
      · rintro (⟨j, h1, h2, h3⟩ | h)
        · exact ⟨j, h1, by omega, h3⟩
        · exact ⟨k, by simpa using h, by omega, hb⟩
      · rintro ⟨j, h1, h2, h3⟩
        by_cases e : j = k
        · right; subst e; simpa using h1
        · exact .inl ⟨j, h1, by omega, h3⟩
    · rename_i hb
      rw [mem_inTo]
      constructor
      · rintro ⟨j, h1, h2, h3⟩; exact ⟨j, h1, by omega, h3⟩
      · rintro ⟨j, h1, h2, h3⟩
        by_cases e : j = k
        · subst e; exact (hb h3).elim
        · exact ⟨j, h1, by omega, h3⟩

theorem casksTo_at (h : House) (pack : List Int) (b : Nat) (hb : b < 5) : ∀ k, (∀ j, j < k → -1 ≤ barrelOf pack j ∧ barrelOf pack j ≤ 4) → (casksTo h pack k).getD b c0 = caskIn h (inTo pack b k)
  | 0, _ => by
    simp only [casksTo, inTo, caskIn, List.foldl_nil]
    match b, hb with
    | 0, _ => rfl
    | 1, _ => rfl
    | 2, _ => rfl
    | 3, _ => rfl
    | 4, _ => rfl
  | k + 1, hr => by
    have ih := casksTo_at h pack b hb k (fun j hj => hr j (by omega))
    obtain ⟨r1, r2⟩ := hr k (by omega)
    unfold casksTo inTo
    by_cases hm : barrelOf pack k = -1
    · rw [if_pos hm, if_neg (by omega), ih]
    · rw [if_neg hm]
      by_cases hbb : barrelOf pack k = (b : Int)
      · rw [if_pos hbb, hbb, caskIn_snoc, ← ih]
        simp only [Int.toNat_natCast, List.getD]
        rw [List.getElem?_set_self (by rw [casksTo_len]; omega)]
        simp [layAt]
      · rw [if_neg hbb, ← ih]
        simp only [List.getD]
        rw [List.getElem?_set_ne (by omega)]

/-- All parts are parts of the house. -/
def PartsOK (h : House) (l : List Int) : Prop := ∀ i ∈ l, 0 ≤ i ∧ i < h.ps.length
theorem layAt_upto {h : House} (hv : HOK h) {c : Cask} {k : Nat} (hc : c.upto k) {i : Int} (hi : 0 ≤ i ∧ i < h.ps.length) : (layAt h c i).upto (k + 1) := by
  obtain ⟨kk, -, -, -, ⟨p2, p3⟩, k0, k1, k2, k3⟩ := hv.part (k := i.toNat) (by omega)
  obtain ⟨n0, n1, p0, p1, s0, s1, d0, d1⟩ := hc
  exact ⟨by simp only [layAt, layC]; omega, by simp only [layAt, layC]; omega, by simp only [layAt, layC]; omega, by simp only [layAt, layC]; omega, by simp only [layAt, layC]; omega, by simp only [layAt, layC]; omega, by simp only [layAt, layC]; omega, by simp only [layAt, layC]; omega⟩
theorem snoc_ind {α : Type} {P : List α → Prop} (h0 : P []) (h1 : ∀ l x, P l → P (l ++ [x])) (l : List α) : P l := by
  suffices h : ∀ l : List α, P l.reverse by simpa using h l.reverse
  intro l
  induction l with
  | nil => simpa using h0
  | cons x l ih => rw [List.reverse_cons]; exact h1 _ _ ih
theorem caskIn_upto {h : House} (hv : HOK h) (l : List Int) : PartsOK h l → (caskIn h l).upto l.length := by
  refine snoc_ind (P := fun l => PartsOK h l → (caskIn h l).upto l.length) ?_ ?_ l
  · intro _; exact ⟨by simp [caskIn, c0], by simp [caskIn, c0], by simp [caskIn, c0], by simp [caskIn, c0], by simp [caskIn, c0], by simp [caskIn, c0], by simp [caskIn, c0], by simp [caskIn, c0]⟩
  · intro l x ih hp
    rw [caskIn_snoc, List.length_append]
    exact layAt_upto hv (ih fun i hi => hp i (by simp [hi])) (hp x (by simp))
theorem inTo_parts {h : House} {pack : List Int} {b : Int} {k : Nat} (hk : k ≤ h.ps.length) : PartsOK h (inTo pack b k) := fun i hi => by
  obtain ⟨j, rfl, hj, -⟩ := mem_inTo.1 hi
  omega

/-- Pounds and salt of a barrel. -/
def needC (h : House) (l : List Int) : Int := (caskIn h l).p + saltC h.fl (caskIn h l)
/-- No barrel is over, with a list that may be too short. -/
def fitsR (h : House) (pack : List Int) : Bool := (List.range h.bs.length).all fun b => decide (needC h (inOf pack b) ≤ h.bs.getD b 0)
theorem fitsR_true {h : House} {pack : List Int} : fitsR h pack = true ↔ ∀ b, b < h.bs.length → needC h (inOf pack b) ≤ h.bs.getD b 0 := by
  simp [fitsR]

theorem cask_n (h : House) (l : List Int) : (caskIn h l).n = l.length :=
  snoc_ind (P := fun l => (caskIn h l).n = l.length) rfl (fun l x ih => by rw [caskIn_snoc, List.length_append]; simp only [layAt, layC, ih]; simp) l
/-- Nothing of a cask is less. -/
structure Cask.le (a b : Cask) : Prop where
  n : a.n ≤ b.n
  p : a.p ≤ b.p
  s : a.s ≤ b.s
  d : a.d ≤ b.d
theorem PartsOK.sub {h : House} {l l' : List Int} (hp : PartsOK h l') (hs : l.Sublist l') : PartsOK h l := fun i hi => hp i (hs.subset hi)
end Go.Proofs.YtmbcpmnigggbaabGreat
namespace Go.Proofs.YtmbcpmnigggbaabGreat
open Go.RowKit
attribute [local go_sem] Oper.semAt_some
theorem KpB.belowOf {S : Nat → Prop} {n B : Nat} {W W' : World} (h : KpB S n W W') (hB : B ≤ n) (hS : ∀ k, S k → B ≤ k) : Below B W W' := ⟨h.os, h.tape, h.output, h.size, fun k hk => h.block k (by omega) (fun hs => by have := hS k hs; omega)⟩
theorem packedC_ok {h : House} (hv : HOK h) (p : List Int) : ∀ (j : Nat) (c : Cask), (packedC h p)[j]? = some c → c.ok := fun j c hc => (casksTo_upto hv p _ (Nat.le_refl _) j c hc).ok (by have := hv.pl; omega)
theorem packedC_len (h : House) (p : List Int) : (packedC h p).length = 5 := casksTo_len _ _ _
theorem drew_below (w : World) : Below w.heap.size w w.drew := (Below.refl _ _).drew
theorem hb0to {w w1 w2 : World} (h : Below w.heap.size w w1) (k : Below w1.heap.size w1 w2) : Below w.heap.size w w2 := h.trans (k.mono h.size)
theorem extB_house {w x : World} {B : Nat} {L : HL} {h : House} (hh : HouseAt w B L h) (hB : B ≤ w.heap.size) : HouseAt (extB w x) (extB w x).heap.size L h :=
  hh.keep (Nat.le_trans hB (extB_below w x).size) fun b o hb => (extB_below w x).cell (p := ⟨b, o, none⟩) (by show b < w.heap.size; omega)
theorem heap_lt {W : World} {k : Nat} {o : Obj} (h : W.heap[k]? = some o) : k < W.heap.size := (Array.getElem?_eq_some_iff.1 h).1
/-! Salt, Good, Barrel. -/
theorem wp_region_extW {P : Program} {id : Nat} {Q : Exit → Act → World → Prop} {a : Act} {w : World} {L : List Oper} (hm : P.follows .mixedOrders = true) (hB : Region.lexB .any L.toArray = true)
    (h : wpQuiet P L.toArray (fun w' => ∃ x, w' = extB w x) (fun a' => ∀ w', (∃ x, w' = extB w x) → Q .normal a' w') L a) : (Code.region id L.toArray true).wp P Q a w := wp_region_ext hm hB h
/-- The cask in the block cb, of its own. -/
def CaskBox (W : World) (cb : Nat) (c : Cask) : Prop := W.heap[cb]? = some (.cells #[.int .i64 c.n, .int .i64 c.p, .int .i64 c.s, .int .i64 c.d] 133 (0, 0))
theorem CaskBox.at_ {W : World} {cb : Nat} {c : Cask} (h : CaskBox W cb c) : CaskAt W cb 0 c := by
  have h : W.heap[cb]? = some (.cells #[.int .i64 c.n, .int .i64 c.p, .int .i64 c.s, .int .i64 c.d] 133 (0, 0)) := h
  exact ⟨by simp [World.cell?, h], by simp [World.cell?, h], by simp [World.cell?, h], by simp [World.cell?, h]⟩
theorem CaskBox.lt {W : World} {cb : Nat} {c : Cask} (h : CaskBox W cb c) : cb < W.heap.size := heap_lt h
theorem CaskBox.frozen {W : World} {cb : Nat} {c : Cask} (h : CaskBox W cb c) (o : Nat) : W.frozen? ⟨cb, o, none⟩ = false := by simp [World.frozen?, show W.heap[cb]? = _ from h]
/-- Numbers from 0 to n - 1, strictly ascending. -/
def riseOK (l : List Int) (n : Int) (k : Nat) : Bool := inR (l.getD k 0) 0 (n - 1) && (k == 0 || decide (l.getD (k - 1) 0 < l.getD k 0))
def riseB (l : List Int) (n : Int) : Bool := (List.range l.length).all (riseOK l n)
theorem riseB_no {l : List Int} {n : Int} {k : Nat} (hk : k < l.length) (h : riseOK l n k = false) : riseB l n = false := by
  rw [riseB, List.all_eq_false]; exact ⟨k, List.mem_range.2 hk, by simp [h]⟩
theorem riseB_yes {l : List Int} {n : Int} (h : ∀ k, k < l.length → riseOK l n k = true) : riseB l n = true := by
  rw [riseB, List.all_eq_true]; exact fun k hk => h k (List.mem_range.1 hk)
theorem riseB_at {l : List Int} {n : Int} (h : riseB l n = true) {k : Nat} (hk : k < l.length) : riseOK l n k = true := List.all_eq_true.1 h k (List.mem_range.2 hk)
theorem riseB_in {l : List Int} {n : Int} (h : riseB l n = true) : ∀ i ∈ l, 0 ≤ i ∧ i < n := fun i hi => by
  obtain ⟨k, hk⟩ := List.getElem?_of_mem hi
  have h1 := riseB_at h (List.getElem?_eq_some_iff.1 hk).1
  simp only [riseOK, Bool.and_eq_true, inR_true, List.getD, hk, Option.getD_some] at h1
  omega
/-- A list is a packing. -/
def goodB (h : House) (pack : List Int) : Bool := decide (pack.length = h.ps.length) && (pack.all (fun b => inR b 0 (h.bs.length - 1)) && fitsC h (packedC h pack))
theorem any_not_all2 (l : List Int) (p : Int → Bool) : l.any (fun x => !p x) = !l.all p := by rw [Bool.eq_iff_iff]; simp
theorem packed_of_good (L : HL) (h : House) (hv : HOK h) (pack : List Int) (hl : pack.length = h.ps.length) (hr : pack.all (fun b => inR b 0 (h.bs.length - 1)) = true) (A : Option Addr) (c : Nat) (w : World)
    (hH : HouseAt w w.heap.size L h) (hP : IntsAt w w.heap.size A pack) :
    Calls Tryz.prog 98 #[L.enc h, .slice A pack.length c] w fun e w' => e = .returned (encCs (packedC h pack)) ∧ Below w.heap.size w w' :=
  packed_any L h hv pack hl (fun k b hb => by
    have := inR_true.1 (List.all_eq_true.1 hr b (List.mem_of_getElem? hb))
    have := hv.bl
    omega) A c w hH hP
set_option maxRecDepth 100000 in
set_option maxHeartbeats 4000000 in
theorem good_any (L : HL) (h : House) (hv : HOK h) (pack : List Int) (hl : pack.length ≤ 1000) (A : Option Addr) (c : Nat) (w : World) (hH : HouseAt w w.heap.size L h) (hI : IntsAt w w.heap.size A pack) :
    Calls Tryz.prog 96 #[L.enc h, .slice A pack.length c] w fun e w' => e = .returned (.bool (goodB h pack)) ∧ Below w.heap.size w w' := by
  have hb0 := (Below.refl _ _).alloc (Nat.le_refl w.heap.size) (.cells #[.slice L.Ak h.ks.length L.ck, .int .i64 h.fl, .slice L.Ap h.ps.length L.cp, .slice L.Ab h.bs.length L.cb] 38)
  have hX := HBox.new w L h
  have hbl := hv.bl
  have HX := Lib.hid hX
  have HB0 := Lib.hid hb0
  obtain ⟨g0, g1, g2, g3⟩ := hX.cells
  have e0 := extB_cell g0
  have e1 := extB_cell g1
  have e2 := extB_cell g2
  have e3 := extB_cell g3
  have HV := Lib.hid hv
  have hH1 := hH.below hb0
  have hI1 : IntsAt (w.alloc (.cells #[.slice L.Ak h.ks.length L.ck, .int .i64 h.fl, .slice L.Ap h.ps.length L.cp, .slice L.Ab h.bs.length L.cb] 38)) (w.alloc (.cells #[.slice L.Ak h.ks.length L.ck, .int .i64 h.fl, .slice L.Ap h.ps.length L.cp, .slice L.Ab h.bs.length L.cb] 38)).heap.size A pack := hI.keep hb0.size fun b o hlt => hb0.cell (p := ⟨b, o, none⟩) hlt
  have HH := Lib.hid hH1
  have HI := Lib.hid hI1
  obtain ⟨W1, hW1⟩ : ∃ W1, W1 = w.alloc (.cells #[.slice L.Ak h.ks.length L.ck, .int .i64 h.fl, .slice L.Ap h.ps.length L.cp, .slice L.Ab h.bs.length L.cb] 38) := ⟨_, rfl⟩
  rw [← hW1] at HX HB0 HH HI e0 e1 e2 e3
  have hIe : ∀ x, IntsAt (extB W1 x) (extB W1 x).heap.size A pack := fun x => HI.out.keep (extB_below W1 x).size fun b o hlt => (extB_below W1 x).cell (p := ⟨b, o, none⟩) hlt
  have HIE := Lib.hid hIe
  have HW := Lib.hid hW1
  clear hX hb0 g0 g1 g2 g3 hv hH hI hH1 hI1 hIe hW1
  by_cases hlen : pack.length = h.ps.length
  · have hd1 : ((pack.length : Int) == (h.ps.length : Int)) = true := by simp; omega
    have HLEN := Lib.hid hlen
    cases hall : pack.all (fun b => inR b 0 (h.bs.length - 1))
    · have hany : (pack.any fun x => !inR x 0 (h.bs.length - 1)) = true := by rw [any_not_all2, hall]; rfl
      have HANY := Lib.hid hany
      have HALL := Lib.hid hall
      clear hall hlen
      go_enter Tryz.func96, Tryz.ntmps96
      go_wp2
      rw [← HW.out]
      refine wp_region_extW (by kernel_rfl) (by kernel_rfl) ?_
      repeat (go_big_quiet_step (first
        | (go_at_call 62; exact ext_call (contains99_any L h (by omega) w.heap.size A c pack hl _ (HIE.out _) (HX.out.of ((extB_below W1 _).block _ HX.out.lt))))
        ))
      refine wpQuiet_nil ?_
      rintro _ ⟨x1, rfl⟩
      have hb8 := hb0to HB0.out (extB_below W1 x1)
      clear e0 e1 e2 e3
      go_wp2
      go_ret
      exact ⟨by rw [goodB, HALL.out]; simp, hb8⟩
    · have hany : (pack.any fun x => !inR x 0 (h.bs.length - 1)) = false := by rw [any_not_all2, hall]; rfl
      have HANY := Lib.hid hany
      have HALL := Lib.hid hall
      clear hall hlen
      have hg : goodB h pack = fitsC h (packedC h pack) := by rw [goodB, HALL.out, HLEN.out]; simp
      have HG := Lib.hid hg
      clear hg
      go_enter Tryz.func96, Tryz.ntmps96
      go_wp2
      rw [← HW.out]
      refine wp_region_extW (by kernel_rfl) (by kernel_rfl) ?_
      repeat (go_big_quiet_step (first
        | (go_at_call 62; exact ext_call (contains99_any L h (by omega) w.heap.size A c pack hl _ (HIE.out _) (HX.out.of ((extB_below W1 _).block _ HX.out.lt))))
        | (go_at_call 98; exact ext_call (packed_of_good L h HV.out pack HLEN.out HALL.out A c _ (extB_house HH.out (Nat.le_refl _)) (HIE.out _)))
        | (go_at_call 105; exact ext_call (fits_any L h HV.out _ (packedC_len h pack) (packedC_ok HV.out pack) _ (extB_house HH.out (Nat.le_refl _))))))
      refine wpQuiet_nil ?_
      rintro _ ⟨x1, rfl⟩
      have hb8 := hb0to HB0.out (extB_below W1 x1)
      clear e0 e1 e2 e3
      go_wp2
      go_ret
      exact ⟨by rw [HG.out]; rfl, hb8⟩
  · have hd1 : ((pack.length : Int) == (h.ps.length : Int)) = false := by simp; omega
    have HLEN := Lib.hid hlen
    clear hlen
    go_enter Tryz.func96, Tryz.ntmps96
    go_wp2
    rw [← HW.out]
    refine wp_region_extW (by kernel_rfl) (by kernel_rfl) ?_
    repeat (go_big_quiet_step (fail))
    refine wpQuiet_nil ?_
    rintro _ ⟨x1, rfl⟩
    have hb8 := hb0to HB0.out (extB_below W1 x1)
    clear e0 e1 e2 e3
    go_wp2
    go_ret
    exact ⟨by rw [goodB, decide_eq_false HLEN.out]; rfl, hb8⟩
def goodRet (h : House) (pack : List Int) : Bool × Int := if validH h = false then (false, 80) else (goodB h pack, 0)
set_option maxRecDepth 100000 in
set_option maxHeartbeats 4000000 in
theorem Good_any (L : HL) (h : House) (hn : h.ks.length ≤ 1000 ∧ h.ps.length ≤ 1000 ∧ h.bs.length ≤ 1000) (pack : List Int) (hl : pack.length ≤ 1000) (A : Option Addr) (c : Nat) (w : World) (hH : HouseAt w w.heap.size L h) (hI : IntsAt w w.heap.size A pack) :
    Calls Tryz.prog 82 #[L.enc h, .slice A pack.length c] w fun e w' => e = .returned (.tuple #[.bool (goodRet h pack).1, .int .i64 (goodRet h pack).2]) ∧ Below w.heap.size w w' := by
  have hbw := (Below.refl _ _).alloc (Nat.le_refl w.heap.size) (.cells #[.slice L.Ak h.ks.length L.ck, .int .i64 h.fl, .slice L.Ap h.ps.length L.cp, .slice L.Ab h.bs.length L.cb] 38)
  have HC := Lib.hid (check_any L h hn _ (hH.below hbw))
  have HB := Lib.hid (HBox.new w L h)
  have HBW := Lib.hid hbw
  have HH := Lib.hid hH
  have HI := Lib.hid hI
  clear hbw hH hI
  cases hv : validH h
  · have hk : ckH h = 80 := ckH_no hv
    have HV := Lib.hid hv
    clear hv
    go_enter Tryz.func82, Tryz.ntmps82
    go_wp2_with (go_at_call 95; refine HC.out.mono ?_; rintro e w1 ⟨rfl, hb1⟩)
    go_ret2
    exact ⟨by rw [goodRet, if_pos HV.out]; rfl, hb0to HBW.out hb1⟩
  · have hk : ckH h = 0 := ckH_yes hv
    have HV := Lib.hid (HOK.ofValid hv)
    have HV' := Lib.hid hv
    clear hv
    go_enter Tryz.func82, Tryz.ntmps82
    go_wp2_with (first
      | (go_at_call 95; refine HC.out.mono ?_; rintro e w1 ⟨rfl, hb1⟩; obtain ⟨g0, g1, g2, g3⟩ := (HB.out.of (hb1.block _ HB.out.lt)).cells)
      | (go_at_call 96; refine (good_any L h HV.out pack hl A c _ (HH.out.below (hb0to HBW.out hb1)) (HI.out.keep (hb0to HBW.out hb1).size fun b o hlt => (hb0to HBW.out hb1).cell (p := ⟨b, o, none⟩) hlt)).mono ?_; rintro e w2 ⟨rfl, hb2⟩))
    go_ret2
    exact ⟨by rw [goodRet, if_neg (by rw [HV'.out]; decide)]; rfl, hb0to HBW.out (hb0to hb1 hb2)⟩
/-- What Barrel returns: pounds, salt, days, the error. -/
def barrelRet (h : House) (pack : List Int) (b : Int) : Int × Int × Int × Int :=
  if validH h = false then (0, 0, 0, 80) else if (goodB h pack && inR b 0 (h.bs.length - 1)) = false then (0, 0, 0, 1) else
    ((caskOf (packedC h pack) b.toNat).p, saltC h.fl (caskOf (packedC h pack) b.toNat), (caskOf (packedC h pack) b.toNat).d, 0)
set_option maxRecDepth 100000 in
set_option maxHeartbeats 4000000 in
theorem barrel_any (L : HL) (h : House) (hn : h.ks.length ≤ 1000 ∧ h.ps.length ≤ 1000 ∧ h.bs.length ≤ 1000) (pack : List Int) (hl : pack.length ≤ 1000) (b : Int) (A : Option Addr) (c : Nat) (w : World) (hH : HouseAt w w.heap.size L h) (hI : IntsAt w w.heap.size A pack) :
    Calls Tryz.prog 83 #[L.enc h, .slice A pack.length c, .int .i64 b] w fun e w' => e = .returned (.tuple #[.int .i64 (barrelRet h pack b).1, .int .i64 (barrelRet h pack b).2.1, .int .i64 (barrelRet h pack b).2.2.1, .int .i64 (barrelRet h pack b).2.2.2]) ∧ Below w.heap.size w w' := by
  have hbw := (Below.refl _ _).alloc (Nat.le_refl w.heap.size) (.cells #[.slice L.Ak h.ks.length L.ck, .int .i64 h.fl, .slice L.Ap h.ps.length L.cp, .slice L.Ab h.bs.length L.cb] 38)
  have HC := Lib.hid (check_any L h hn _ (hH.below hbw))
  have HB := Lib.hid (HBox.new w L h)
  have HBW := Lib.hid hbw
  have HH := Lib.hid hH
  have HI := Lib.hid hI
  have hIk : ∀ W, Below w.heap.size w W → IntsAt W W.heap.size A pack := fun W hW => HI.out.keep hW.size fun b o hlt => hW.cell (p := ⟨b, o, none⟩) hlt
  have HIK := Lib.hid hIk
  clear hbw hH hI hIk
  cases hv : validH h
  · have hk : ckH h = 80 := ckH_no hv
    have HV := Lib.hid hv
    clear hv
    go_enter Tryz.func83, Tryz.ntmps83
    go_wp2_with (go_at_call 95; refine HC.out.mono ?_; rintro e w1 ⟨rfl, hb1⟩)
    refine bodyPost_ret (v := .tuple #[.int .i64 0, .int .i64 0, .int .i64 0, .int .i64 80]) (by simp [results, Tryz.results83, go_sem]) rfl ⟨by rw [barrelRet, if_pos HV.out], hb0to HBW.out hb1⟩
  · have hk : ckH h = 0 := ckH_yes hv
    have HV := Lib.hid (HOK.ofValid hv)
    have HV' := Lib.hid hv
    clear hv
    cases hg : goodB h pack
    · have HG := Lib.hid hg
      go_enter Tryz.func83, Tryz.ntmps83
      go_wp2_with (first
        | (go_at_call 95; refine HC.out.mono ?_; rintro e w1 ⟨rfl, hb1⟩; obtain ⟨g0, g1, g2, g3⟩ := (HB.out.of (hb1.block _ HB.out.lt)).cells)
        | (go_at_call 96; refine (good_any L h HV.out pack hl A c _ (HH.out.below (hb0to HBW.out hb1)) (HIK.out _ (hb0to HBW.out hb1))).mono ?_; rintro e w2 ⟨rfl, hb2⟩))
      refine bodyPost_ret (v := .tuple #[.int .i64 0, .int .i64 0, .int .i64 0, .int .i64 1]) (by simp [results, Tryz.results83, go_sem]) rfl ⟨by rw [barrelRet, if_neg (by rw [HV'.out]; decide), HG.out]; rfl, hb0to HBW.out (hb0to hb1 hb2)⟩
    · have HG := Lib.hid hg
      have hb1000 := hn.2.2
      cases hr : inR b 0 (h.bs.length - 1)
      · have HR := Lib.hid hr
        go_enter Tryz.func83, Tryz.ntmps83
        go_wp2_with (first
          | (go_at_call 95; refine HC.out.mono ?_; rintro e w1 ⟨rfl, hb1⟩; obtain ⟨g0, g1, g2, g3⟩ := (HB.out.of (hb1.block _ HB.out.lt)).cells)
          | (go_at_call 96; refine (good_any L h HV.out pack hl A c _ (HH.out.below (hb0to HBW.out hb1)) (HIK.out _ (hb0to HBW.out hb1))).mono ?_; rintro e w2 ⟨rfl, hb2⟩; have x0 := below_cell hb2 g0; have x1 := below_cell hb2 g1; have x2 := below_cell hb2 g2; have x3 := below_cell hb2 g3)
          | (go_at_call 97; refine (isBarrel_any L h _ _ hb1000).mono ?_; rintro e w3 ⟨rfl, hb3⟩))
        refine bodyPost_ret (v := .tuple #[.int .i64 0, .int .i64 0, .int .i64 0, .int .i64 1]) (by simp [results, Tryz.results83, go_sem]) rfl ⟨by rw [barrelRet, if_neg (by rw [HV'.out]; decide), HG.out, HR.out]; rfl, hb0to HBW.out (hb0to hb1 (hb0to hb2 hb3))⟩
      · obtain ⟨hb0, hbl⟩ := inR_true.1 hr
        obtain ⟨bn, rfl⟩ : ∃ bn : Nat, b = (bn : Int) := ⟨b.toNat, by omega⟩
        have hb5 : bn < 5 := by have := HV.out.bl; omega
        have HR := Lib.hid hr
        have hl5 := packedC_len h pack
        have hix := index81 hl5 hb5
        have hgl : pack.length = h.ps.length ∧ pack.all (fun b => inR b 0 (h.bs.length - 1)) = true := by
          simp only [goodB, Bool.and_eq_true, decide_eq_true_eq] at hg
          exact ⟨hg.1, hg.2.1⟩
        have HGL := Lib.hid hgl
        have hcok := packedC_ok HV.out pack bn _ (at_caskOf (by omega))
        have HCK := Lib.hid hcok
        have HF0 := Lib.hid (And.intro HV.out.f0 HV.out.f1)
        have hbr : barrelRet h pack bn = ((caskOf (packedC h pack) bn).p, saltC h.fl (caskOf (packedC h pack) bn), (caskOf (packedC h pack) bn).d, 0) := by
          rw [barrelRet, if_neg (by rw [HV'.out]; decide), HG.out, HR.out, if_neg (by decide), Int.toNat_natCast]
        have HBR := Lib.hid hbr
        clear hgl hl5 hcok hbr hb0 hbl
        go_enter Tryz.func83, Tryz.ntmps83
        go_wp2_with (first
          | (go_at_call 95; refine HC.out.mono ?_; rintro e w1 ⟨rfl, hb1⟩; obtain ⟨g0, g1, g2, g3⟩ := (HB.out.of (hb1.block _ HB.out.lt)).cells)
          | (go_at_call 96; refine (good_any L h HV.out pack hl A c _ (HH.out.below (hb0to HBW.out hb1)) (HIK.out _ (hb0to HBW.out hb1))).mono ?_; rintro e w2 ⟨rfl, hb2⟩; have x0 := below_cell hb2 g0; have x1 := below_cell hb2 g1; have x2 := below_cell hb2 g2; have x3 := below_cell hb2 g3)
          | (go_at_call 97; refine (isBarrel_any L h _ _ hb1000).mono ?_; rintro e w3 ⟨rfl, hb3⟩; have y0 := below_cell hb3 x0; have y1 := below_cell hb3 x1; have y2 := below_cell hb3 x2; have y3 := below_cell hb3 x3)
          | (go_at_call 98; refine (packed_of_good L h HV.out pack HGL.out.1 HGL.out.2 A c _ (HH.out.below (hb0to HBW.out (hb0to hb1 (hb0to hb2 hb3)))) (HIK.out _ (hb0to HBW.out (hb0to hb1 (hb0to hb2 hb3))))).mono ?_; rintro e w4 ⟨rfl, hb4⟩))
        have z1 := below_cell hb4 y1
        have hcb : CaskBox (w4.alloc (.cells #[.int .i64 (caskOf (packedC h pack) bn).n, .int .i64 (caskOf (packedC h pack) bn).p, .int .i64 (caskOf (packedC h pack) bn).s, .int .i64 (caskOf (packedC h pack) bn).d] 133)) w4.heap.size (caskOf (packedC h pack) bn) := World.alloc_heap_new w4 _
        obtain ⟨r0, r1, r2, r3⟩ := hcb.at_
        simp only [Nat.zero_add] at r1 r2 r3
        have z2 := below_cell ((Below.refl _ w4).alloc (Nat.le_refl _) (.cells #[.int .i64 (caskOf (packedC h pack) bn).n, .int .i64 (caskOf (packedC h pack) bn).p, .int .i64 (caskOf (packedC h pack) bn).s, .int .i64 (caskOf (packedC h pack) bn).d] 133)) z1
        have hbz := hb0to HBW.out (hb0to hb1 (hb0to hb2 (hb0to hb3 (hb0to hb4 ((Below.refl _ w4).alloc (Nat.le_refl _) (.cells #[.int .i64 (caskOf (packedC h pack) bn).n, .int .i64 (caskOf (packedC h pack) bn).p, .int .i64 (caskOf (packedC h pack) bn).s, .int .i64 (caskOf (packedC h pack) bn).d] 133))))))
        obtain ⟨W5, hW5⟩ : ∃ W5, w4.alloc (.cells #[.int .i64 (caskOf (packedC h pack) bn).n, .int .i64 (caskOf (packedC h pack) bn).p, .int .i64 (caskOf (packedC h pack) bn).s, .int .i64 (caskOf (packedC h pack) bn).d] 133) = W5 := ⟨_, rfl⟩
        rw [hW5] at r0 r1 r2 r3 z2 hbz ⊢
        have e0 := extB_cell r0
        have e1 := extB_cell r1
        have e2 := extB_cell r2
        have e3 := extB_cell r3
        have e4 := extB_cell z2
        clear hW5 hcb r0 r1 r2 r3 z1 z2 y0 y1 y2 y3 x0 x1 x2 x3 g0 g1 g2 g3
        refine wp_region_extW (by kernel_rfl) (by kernel_rfl) ?_
        repeat (go_big_quiet_step ((go_at_call 99; exact ext_call (saltC_any _ h.fl HCK.out HF0.out _))))
        refine wpQuiet_nil ?_
        rintro _ ⟨x1, rfl⟩
        have hb8 := extB_below W5 x1
        clear e0 e1 e2 e3 e4
        go_wp2
        refine bodyPost_ret (v := .tuple #[.int .i64 (caskOf (packedC h pack) bn).p, .int .i64 (saltC h.fl (caskOf (packedC h pack) bn)), .int .i64 (caskOf (packedC h pack) bn).d, .int .i64 0]) (by simp [results, Tryz.results83, go_sem]) rfl ⟨by rw [HBR.out], hb0to hbz hb8⟩
end Go.Proofs.YtmbcpmnigggbaabGreat
