import Derived.WalkKit
import Derived.WalkSpells
import Derived.BigQuiet
import Derived.BigRegion
import Derived.Below
import Derived.Lib.Hide
import Derived.TacticsInMore
import Derived.LoopNIn
import Derived.LoopIn
import Derived.OwnWalk
import Derived.OwnWalkIn
import Derived.Test.YtmbcpmnigggbaaaProg
import Derived.Test.YtmbcpmnigggbaaaR2
import Derived.Deep.RegionHeld3
import Derived.Deep.RegionWith
import Derived.Deep.MidRow
import Derived.KernelRfl
import Derived.Deep.DeepMust
namespace Go.Proofs.Ytmbcpmnigggbaaa
open Go.RowKit

/-! A region that draws its order, whose operations read and whose calls make memory of their own: walked once, in the order of the text. -/
open Classical in
/-- The world x, if it lies over w; else w itself. -/
noncomputable def extB (w x : World) : World := if Below w.heap.size w x then x else w
theorem extB_below (w x : World) : Below w.heap.size w (extB w x) := by
  unfold extB
  split
  · assumption
  · exact Below.refl _ _
theorem extB_of {w W : World} (h : Below w.heap.size w W) : ∃ x, W = extB w x := ⟨W, by unfold extB; rw [if_pos h]⟩
theorem cell_lt {w : World} {a : Addr} {v : Value} (h : w.cell? a = some v) : a.block < w.heap.size := by
  unfold World.cell? at h
  split at h
  · rename_i hh
    exact (Array.getElem?_eq_some_iff.1 hh).1
  · cases h
theorem extB_cell {w : World} {a : Addr} {v : Value} (h : w.cell? a = some v) : ∀ x, (extB w x).cell? a = some v := fun x => ((extB_below w x).cell (cell_lt h)).trans h
theorem below_cell {w W : World} (hb : Below w.heap.size w W) {a : Addr} {v : Value} (h : w.cell? a = some v) : W.cell? a = some v := (hb.cell (cell_lt h)).trans h
theorem wp_region_ext {P : Program} {id : Nat} {Q : Exit → Act → World → Prop} {a : Act} {w : World} {l : List Oper} (hm : P.follows .mixedOrders = true) (hB : Region.lexB .any l.toArray = true)
    (h : wpQuiet P l.toArray (fun w' => ∃ x, w' = extB w x) (fun a' => ∀ w', (∃ x, w' = extB w x) → Q .normal a' w') l a) : (Code.region id l.toArray true).wp P Q a w :=
  wp_region_quiet (C := fun w' => ∃ x, w' = extB w x) hm hB (extB_of (Below.refl _ w).drew) (by simpa using h)
theorem ext_call {P : Program} {f : FuncId} {args : Array Value} {w x : World} {v : Value} (h : Calls P f args (extB w x) fun e w' => e = .returned v ∧ Below (extB w x).heap.size (extB w x) w') :
    Calls P f args (extB w x) fun e w'' => e = .returned v ∧ ∃ y, w'' = extB w y :=
  h.mono fun _ _ ⟨he, hb⟩ => ⟨he, extB_of ((extB_below w x).trans (hb.mono (extB_below w x).size))⟩
theorem ext_same {P : Program} {f : FuncId} {args : Array Value} {w x : World} {v : Value} (h : Calls P f args (extB w x) fun e w' => e = .returned v ∧ extB w x = w') :
    Calls P f args (extB w x) fun e w'' => e = .returned v ∧ ∃ y, w'' = extB w y :=
  h.mono fun _ _ ⟨he, hb⟩ => ⟨he, x, hb.symm⟩

/-- n lies from lo to hi. -/
def inR (n lo hi : Int) : Bool := decide (lo ≤ n) && decide (n ≤ hi)
theorem inR_true {n lo hi : Int} : inR n lo hi = true ↔ lo ≤ n ∧ n ≤ hi := by simp [inR]
theorem inR_false {n lo hi : Int} : inR n lo hi = false ↔ ¬ (lo ≤ n ∧ n ≤ hi) := by rw [← inR_true]; simp

theorem addr_add (b o j : Nat) : (⟨b, o, none⟩ : Addr).add j = ⟨b, o + j, none⟩ := by
  cases j with
  | zero => rfl
  | succ j => simp [Addr.add]

/-- The slice at A holds the numbers l. -/
def IntsAt (W : World) (B : Nat) (A : Option Addr) (l : List Int) : Prop :=
  l = [] ∨ ∃ b off, A = some ⟨b, off, none⟩ ∧ b < B ∧ ∀ i x, l[i]? = some x → W.cell? ⟨b, off + i, none⟩ = some (.int .i64 x)
theorem IntsAt.keep {W W' : World} {B B' : Nat} {A : Option Addr} {l : List Int} (h : IntsAt W B A l) (hB : B ≤ B') (hk : ∀ b o, b < B → W'.cell? ⟨b, o, none⟩ = W.cell? ⟨b, o, none⟩) : IntsAt W' B' A l := by
  rcases h with h | ⟨b, off, hA, hb, hc⟩
  · exact .inl h
  · exact .inr ⟨b, off, hA, by omega, fun i x hx => by rw [hk _ _ hb]; exact hc i x hx⟩
theorem IntsAt.at_ {W : World} {B : Nat} {A : Option Addr} {l : List Int} (h : IntsAt W B A l) {k : Nat} {x : Int} (hx : l[k]? = some x) : ∃ b off, A = some ⟨b, off, none⟩ ∧ b < B ∧ W.cell? ⟨b, off + k, none⟩ = some (.int .i64 x) := by
  rcases h with h | ⟨b, off, hA, hb, hc⟩
  · subst h; simp at hx
  · exact ⟨b, off, hA, hb, hc k x hx⟩
/-- The slice at A holds the pairs l (kinds, parts). -/
def PairsAt (W : World) (B : Nat) (A : Option Addr) (l : List (Int × Int)) : Prop :=
  l = [] ∨ ∃ b off, A = some ⟨b, off, none⟩ ∧ b < B ∧ ∀ i x, l[i]? = some x → W.cell? ⟨b, off + i * 2, none⟩ = some (.int .i64 x.1) ∧ W.cell? ⟨b, off + i * 2 + 1, none⟩ = some (.int .i64 x.2)
theorem PairsAt.keep {W W' : World} {B B' : Nat} {A : Option Addr} {l : List (Int × Int)} (h : PairsAt W B A l) (hB : B ≤ B') (hk : ∀ b o, b < B → W'.cell? ⟨b, o, none⟩ = W.cell? ⟨b, o, none⟩) : PairsAt W' B' A l := by
  rcases h with h | ⟨b, off, hA, hb, hc⟩
  · exact .inl h
  · exact .inr ⟨b, off, hA, by omega, fun i x hx => by rw [hk _ _ hb, hk _ _ hb]; exact hc i x hx⟩
theorem PairsAt.at_ {W : World} {B : Nat} {A : Option Addr} {l : List (Int × Int)} (h : PairsAt W B A l) {k : Nat} {x : Int × Int} (hx : l[k]? = some x) : ∃ b off, A = some ⟨b, off, none⟩ ∧ b < B ∧
    W.cell? ⟨b, off + k * 2, none⟩ = some (.int .i64 x.1) ∧ W.cell? ⟨b, off + k * 2 + 1, none⟩ = some (.int .i64 x.2) := by
  rcases h with h | ⟨b, off, hA, hb, hc⟩
  · subst h; simp at hx
  · exact ⟨b, off, hA, hb, hc k x hx⟩

/-- A house: kinds (Salt, Days), the floor's salt, parts (Kind, Pounds), barrels. -/
structure House where
  ks : List (Int × Int)
  fl : Int
  ps : List (Int × Int)
  bs : List Int

/-- Where the slices of a house lie. -/
structure HL where
  Ak : Option Addr
  ck : Nat
  Ap : Option Addr
  cp : Nat
  Ab : Option Addr
  cb : Nat

abbrev HL.enc (L : HL) (h : House) : Value := .agg #[.slice L.Ak h.ks.length L.ck, .int .i64 h.fl, .slice L.Ap h.ps.length L.cp, .slice L.Ab h.bs.length L.cb]
structure HouseAt (W : World) (B : Nat) (L : HL) (h : House) : Prop where
  k : PairsAt W B L.Ak h.ks
  p : PairsAt W B L.Ap h.ps
  b : IntsAt W B L.Ab h.bs
theorem HouseAt.keep {W W' : World} {B B' : Nat} {L : HL} {h : House} (hh : HouseAt W B L h) (hB : B ≤ B') (hk : ∀ b o, b < B → W'.cell? ⟨b, o, none⟩ = W.cell? ⟨b, o, none⟩) : HouseAt W' B' L h :=
  ⟨hh.k.keep hB hk, hh.p.keep hB hk, hh.b.keep hB hk⟩
theorem HouseAt.below {W W' : World} {L : HL} {h : House} (hh : HouseAt W W.heap.size L h) (hb : Below W.heap.size W W') : HouseAt W' W'.heap.size L h :=
  hh.keep hb.size fun _ _ hlt => hb.cell (p := ⟨_, _, none⟩) hlt

/-- A house that is valid. -/
def kindOK (x : Int × Int) : Bool := inR x.1 0 9 && inR x.2 0 20
def partOK (nk : Nat) (x : Int × Int) : Bool := inR x.1 0 (nk - 1) && inR x.2 0 40
def bigOK (h : House) : Bool := decide (h.ks.length ≤ 3) && (inR h.fl 0 9 && (decide (h.ps.length ≤ 6) && decide (h.bs.length ≤ 4)))
def validH (h : House) : Bool := bigOK h && (h.ks.all kindOK && (h.ps.all (partOK h.ks.length) && h.bs.all fun b => inR b 0 99))
def ckH (h : House) : Int := if validH h then 0 else 80

/-- What is in a barrel: how many parts, pounds, the greatest Salt, the greatest Days. -/
structure Cask where
  n : Int
  p : Int
  s : Int
  d : Int
abbrev Cask.enc (c : Cask) : Value := .agg #[.int .i64 c.n, .int .i64 c.p, .int .i64 c.s, .int .i64 c.d]
def c0 : Cask := ⟨0, 0, 0, 0⟩
def layC (c : Cask) (k p : Int × Int) : Cask := ⟨c.n + 1, c.p + p.2, max c.s k.1, max c.d k.2⟩
def saltC (fl : Int) (c : Cask) : Int := if c.n = 0 then 0 else fl + (c.p * c.s + 9) / 10
/-- Bounds that no arithmetic on a cask leaves. -/
structure Cask.ok (c : Cask) : Prop where
  n0 : 0 ≤ c.n
  n1 : c.n ≤ 100
  p0 : 0 ≤ c.p
  p1 : c.p ≤ 10000
  s0 : 0 ≤ c.s
  s1 : c.s ≤ 9
  d0 : 0 ≤ c.d
  d1 : c.d ≤ 20
open Go.RowKit

theorem between_any (n lo hi : Int) (w : World) : Calls Try.prog 171 #[.int .i64 n, .int .i64 lo, .int .i64 hi] w fun e w' => e = .returned (.bool (inR n lo hi)) ∧ w = w' := by
  by_cases h : lo ≤ n <;> by_cases h2 : n ≤ hi
  all_goals
    have e : inR n lo hi = (decide (lo ≤ n) && decide (n ≤ hi)) := rfl
    have E := Lib.hid e
    clear e
    go_enter Try.func171, Try.ntmps171
    go_wp2
    go_ret
    exact ⟨by rw [E.out]; simp <;> omega, rfl⟩

theorem saltC_any (c : Cask) (fl : Int) (hc : c.ok) (hf : 0 ≤ fl ∧ fl ≤ 9) (w : World) : Calls Try.prog 129 #[c.enc, .int .i64 fl] w fun e w' => e = .returned (.int .i64 (saltC fl c)) ∧ Below w.heap.size w w' := by
  obtain ⟨n, p, s, d⟩ := c
  obtain ⟨hn0, hn1, hp0, hp1, hs0, hs1, hd0, hd1⟩ := hc
  simp only at hn0 hn1 hp0 hp1 hs0 hs1 hd0 hd1
  have hps : 0 ≤ p * s := Int.mul_nonneg hp0 hs0
  have hps2 : p * s ≤ 10000 * 9 := Int.mul_le_mul hp1 hs1 hs0 (by omega)
  by_cases h0 : n = 0
  · have hd : (n == 0) = true := by simpa using h0
    have H0 := Lib.hid h0
    clear h0
    go_enter Try.func129, Try.ntmps129
    go_wp2
    go_ret
    exact ⟨by simp [saltC, H0.out], (Below.refl _ _).alloc (Nat.le_refl _) _⟩
  · have hd : (n == 0) = false := by simpa using h0
    have H0 := Lib.hid h0
    clear h0
    go_enter Try.func129, Try.ntmps129
    go_wp2
    go_ret
    exact ⟨by simp [saltC, H0.out], (Below.refl _ _).alloc (Nat.le_refl _) _⟩
open Go.RowKit

/-- The cask at the cells from o on of block b. -/
structure CaskAt (W : World) (b o : Nat) (c : Cask) : Prop where
  n : W.cell? ⟨b, o, none⟩ = some (.int .i64 c.n)
  p : W.cell? ⟨b, o + 1, none⟩ = some (.int .i64 c.p)
  s : W.cell? ⟨b, o + 2, none⟩ = some (.int .i64 c.s)
  d : W.cell? ⟨b, o + 3, none⟩ = some (.int .i64 c.d)

theorem heap_set {W : World} {b o : Nat} {arr : Array Value} {t : TypeId} (v : Value) (h : W.heap[b]? = some (.cells arr t (0, 0))) : (W.setCell ⟨b, o, none⟩ v).heap[b]? = some (.cells (arr.setIfInBounds o v) t (0, 0)) := by
  obtain ⟨hlt, e⟩ := Array.getElem?_eq_some_iff.1 h
  have : (W.setCell ⟨b, o, none⟩ v).heap[b]? = some ((W.setCell ⟨b, o, none⟩ v).heap[b]'(by simp [World.setCell]; exact hlt)) := Array.getElem?_eq_getElem _
  rw [this]
  simp only [World.setCell]
  rw [Array.getElem_modify_self, e]
  rfl

theorem lay_end (w W1 W2 : World) (arr : Array Value) (t : TypeId) (b o : Nat) (c : Cask) (k p : Int × Int) (o1 o2 o3 : Obj) (s' d' : Int)
    (hb : w.heap[b]? = some (.cells arr t (0, 0))) (h1 : W1 = (((w.setCell ⟨b, o, none⟩ (.int .i64 (c.n + 1))).alloc o1).alloc o2).alloc o3) (h2 : W2 = (W1.setCell ⟨b, o + 1, none⟩ (.int .i64 (c.p + p.2))).drew)
    (hs : s' = (layC c k p).s) (hd : d' = (layC c k p).d) :
    KpB (fun k => k = b) w.heap.size w ((W2.setCell ⟨b, o + 2, none⟩ (.int .i64 s')).setCell ⟨b, o + 3, none⟩ (.int .i64 d')).drew ∧
      ((W2.setCell ⟨b, o + 2, none⟩ (.int .i64 s')).setCell ⟨b, o + 3, none⟩ (.int .i64 d')).drew.heap[b]? = some (.cells ((((arr.setIfInBounds o (.int .i64 (layC c k p).n)).setIfInBounds (o + 1) (.int .i64 (layC c k p).p)).setIfInBounds (o + 2) (.int .i64 (layC c k p).s)).setIfInBounds (o + 3) (.int .i64 (layC c k p).d)) t (0, 0)) := by
  subst hs hd
  have hbl : b < w.heap.size := (Array.getElem?_eq_some_iff.1 hb).1
  have k0 : KpB (fun k => k = b) w.heap.size w (w.setCell ⟨b, o, none⟩ (.int .i64 (c.n + 1))) := (KpB.refl _ _ _).set _ _ (.inl rfl)
  have g0 := heap_set (o := o) (.int .i64 (c.n + 1)) hb
  have b1 : Below w.heap.size (w.setCell ⟨b, o, none⟩ (.int .i64 (c.n + 1))) W1 := by
    rw [h1]; exact (((Below.refl _ _).alloc (by simp [World.setCell]) _).alloc (by simp [World.setCell] <;> omega) _).alloc (by simp [World.setCell] <;> omega) _
  have k1 : KpB (fun k => k = b) w.heap.size w W1 := k0.trans (kpB_of_below b1)
  have g1 : W1.heap[b]? = _ := (b1.block b hbl).trans g0
  have g2 := heap_set (o := o + 1) (.int .i64 (c.p + p.2)) g1
  have k2 : KpB (fun k => k = b) w.heap.size w (W1.setCell ⟨b, o + 1, none⟩ (.int .i64 (c.p + p.2))) := k1.set _ _ (.inl rfl)
  have k3 : KpB (fun k => k = b) w.heap.size w W2 := by rw [h2]; exact ⟨k2.os, k2.tape, k2.output, k2.size, k2.block⟩
  have e3 : W2.heap = (W1.setCell ⟨b, o + 1, none⟩ (.int .i64 (c.p + p.2))).heap := by rw [h2]; rfl
  have g3 := g2
  rw [← e3] at g3
  have k4 := (k3.set (o + 2) (.int .i64 (layC c k p).s) (.inl rfl)).set (o + 3) (.int .i64 (layC c k p).d) (.inl rfl)
  exact ⟨⟨k4.os, k4.tape, k4.output, k4.size, k4.block⟩, heap_set _ (heap_set _ g3)⟩

set_option maxRecDepth 100000 in
set_option maxHeartbeats 4000000 in
theorem lay_any (L : HL) (hs : House) (i kk : Nat) (k p : Int × Int) (c : Cask) (hc : c.ok) (b o : Nat) (w : World) (arr : Array Value) (t : TypeId)
    (hH : HouseAt w w.heap.size L hs) (hp : hs.ps[i]? = some p) (hkk : p.1 = (kk : Int)) (hk : hs.ks[kk]? = some k) (hpb : 0 ≤ p.2 ∧ p.2 ≤ 40) (hkb : 0 ≤ k.1 ∧ k.1 ≤ 9 ∧ 0 ≤ k.2 ∧ k.2 ≤ 20) (_hi : hs.ps.length ≤ 40 ∧ hs.ks.length ≤ 40)
    (hb : w.heap[b]? = some (.cells arr t (0, 0))) (hC : CaskAt w b o c) :
    Calls Try.prog 197 #[.pointer (some ⟨b, o, none⟩), L.enc hs, .int .i64 i] w fun e w' => (∃ v, e = .returned v) ∧
      KpB (fun k => k = b) w.heap.size w w' ∧ w'.heap[b]? = some (.cells ((((arr.setIfInBounds o (.int .i64 (layC c k p).n)).setIfInBounds (o + 1) (.int .i64 (layC c k p).p)).setIfInBounds (o + 2) (.int .i64 (layC c k p).s)).setIfInBounds (o + 3) (.int .i64 (layC c k p).d)) t (0, 0)) := by
  obtain ⟨Ak, ck, Ap, cp, Ab, cb⟩ := L
  obtain ⟨n0, n1, p0, p1, s0, s1, d0, d1⟩ := hc
  obtain ⟨cn, cp', cs, cd⟩ := hC
  obtain ⟨bp, op, e1, hbp, q1, q2⟩ := hH.p.at_ hp
  obtain ⟨bk, ok, e2, hbk, r1, r2⟩ := hH.k.at_ hk
  simp only at e1 e2
  subst e1 e2
  obtain ⟨pk, pp⟩ := p
  obtain ⟨kS, kD⟩ := k
  simp only at hkk hpb hkb q1 q2 r1 r2
  subst hkk
  have hi1 : i < hs.ps.length := (List.getElem?_eq_some_iff.1 hp).1
  have hi2 : kk < hs.ks.length := (List.getElem?_eq_some_iff.1 hk).1
  have fr : ∀ o, w.frozen? ⟨b, o, none⟩ = false := fun o => by simp [World.frozen?, hb]
  have hbl : b < w.heap.size := (Array.getElem?_eq_some_iff.1 hb).1
  have hb1 : b < w.heap.size + 1 := by omega
  have hb2 : b < w.heap.size + 1 + 1 := by omega
  have hn0 : ¬ b = w.heap.size := by omega
  have hn1 : ¬ b = w.heap.size + 1 := by omega
  have hn2 : ¬ b = w.heap.size + 1 + 1 := by omega
  clear hH hp hk
  have HB := Lib.hid hb
  clear hb
  go_enter Try.func197, Try.ntmps197
  go_wp2
  obtain ⟨W1, hW1⟩ : ∃ W1, W1 = ((((w.setCell ⟨b, o, none⟩ (.int .i64 (c.n + 1))).alloc (.cells #[.slice (some ⟨bk, ok, none⟩) hs.ks.length ck, .int .i64 hs.fl, .slice (some ⟨bp, op, none⟩) hs.ps.length cp, .slice Ab hs.bs.length cb] 27)).alloc (.cells #[.int .i64 kk, .int .i64 pp] 97)).alloc (.cells #[.int .i64 kS, .int .i64 kD] 95)) := ⟨_, rfl⟩
  have f1 : W1.cell? ⟨b, o + 1, none⟩ = some (.int .i64 c.p) := by rw [hW1]; clear hW1; simp [go_sem, *]
  have f2 : W1.cell? ⟨b, o + 2, none⟩ = some (.int .i64 c.s) := by rw [hW1]; clear hW1; simp [go_sem, *]
  have f3 : W1.cell? ⟨b, o + 3, none⟩ = some (.int .i64 c.d) := by rw [hW1]; clear hW1; simp [go_sem, *]
  have g1 : W1.cell? ⟨w.heap.size + 1, 1, none⟩ = some (.int .i64 pp) := by rw [hW1]; clear hW1; simp [go_sem, *]
  have g2 : W1.cell? ⟨w.heap.size + 1 + 1, 0, none⟩ = some (.int .i64 kS) := by rw [hW1]; clear hW1; simp [go_sem, *]
  have g3 : W1.cell? ⟨w.heap.size + 1 + 1, 1, none⟩ = some (.int .i64 kD) := by rw [hW1]; clear hW1; simp [go_sem, *]
  have fr1 : ∀ o, W1.frozen? ⟨b, o, none⟩ = false := fun o => by rw [hW1]; clear hW1; simp [go_sem, *]
  have HW := Lib.hid hW1
  rw [← hW1]
  clear hW1
  go_region
  go_wp2
  obtain ⟨W2, hW2⟩ : ∃ W2, W2 = (W1.setCell ⟨b, o + 1, none⟩ (.int .i64 (c.p + pp))).drew := ⟨_, rfl⟩
  have h2 : W2.cell? ⟨b, o + 2, none⟩ = some (.int .i64 c.s) := by rw [hW2]; clear hW2; simp [go_sem, *]
  have h3 : W2.cell? ⟨b, o + 3, none⟩ = some (.int .i64 c.d) := by rw [hW2]; clear hW2; simp [go_sem, *]
  have k2 : W2.cell? ⟨w.heap.size + 1 + 1, 0, none⟩ = some (.int .i64 kS) := by rw [hW2]; clear hW2; simp [go_sem, *]
  have k3 : W2.cell? ⟨w.heap.size + 1 + 1, 1, none⟩ = some (.int .i64 kD) := by rw [hW2]; clear hW2; simp [go_sem, *]
  have fr2 : ∀ o, W2.frozen? ⟨b, o, none⟩ = false := fun o => by rw [hW2]; clear hW2; simp [go_sem, *]
  have HV := Lib.hid hW2
  rw [← hW2]
  clear hW2
  go_region
  all_goals go_wp2
  all_goals
    go_end0
    exact ⟨⟨_, rfl⟩, lay_end w W1 W2 arr t b o c (kS, kD) (kk, pp) _ _ _ _ _ HB.out HW.out HV.out (by simp [layC] <;> omega) (by simp [layC] <;> omega)⟩
open Go.RowKit

/-- A house whose numbers are in their bounds. -/
structure HOK (h : House) : Prop where
  kl : h.ks.length ≤ 3
  f0 : 0 ≤ h.fl
  f1 : h.fl ≤ 9
  pl : h.ps.length ≤ 6
  bl : h.bs.length ≤ 4
  k : ∀ (i : Nat) (x : Int × Int), h.ks[i]? = some x → 0 ≤ x.1 ∧ x.1 ≤ 9 ∧ 0 ≤ x.2 ∧ x.2 ≤ 20
  p : ∀ (i : Nat) (x : Int × Int), h.ps[i]? = some x → 0 ≤ x.1 ∧ x.1 < h.ks.length ∧ 0 ≤ x.2 ∧ x.2 ≤ 40
  b : ∀ (i : Nat) (x : Int), h.bs[i]? = some x → 0 ≤ x ∧ x ≤ 99

def flatC : List Cask → List Value
  | [] => []
  | c :: l => .int .i64 c.n :: .int .i64 c.p :: .int .i64 c.s :: .int .i64 c.d :: flatC l
theorem flatC_len : ∀ l, (flatC l).length = l.length * 4
  | [] => rfl
  | c :: l => by simp only [flatC, List.length_cons, flatC_len l]; omega
theorem flatC_at : ∀ (l : List Cask) (j : Nat) (c : Cask), l[j]? = some c → (flatC l)[j * 4]? = some (.int .i64 c.n) ∧ (flatC l)[j * 4 + 1]? = some (.int .i64 c.p) ∧ (flatC l)[j * 4 + 2]? = some (.int .i64 c.s) ∧ (flatC l)[j * 4 + 3]? = some (.int .i64 c.d)
  | [], j, c, h => by simp at h
  | x :: l, 0, c, h => by simp at h; subst h; exact ⟨rfl, rfl, rfl, rfl⟩
  | x :: l, j + 1, c, h => by
    have := flatC_at l j c (by simpa using h)
    have e : (j + 1) * 4 = j * 4 + 1 + 1 + 1 + 1 := by omega
    rw [e]
    simp only [flatC, List.getElem?_cons_succ]
    exact this
theorem flatC_set : ∀ (l : List Cask) (j : Nat) (c : Cask), ((((flatC l).set (j * 4) (.int .i64 c.n)).set (j * 4 + 1) (.int .i64 c.p)).set (j * 4 + 2) (.int .i64 c.s)).set (j * 4 + 3) (.int .i64 c.d) = flatC (l.set j c)
  | [], j, c => by simp [flatC]
  | x :: l, 0, c => rfl
  | x :: l, j + 1, c => by
    have := flatC_set l j c
    have e : (j + 1) * 4 = j * 4 + 1 + 1 + 1 + 1 := by omega
    rw [e]
    simp only [flatC, List.set_cons_succ]
    rw [this]

/-- All casks of a house, in the block cb. -/
def CasksAt (W : World) (cb : Nat) (l : List Cask) : Prop := W.heap[cb]? = some (.cells (flatC l).toArray 169 (0, 0))
theorem CasksAt.at_ {W : World} {cb : Nat} {l : List Cask} (h : CasksAt W cb l) {j : Nat} {c : Cask} (hj : l[j]? = some c) : CaskAt W cb (j * 4) c := by
  obtain ⟨h1, h2, h3, h4⟩ := flatC_at l j c hj
  have h : W.heap[cb]? = some (.cells (flatC l).toArray 169 (0, 0)) := h
  exact ⟨by simp [World.cell?, h, h1], by simp [World.cell?, h, h2], by simp [World.cell?, h, h3], by simp [World.cell?, h, h4]⟩

def barrelOf (pack : List Int) (k : Nat) : Int := pack.getD k (-1)
def partOf (h : House) (k : Nat) : Int × Int := h.ps.getD k (0, 0)
def kindOf (h : House) (p : Int × Int) : Int × Int := h.ks.getD p.1.toNat (0, 0)
/-- The casks behind the first k parts. -/
def casksTo (h : House) (pack : List Int) : Nat → List Cask
  | 0 => [c0, c0, c0, c0, c0]
  | k + 1 => if barrelOf pack k = -1 then casksTo h pack k else
    (casksTo h pack k).set (barrelOf pack k).toNat (layC ((casksTo h pack k).getD (barrelOf pack k).toNat c0) (kindOf h (partOf h k)) (partOf h k))
theorem casksTo_len (h : House) (pack : List Int) : ∀ k, (casksTo h pack k).length = 5
  | 0 => rfl
  | k + 1 => by
    unfold casksTo
    split
    · exact casksTo_len h pack k
    · rw [List.length_set]; exact casksTo_len h pack k

theorem HOK.part {h : House} (hv : HOK h) {k : Nat} (hk : k < h.ps.length) : ∃ kk : Nat, h.ps[k]? = some (partOf h k) ∧ (partOf h k).1 = (kk : Int) ∧ h.ks[kk]? = some (kindOf h (partOf h k)) ∧ (0 ≤ (partOf h k).2 ∧ (partOf h k).2 ≤ 40) ∧
    0 ≤ (kindOf h (partOf h k)).1 ∧ (kindOf h (partOf h k)).1 ≤ 9 ∧ 0 ≤ (kindOf h (partOf h k)).2 ∧ (kindOf h (partOf h k)).2 ≤ 20 := by
  have e : h.ps[k]? = some (partOf h k) := by simp [partOf, List.getD, List.getElem?_eq_getElem hk]
  obtain ⟨p0, p1, p2, p3⟩ := hv.p k _ e
  obtain ⟨kk, hkk⟩ := Int.eq_ofNat_of_zero_le p0
  have hkk : (partOf h k).1 = (kk : Int) := hkk
  have hlt : kk < h.ks.length := by omega
  have e2 : h.ks[kk]? = some (kindOf h (partOf h k)) := by
    simp [kindOf, hkk, List.getD, List.getElem?_eq_getElem hlt]
  exact ⟨kk, e, hkk, e2, ⟨p2, p3⟩, hv.k kk _ e2⟩

/-- Bounds of a cask with at most k parts. -/
structure Cask.upto (c : Cask) (k : Nat) : Prop where
  n0 : 0 ≤ c.n
  n1 : c.n ≤ k
  p0 : 0 ≤ c.p
  p1 : c.p ≤ 40 * k
  s0 : 0 ≤ c.s
  s1 : c.s ≤ 9
  d0 : 0 ≤ c.d
  d1 : c.d ≤ 20
theorem Cask.upto.ok {c : Cask} {k : Nat} (h : c.upto k) (hk : k ≤ 100) : c.ok := ⟨h.n0, by have := h.n1; omega, h.p0, by have := h.p1; omega, h.s0, h.s1, h.d0, h.d1⟩
theorem casksTo_upto {h : House} (hv : HOK h) (pack : List Int) : ∀ k, k ≤ h.ps.length → ∀ (j : Nat) (c : Cask), (casksTo h pack k)[j]? = some c → c.upto k
  | 0, _, j, c, hc => by
    have : c = c0 := by
      simp only [casksTo] at hc
      have := List.mem_of_getElem? hc
      simpa using this
    subst this
    exact ⟨by decide, by decide, by decide, by decide, by decide, by decide, by decide, by decide⟩
  | k + 1, hk, j, c, hc => by
    have ih := casksTo_upto hv pack k (by omega)
    have up : ∀ {c : Cask}, c.upto k → c.upto (k + 1) := fun h => ⟨h.n0, by have := h.n1; omega, h.p0, by have := h.p1; omega, h.s0, h.s1, h.d0, h.d1⟩
    unfold casksTo at hc
    split at hc
    · exact up (ih j c hc)
    · rw [List.getElem?_set] at hc
      split at hc
      · split at hc
        · obtain rfl := Option.some.inj hc
          rename_i hlt
          have hb := ih (barrelOf pack k).toNat ((casksTo h pack k).getD (barrelOf pack k).toNat c0) (by simp [List.getD, List.getElem?_eq_getElem hlt])
          obtain ⟨kk, -, -, -, ⟨p2, p3⟩, k0, k1, k2, k3⟩ := hv.part (k := k) (by omega)
          obtain ⟨n0, n1, p0, p1, s0, s1, d0, d1⟩ := hb
          exact ⟨by simp only [layC]; omega, by simp only [layC]; omega, by simp only [layC]; omega, by simp only [layC]; omega, by simp only [layC]; omega, by simp only [layC]; omega, by simp only [layC]; omega, by simp only [layC]; omega⟩
        · cases hc
      · exact up (ih j c hc)
/-- All casks of a packing. -/
def packedC (h : House) (pack : List Int) : List Cask := casksTo h pack h.ps.length
def encCs (l : List Cask) : Value := .agg (flatC l).toArray
open Go.RowKit

/-- The box of a house. -/
def HBox (W : World) (b : Nat) (L : HL) (h : House) : Prop := W.heap[b]? = some (.cells #[.slice L.Ak h.ks.length L.ck, .int .i64 h.fl, .slice L.Ap h.ps.length L.cp, .slice L.Ab h.bs.length L.cb] 27 (0, 0))
theorem HBox.cells {W : World} {b : Nat} {L : HL} {h : House} (hb : HBox W b L h) : W.cell? ⟨b, 0, none⟩ = some (.slice L.Ak h.ks.length L.ck) ∧ W.cell? ⟨b, 1, none⟩ = some (.int .i64 h.fl) ∧ W.cell? ⟨b, 2, none⟩ = some (.slice L.Ap h.ps.length L.cp) ∧ W.cell? ⟨b, 3, none⟩ = some (.slice L.Ab h.bs.length L.cb) := by
  simp [World.cell?, show W.heap[b]? = _ from hb]
theorem HBox.new (W : World) (L : HL) (h : House) : HBox (W.alloc (.cells #[.slice L.Ak h.ks.length L.ck, .int .i64 h.fl, .slice L.Ap h.ps.length L.cp, .slice L.Ab h.bs.length L.cb] 27)) W.heap.size L h := World.alloc_heap_new W _
theorem HBox.lt {W : World} {b : Nat} {L : HL} {h : House} (hb : HBox W b L h) : b < W.heap.size := (Array.getElem?_eq_some_iff.1 hb).1
theorem HBox.of {W W' : World} {b : Nat} {L : HL} {h : House} (hb : HBox W b L h) (e : W'.heap[b]? = W.heap[b]?) : HBox W' b L h := e.trans hb

theorem HouseAt.drew {W : World} {B : Nat} {L : HL} {h : House} (hh : HouseAt W B L h) : HouseAt W.drew B L h := ⟨hh.k, hh.p, hh.b⟩
theorem CaskAt.drew {W : World} {b o : Nat} {c : Cask} (h : CaskAt W b o c) : CaskAt W.drew b o c := ⟨h.n, h.p, h.s, h.d⟩
theorem setIf_same {c : Array Value} {o : Nat} {v : Value} (h : c[o]? = some v) : c.setIfInBounds o v = c := by
  obtain ⟨hlt, e⟩ := Array.getElem?_eq_some_iff.1 h
  apply Array.ext
  · simp
  · intro i h1 h2
    rw [Array.getElem_setIfInBounds]
    split
    · rename_i ei; subst ei; exact e.symm
    · rfl
theorem set_same {W : World} {b o : Nat} {v : Value} (h : W.cell? ⟨b, o, none⟩ = some v) : W.setCell ⟨b, o, none⟩ v = W := by
  unfold World.cell? at h
  cases hb : W.heap[b]? with
  | none => simp [hb] at h
  | some ob =>
    obtain ⟨hlt, e⟩ := Array.getElem?_eq_some_iff.1 hb
    have hh : (W.setCell ⟨b, o, none⟩ v).heap = W.heap := by
      apply Array.ext
      · simp [World.setCell]
      · intro i h1 h2
        simp only [World.setCell]
        by_cases ei : i = b
        · subst ei
          rw [Array.getElem_modify_self, e]
          cases ob <;> simp_all [setIf_same]
        · rw [Array.getElem_modify_of_ne (Ne.symm ei)]
    show ({ W with heap := (W.setCell ⟨b, o, none⟩ v).heap } : World) = W
    rw [hh]

theorem casks_set {W : World} {cb : Nat} {l : List Cask} {j : Nat} {c : Cask} (h : W.heap[cb]? = some (.cells (((((flatC l).toArray.setIfInBounds (j * 4) (.int .i64 c.n)).setIfInBounds (j * 4 + 1) (.int .i64 c.p)).setIfInBounds (j * 4 + 2) (.int .i64 c.s)).setIfInBounds (j * 4 + 3) (.int .i64 c.d)) 169 (0, 0))) : CasksAt W cb (l.set j c) := by
  unfold CasksAt
  rw [← flatC_set, h]
  simp
theorem KpB.ofDrew {S : Nat → Prop} {n : Nat} {W W' : World} (h : KpB S n W.drew W') : KpB S n W W' := ⟨h.os, h.tape, h.output, h.size, h.block⟩

theorem list5 {α : Type} {l : List α} (h : l.length = 5) : ∃ a b c d e, l = [a, b, c, d, e] := by
  match l, h with
  | [a, b, c, d, e], _ => exact ⟨a, b, c, d, e, rfl⟩

theorem results_cell {P : Program} {fn : Func} {t : Tmp} {ty : TypeId} (h : fn.results = #[.cell t ty]) {tmps : Array Value} {w : World} {v : Value} {p : Addr} (ht : tmps.getD t undef = .pointer (some p))
    (hl : (Instr.loadAt ty (.pointer (some p))).run P w = .ok v w) : (results fn tmps).run P w = .ok v w := by
  have e : (results fn tmps).run P w = (Instr.loadAt ty (tmps.getD t undef)).run P w := by
    have ht' : tmps[t]?.getD undef = .pointer (some p) := by simpa using ht
    rw [ht]
    simp [results, h, ht', Instr.loadAt, Instr.sureAddr, asAddr]
  rw [e, ht]; exact hl
theorem casks_range {W : World} {cb : Nat} {l : List Cask} (hC : CasksAt W cb l) : W.rangeAt cb 0 (flatC l) := fun j v hj => by
  simp [World.cell?, show W.heap[cb]? = _ from hC, hj]
theorem load81 {W : World} {cb : Nat} {l : List Cask} (hl : l.length = 5) (hC : CasksAt W cb l) : (Instr.loadAt 169 (.pointer (some ⟨cb, 0, none⟩))).run Try.prog W = .ok (encCs l) W :=
  run_loadAt_mid W cb 0 169 (flatC l) _ (casks_range hC) Try.underlying169 rfl (by rw [flatC_len, hl]; kernel_rfl)
theorem setCells_same (W : World) (b : Nat) : ∀ (l : List Value) (o : Nat), W.rangeAt b o l → W.setCells b o l = W
  | [], o, _ => rfl
  | v :: l, o, h => by
    have h0 := h 0 v rfl
    simp only [Nat.add_zero] at h0
    rw [World.setCells, set_same h0]
    exact setCells_same W b l (o + 1) (fun j u hj => by have := h (j + 1) u (by simpa using hj); rwa [show o + (j + 1) = o + 1 + j by omega] at this)
theorem flatC_one : ∀ l, (flatC l).all (·.oneCell') = true
  | [] => rfl
  | c :: l => by simp only [flatC, List.all_cons, flatC_one l]; rfl
theorem casks_there {W : World} {cb : Nat} {l : List Cask} (hC : CasksAt W cb l) : W.there cb 0 (flatC l).toArray.size := fun j hj => by
  have hj' : j < (flatC l).length := by simpa using hj
  exact ⟨by simp [World.cell?, show W.heap[cb]? = _ from hC, hj'], by simp [World.frozen?, show W.heap[cb]? = _ from hC]⟩
theorem info81 {l : List Cask} (hl : l.length = 5) : (Try.prog.info? 169).map (·.size) = some (flatC l).length := by rw [flatC_len, hl]; kernel_rfl
theorem info81' {l : List Cask} (hl : l.length = 5) : (Try.prog.info? 169).map (·.size) = some (flatC l).toArray.size := by rw [List.size_toArray, flatC_len, hl]; kernel_rfl
theorem flatC_one' (l : List Cask) : (flatC l).toArray.all (·.oneCell') = true := by have := flatC_one l; simpa using this
/-- The load of a whole array of casks, and the store of what is there already, as the walk meets them. -/
theorem wpl_load81 {ops : Array Oper} {rest : List Oper} {o : Oper} {a : Act} {w : World} {Q : Exit → Act → World → Prop} (hgd : o.guard = none) (x : Operand) (ho : o.op = .load 169 x) (cb : Nat)
    (hx : a.eval x = .pointer (some ⟨cb, 0, none⟩)) (l : List Cask) (hl : l.length = 5) (hC : CasksAt w cb l) (h : wpList Try.prog ops Q rest (a.put o.dst (encCs l)) w) : wpList Try.prog ops Q (o :: rest) a w :=
  wpList_load_mid hgd 169 x ho cb 0 hx (flatC l) _ (casks_range hC) Try.underlying169 rfl (info81 hl) h
theorem wpl_store81 {ops : Array Oper} {rest : List Oper} {o : Oper} {a : Act} {w : World} {Q : Exit → Act → World → Prop} (hgd : o.guard = none) (x y : Operand) (ho : o.op = .store 169 x y) (cb : Nat)
    (hx : a.eval x = .pointer (some ⟨cb, 0, none⟩)) (l : List Cask) (hy : a.eval y = encCs l) (hl : l.length = 5) (hC : CasksAt w cb l) (h : wpList Try.prog ops Q rest (a.put o.dst undef) w) : wpList Try.prog ops Q (o :: rest) a w := by
  refine wpList_store_mid hgd 169 x y ho cb 0 (flatC l).toArray hx hy (casks_there hC) (info81' hl) (flatC_one' l) ?_
  rw [List.toList_toArray, setCells_same w cb _ 0 (casks_range hC)]
  exact h
set_option maxRecDepth 100000 in
set_option maxHeartbeats 4000000 in
theorem packed_any (L : HL) (h : House) (hv : HOK h) (pack : List Int) (hl : pack.length = h.ps.length) (hr : ∀ (k : Nat) (b : Int), pack[k]? = some b → -1 ≤ b ∧ b ≤ 4) (A : Option Addr) (c : Nat) (w : World)
    (hH : HouseAt w w.heap.size L h) (hP : IntsAt w w.heap.size A pack) :
    Calls Try.prog 175 #[L.enc h, .slice A pack.length c] w fun e w' => e = .returned (encCs (packedC h pack)) ∧ Below w.heap.size w w' := by
  have hpl := hv.pl
  have hkl := hv.kl
  have HH := Lib.hid hH
  have HP := Lib.hid hP
  have HR := Lib.hid hr
  have HV := Lib.hid hv
  have HL' := Lib.hid hl
  have hp6 : pack.length ≤ 6 := by omega
  clear hH hP hr hv hl
  go_enter Try.func175, Try.ntmps175
  go_wp2
  go_loopw [9] (fun i wr => ∃ k : Nat, k ≤ pack.length ∧ i = .int .i64 k ∧ Below w.heap.size w wr ∧ HBox wr w.heap.size L h ∧ CasksAt wr (w.heap.size + 1) (casksTo h pack k)) (fun i _ => pack.length - (intOf i).toNat)
  case atStart =>
    refine ⟨0, Nat.zero_le _, rfl, ((Below.refl _ _).alloc (Nat.le_refl _) _).alloc (by simp) _, (HBox.new w L h).of (Below.heap_alloc _ _ _ (by simp)), ?_⟩
    have := World.alloc_heap_new (w.alloc (.cells #[.slice L.Ak h.ks.length L.ck, .int .i64 h.fl, .slice L.Ap h.ps.length L.cp, .slice L.Ab h.bs.length L.cb] 27)) (.cells (flatC [c0, c0, c0, c0, c0]).toArray 169)
    rw [World.size_alloc] at this
    exact this
  case round =>
    obtain ⟨k, hk, rfl, hb, hB, hC⟩ := hrel
    by_cases hlt : k < pack.length
    · as_aux_lemma =>
      obtain ⟨x, hx⟩ : ∃ x, pack[k]? = some x := ⟨_, List.getElem?_eq_getElem hlt⟩
      obtain ⟨b1, o1, rfl, b1lt, d1⟩ := IntsAt.at_ (HP.out.keep hb.size fun _ _ hlt => hb.cell (p := ⟨_, _, none⟩) hlt) hx
      obtain ⟨hx0, hx4⟩ := HR.out k x hx
      obtain ⟨e0, e1, e2, e3⟩ := hB.cells
      have hbx : barrelOf pack k = x := by simp [barrelOf, List.getD, hx]
      by_cases hm : x = -1
      · have hd : (x != -1) = false := by simp [hm]
        go_wp2
        go_roundw
        case rel => exact ⟨k + 1, by omega, by go_num, hb, hB, by rw [casksTo, if_pos (hbx.trans hm)]; exact hC⟩
        case measure => simp [intOf]; omega
      · obtain ⟨xn, rfl⟩ : ∃ xn : Nat, x = (xn : Int) := ⟨x.toNat, by omega⟩
        have hd : decide ((xn : Int) ≠ -1) = true := by simp <;> omega
        obtain ⟨kk, p1, p2, p3, p4, p5⟩ := HV.out.part (k := k) (by rw [← HL'.out]; exact hlt)
        have hxl : xn < (casksTo h pack k).length := by rw [casksTo_len]; omega
        obtain ⟨cc, hcc⟩ : ∃ cc, (casksTo h pack k)[xn]? = some cc := ⟨_, List.getElem?_eq_getElem hxl⟩
        have hcok := (casksTo_upto HV.out pack k (by rw [← HL'.out]; exact hk) xn cc hcc).ok (by omega)
        have hCC := hC.at_ hcc
        have hHr := HH.out.below hb
        have P1 := Lib.hid p1
        have P2 := Lib.hid p2
        have P3 := Lib.hid p3
        have X1 := Lib.hid hx
        have C1 := Lib.hid hcc
        clear p1 p2 p3 hx hcc
        go_wp2
        go_region_with (go_at_call 197; go_must (refine (lay_any L h k kk _ _ cc hcok (w.heap.size + 1) (xn * 4) wr.drew (flatC (casksTo h pack k)).toArray 169 hHr.drew P1.out P2.out P3.out p4 p5 ⟨by omega, by omega⟩ hC hCC.drew).mono ?_); rintro e W5 ⟨⟨v, rfl⟩, g1, g2⟩)
        all_goals go_wp2
        all_goals
          go_roundw
          case rel =>
            have hle := hb.size
            have g1' : KpB (fun j => j = w.heap.size + 1) wr.heap.size wr W5 := g1.ofDrew
            refine ⟨k + 1, by omega, by go_num, hb.trans ((g1'.mono hle (S' := fun j => j = w.heap.size + 1) fun _ _ h => h).below fun j hj => by have hj' : j = w.heap.size + 1 := hj; omega), hB.of (g1'.block _ hB.lt (fun hj => by have hj' : w.heap.size = w.heap.size + 1 := hj; omega)), ?_⟩
            have hne : ¬ barrelOf pack k = -1 := by rw [hbx]; exact hm
            rw [casksTo, if_neg hne, hbx]
            have e5 : ((casksTo h pack k).getD (xn : Int).toNat c0) = cc := by simp [List.getD, C1.out]
            rw [e5, Int.toNat_natCast]
            exact casks_set g2
          case measure => simp [intOf]; omega
    · obtain rfl : k = pack.length := by omega
      have hl5 := casksTo_len h pack pack.length
      have e1 := HL'.out
      as_aux_lemma =>
        go_wp2_with (first
          | (refine wpl_load81 rfl (.tmp 4) rfl (w.heap.size + 1) rfl _ hl5 hC ?_)
          | (refine wpl_store81 rfl (.tmp 4) (.tmp 22) rfl (w.heap.size + 1) rfl (casksTo h pack pack.length) rfl hl5 hC ?_))
        refine bodyPost_ret (results_cell rfl rfl (load81 hl5 hC)) rfl ⟨?_, hb⟩
        rw [packedC, e1]
end Go.Proofs.Ytmbcpmnigggbaaa
