import Derived.WalkKit
import Derived.WalkSpells
import Derived.BigQuiet
import Derived.BigRegion
import Derived.Below
import Derived.Lib.Hide
import Derived.TacticsInMore
import Derived.LoopNIn
import Derived.LoopIn
import Derived.OwnWalk
import Derived.OwnWalkIn
import Derived.Test.YtgemmmdcpbajoaaProg
import Derived.Test.YtgemmmdcpbajoaaR1
namespace Go.Proofs.Ytgemmmdcpbajoaa
open Go.RowKit

/-! A region that draws its order, whose operations read and whose calls make memory of their own: walked once, in the order of the text. -/
open Classical in
/-- The world x, if it lies over w; else w itself. -/
noncomputable def extB (w x : World) : World := if Below w.heap.size w x then x else w
theorem extB_below (w x : World) : Below w.heap.size w (extB w x) := by
  unfold extB
  split
  · assumption
  · exact Below.refl _ _
theorem extB_of {w W : World} (h : Below w.heap.size w W) : ∃ x, W = extB w x := ⟨W, by unfold extB; rw [if_pos h]⟩
theorem cell_lt {w : World} {a : Addr} {v : Value} (h : w.cell? a = some v) : a.block < w.heap.size := by
  unfold World.cell? at h
  split at h
  · rename_i hh
    exact (Array.getElem?_eq_some_iff.1 hh).1
  · cases h
theorem extB_cell {w : World} {a : Addr} {v : Value} (h : w.cell? a = some v) : ∀ x, (extB w x).cell? a = some v := fun x => ((extB_below w x).cell (cell_lt h)).trans h
theorem below_cell {w W : World} (hb : Below w.heap.size w W) {a : Addr} {v : Value} (h : w.cell? a = some v) : W.cell? a = some v := (hb.cell (cell_lt h)).trans h
theorem wp_region_ext {P : Program} {id : Nat} {Q : Exit → Act → World → Prop} {a : Act} {w : World} {l : List Oper} (hm : P.follows .mixedOrders = true) (hB : Region.lexB .any l.toArray = true)
    (h : wpQuiet P l.toArray (fun w' => ∃ x, w' = extB w x) (fun a' => ∀ w', (∃ x, w' = extB w x) → Q .normal a' w') l a) : (Code.region id l.toArray true).wp P Q a w :=
  wp_region_quiet (C := fun w' => ∃ x, w' = extB w x) hm hB (extB_of (Below.refl _ w).drew) (by simpa using h)
theorem ext_call {P : Program} {f : FuncId} {args : Array Value} {w x : World} {v : Value} (h : Calls P f args (extB w x) fun e w' => e = .returned v ∧ Below (extB w x).heap.size (extB w x) w') :
    Calls P f args (extB w x) fun e w'' => e = .returned v ∧ ∃ y, w'' = extB w y :=
  h.mono fun _ _ ⟨he, hb⟩ => ⟨he, extB_of ((extB_below w x).trans (hb.mono (extB_below w x).size))⟩
theorem ext_same {P : Program} {f : FuncId} {args : Array Value} {w x : World} {v : Value} (h : Calls P f args (extB w x) fun e w' => e = .returned v ∧ extB w x = w') :
    Calls P f args (extB w x) fun e w'' => e = .returned v ∧ ∃ y, w'' = extB w y :=
  h.mono fun _ _ ⟨he, hb⟩ => ⟨he, x, hb.symm⟩

/-- n lies from lo to hi. -/
def inR (n lo hi : Int) : Bool := decide (lo ≤ n) && decide (n ≤ hi)
theorem inR_true {n lo hi : Int} : inR n lo hi = true ↔ lo ≤ n ∧ n ≤ hi := by simp [inR]
theorem inR_false {n lo hi : Int} : inR n lo hi = false ↔ ¬ (lo ≤ n ∧ n ≤ hi) := by rw [← inR_true]; simp

theorem addr_add (b o j : Nat) : (⟨b, o, none⟩ : Addr).add j = ⟨b, o + j, none⟩ := by
  cases j with
  | zero => rfl
  | succ j => simp [Addr.add]

/-- The slice at A holds the numbers l. -/
def IntsAt (W : World) (B : Nat) (A : Option Addr) (l : List Int) : Prop :=
  l = [] ∨ ∃ b off, A = some ⟨b, off, none⟩ ∧ b < B ∧ ∀ i x, l[i]? = some x → W.cell? ⟨b, off + i, none⟩ = some (.int .i64 x)
theorem IntsAt.keep {W W' : World} {B B' : Nat} {A : Option Addr} {l : List Int} (h : IntsAt W B A l) (hB : B ≤ B') (hk : ∀ b o, b < B → W'.cell? ⟨b, o, none⟩ = W.cell? ⟨b, o, none⟩) : IntsAt W' B' A l := by
  rcases h with h | ⟨b, off, hA, hb, hc⟩
  · exact .inl h
  · exact .inr ⟨b, off, hA, by omega, fun i x hx => by rw [hk _ _ hb]; exact hc i x hx⟩
theorem IntsAt.at_ {W : World} {B : Nat} {A : Option Addr} {l : List Int} (h : IntsAt W B A l) {k : Nat} {x : Int} (hx : l[k]? = some x) : ∃ b off, A = some ⟨b, off, none⟩ ∧ b < B ∧ W.cell? ⟨b, off + k, none⟩ = some (.int .i64 x) := by
  rcases h with h | ⟨b, off, hA, hb, hc⟩
  · subst h; simp at hx
  · exact ⟨b, off, hA, hb, hc k x hx⟩
theorem intsAt_nil {W : World} {B : Nat} {A : Option Addr} : IntsAt W B A [] := .inl rfl

/-- The slice at A holds the pairs l (kinds, parts). -/
def PairsAt (W : World) (B : Nat) (A : Option Addr) (l : List (Int × Int)) : Prop :=
  l = [] ∨ ∃ b off, A = some ⟨b, off, none⟩ ∧ b < B ∧ ∀ i x, l[i]? = some x → W.cell? ⟨b, off + i * 2, none⟩ = some (.int .i64 x.1) ∧ W.cell? ⟨b, off + i * 2 + 1, none⟩ = some (.int .i64 x.2)
theorem PairsAt.keep {W W' : World} {B B' : Nat} {A : Option Addr} {l : List (Int × Int)} (h : PairsAt W B A l) (hB : B ≤ B') (hk : ∀ b o, b < B → W'.cell? ⟨b, o, none⟩ = W.cell? ⟨b, o, none⟩) : PairsAt W' B' A l := by
  rcases h with h | ⟨b, off, hA, hb, hc⟩
  · exact .inl h
  · exact .inr ⟨b, off, hA, by omega, fun i x hx => by rw [hk _ _ hb, hk _ _ hb]; exact hc i x hx⟩
theorem PairsAt.at_ {W : World} {B : Nat} {A : Option Addr} {l : List (Int × Int)} (h : PairsAt W B A l) {k : Nat} {x : Int × Int} (hx : l[k]? = some x) : ∃ b off, A = some ⟨b, off, none⟩ ∧ b < B ∧
    W.cell? ⟨b, off + k * 2, none⟩ = some (.int .i64 x.1) ∧ W.cell? ⟨b, off + k * 2 + 1, none⟩ = some (.int .i64 x.2) := by
  rcases h with h | ⟨b, off, hA, hb, hc⟩
  · subst h; simp at hx
  · exact ⟨b, off, hA, hb, hc k x hx⟩

/-- A house: kinds (Salt, Days), the floor's salt, parts (Kind, Pounds), barrels. -/
structure House where
  ks : List (Int × Int)
  fl : Int
  ps : List (Int × Int)
  bs : List Int

/-- Where the slices of a house lie. -/
structure HL where
  Ak : Option Addr
  ck : Nat
  Ap : Option Addr
  cp : Nat
  Ab : Option Addr
  cb : Nat

abbrev HL.enc (L : HL) (h : House) : Value := .agg #[.slice L.Ak h.ks.length L.ck, .int .i64 h.fl, .slice L.Ap h.ps.length L.cp, .slice L.Ab h.bs.length L.cb]
structure HouseAt (W : World) (B : Nat) (L : HL) (h : House) : Prop where
  k : PairsAt W B L.Ak h.ks
  p : PairsAt W B L.Ap h.ps
  b : IntsAt W B L.Ab h.bs
theorem HouseAt.keep {W W' : World} {B B' : Nat} {L : HL} {h : House} (hh : HouseAt W B L h) (hB : B ≤ B') (hk : ∀ b o, b < B → W'.cell? ⟨b, o, none⟩ = W.cell? ⟨b, o, none⟩) : HouseAt W' B' L h :=
  ⟨hh.k.keep hB hk, hh.p.keep hB hk, hh.b.keep hB hk⟩
theorem HouseAt.below {W W' : World} {L : HL} {h : House} (hh : HouseAt W W.heap.size L h) (hb : Below W.heap.size W W') : HouseAt W' W'.heap.size L h :=
  hh.keep hb.size fun _ _ hlt => hb.cell (p := ⟨_, _, none⟩) hlt

/-- A house that is valid. -/
def kindOK (x : Int × Int) : Bool := inR x.1 0 9 && inR x.2 0 20
def partOK (nk : Nat) (x : Int × Int) : Bool := inR x.1 0 (nk - 1) && inR x.2 0 40
def bigOK (h : House) : Bool := decide (h.ks.length ≤ 3) && (inR h.fl 0 9 && (decide (h.ps.length ≤ 6) && decide (h.bs.length ≤ 4)))
def validH (h : House) : Bool := bigOK h && (h.ks.all kindOK && (h.ps.all (partOK h.ks.length) && h.bs.all fun b => inR b 0 99))
def ckH (h : House) : Int := if validH h then 0 else 80

/-- What is in a barrel: how many parts, pounds, the greatest Salt, the greatest Days. -/
structure Cask where
  n : Int
  p : Int
  s : Int
  d : Int
abbrev Cask.enc (c : Cask) : Value := .agg #[.int .i64 c.n, .int .i64 c.p, .int .i64 c.s, .int .i64 c.d]
def c0 : Cask := ⟨0, 0, 0, 0⟩
def layC (c : Cask) (k p : Int × Int) : Cask := ⟨c.n + 1, c.p + p.2, max c.s k.1, max c.d k.2⟩
def saltC (fl : Int) (c : Cask) : Int := if c.n = 0 then 0 else fl + (c.p * c.s + 9) / 10
/-- Bounds that no arithmetic on a cask leaves. -/
structure Cask.ok (c : Cask) : Prop where
  n0 : 0 ≤ c.n
  n1 : c.n ≤ 100
  p0 : 0 ≤ c.p
  p1 : c.p ≤ 10000
  s0 : 0 ≤ c.s
  s1 : c.s ≤ 9
  d0 : 0 ≤ c.d
  d1 : c.d ≤ 20
end Go.Proofs.Ytgemmmdcpbajoaa
