import Derived.Test.YtmconopnplgcfaaUF
import Derived.Test.YtmconopnplgcfaaPL
namespace Go.Proofs.Ytmconopnplgcfaa
open Go.RowKit

/-! A fair and its memory. -/
structure Fair where
  h : House
  pk : List Int
  day : Int
  nb : Int
  q : List Bid
/-- Where the slices of a fair lie. -/
structure FL where
  L : HL
  Ap : Option Addr
  cp : Nat
  Aq : Option Addr
  cq : Nat
abbrev FL.cells (F : FL) (f : Fair) : Array Value := #[.slice F.L.Ak f.h.ks.length F.L.ck, .int .i64 f.h.fl, .slice F.L.Ap f.h.ps.length F.L.cp, .slice F.L.Ab f.h.bs.length F.L.cb, .slice F.Ap f.pk.length F.cp, .int .i64 f.day, .int .i64 f.nb, .slice F.Aq f.q.length F.cq]
abbrev FL.enc (F : FL) (f : Fair) : Value := .agg #[.slice F.L.Ak f.h.ks.length F.L.ck, .int .i64 f.h.fl, .slice F.L.Ap f.h.ps.length F.L.cp, .slice F.L.Ab f.h.bs.length F.L.cb, .slice F.Ap f.pk.length F.cp, .int .i64 f.day, .int .i64 f.nb, .slice F.Aq f.q.length F.cq]
/-- The bids l lie at A. -/
def BidsAt (W : World) (B : Nat) (A : Option Addr) (l : List Bid) : Prop :=
  l = [] ∨ ∃ b off, A = some ⟨b, off, none⟩ ∧ b < B ∧ ∀ i x, l[i]? = some x → W.cell? ⟨b, off + i * 3, none⟩ = some (.int .i64 x.who) ∧ W.cell? ⟨b, off + i * 3 + 2, none⟩ = some (.int .i64 x.pay) ∧
    ∃ A' c', W.cell? ⟨b, off + i * 3 + 1, none⟩ = some (.slice A' x.bar.length c') ∧ (A' = none → c' = 0 ∧ x.bar = []) ∧ IntsAt W B A' x.bar
theorem BidsAt.keep {W W' : World} {B B' : Nat} {A : Option Addr} {l : List Bid} (h : BidsAt W B A l) (hB : B ≤ B') (hk : ∀ b o, b < B → W'.cell? ⟨b, o, none⟩ = W.cell? ⟨b, o, none⟩) : BidsAt W' B' A l := by
  rcases h with h | ⟨b, off, hA, hb, hc⟩
  · exact .inl h
  · refine .inr ⟨b, off, hA, by omega, fun i x hx => ?_⟩
    obtain ⟨h1, h2, A', c', h3, h4, h5⟩ := hc i x hx
    rw [hk _ _ hb, hk _ _ hb, hk _ _ hb]
    exact ⟨h1, h2, A', c', h3, h4, h5.keep hB hk⟩
theorem BidsAt.at_ {W : World} {B : Nat} {A : Option Addr} {l : List Bid} (h : BidsAt W B A l) {k : Nat} {x : Bid} (hx : l[k]? = some x) : ∃ b off A' c', A = some ⟨b, off, none⟩ ∧ b < B ∧
    W.cell? ⟨b, off + k * 3, none⟩ = some (.int .i64 x.who) ∧ W.cell? ⟨b, off + k * 3 + 1, none⟩ = some (.slice A' x.bar.length c') ∧ W.cell? ⟨b, off + k * 3 + 2, none⟩ = some (.int .i64 x.pay) ∧ (A' = none → c' = 0 ∧ x.bar = []) ∧ IntsAt W B A' x.bar := by
  rcases h with h | ⟨b, off, hA, hb, hc⟩
  · subst h; simp at hx
  · obtain ⟨h1, h2, A', c', h3, h4, h5⟩ := hc k x hx
    exact ⟨b, off, A', c', hA, hb, h1, h3, h2, h4, h5⟩
theorem BidsAt.drew {W : World} {B : Nat} {A : Option Addr} {l : List Bid} (h : BidsAt W B A l) : BidsAt W.drew B A l := h
structure FairAt (W : World) (B : Nat) (F : FL) (f : Fair) : Prop where
  h : HouseAt W B F.L f.h
  p : IntsAt W B F.Ap f.pk
  q : BidsAt W B F.Aq f.q
theorem FairAt.keep {W W' : World} {B B' : Nat} {F : FL} {f : Fair} (H : FairAt W B F f) (hB : B ≤ B') (hk : ∀ b o, b < B → W'.cell? ⟨b, o, none⟩ = W.cell? ⟨b, o, none⟩) : FairAt W' B' F f :=
  ⟨H.h.keep hB hk, H.p.keep hB hk, H.q.keep hB hk⟩
theorem FairAt.below {W W' : World} {F : FL} {f : Fair} (H : FairAt W W.heap.size F f) (hb : Below W.heap.size W W') : FairAt W' W'.heap.size F f :=
  H.keep hb.size fun _ _ hlt => hb.cell (p := ⟨_, _, none⟩) hlt
theorem FairAt.drew {W : World} {B : Nat} {F : FL} {f : Fair} (H : FairAt W B F f) : FairAt W.drew B F f := ⟨H.h.drew, H.p, H.q⟩
/-- The fair in a block of its own. -/
def FBox (W : World) (b : Nat) (F : FL) (f : Fair) : Prop := W.heap[b]? = some (.cells #[.slice F.L.Ak f.h.ks.length F.L.ck, .int .i64 f.h.fl, .slice F.L.Ap f.h.ps.length F.L.cp, .slice F.L.Ab f.h.bs.length F.L.cb, .slice F.Ap f.pk.length F.cp, .int .i64 f.day, .int .i64 f.nb, .slice F.Aq f.q.length F.cq] 29 (0, 0))
theorem FBox.cells {W : World} {b : Nat} {F : FL} {f : Fair} (hb : FBox W b F f) : W.cell? ⟨b, 0, none⟩ = some (.slice F.L.Ak f.h.ks.length F.L.ck) ∧ W.cell? ⟨b, 1, none⟩ = some (.int .i64 f.h.fl) ∧ W.cell? ⟨b, 2, none⟩ = some (.slice F.L.Ap f.h.ps.length F.L.cp) ∧ W.cell? ⟨b, 3, none⟩ = some (.slice F.L.Ab f.h.bs.length F.L.cb) ∧ W.cell? ⟨b, 4, none⟩ = some (.slice F.Ap f.pk.length F.cp) ∧ W.cell? ⟨b, 5, none⟩ = some (.int .i64 f.day) ∧ W.cell? ⟨b, 6, none⟩ = some (.int .i64 f.nb) ∧ W.cell? ⟨b, 7, none⟩ = some (.slice F.Aq f.q.length F.cq) := by
  simp [World.cell?, show W.heap[b]? = _ from hb]
theorem FBox.new (W : World) (F : FL) (f : Fair) : FBox (W.alloc (.cells #[.slice F.L.Ak f.h.ks.length F.L.ck, .int .i64 f.h.fl, .slice F.L.Ap f.h.ps.length F.L.cp, .slice F.L.Ab f.h.bs.length F.L.cb, .slice F.Ap f.pk.length F.cp, .int .i64 f.day, .int .i64 f.nb, .slice F.Aq f.q.length F.cq] 29)) W.heap.size F f := World.alloc_heap_new W _
theorem FBox.lt {W : World} {b : Nat} {F : FL} {f : Fair} (hb : FBox W b F f) : b < W.heap.size := (Array.getElem?_eq_some_iff.1 hb).1
theorem FBox.of {W W' : World} {b : Nat} {F : FL} {f : Fair} (hb : FBox W b F f) (e : W'.heap[b]? = W.heap[b]?) : FBox W' b F f := e.trans hb
theorem FBox.below {W W' : World} {b : Nat} {F : FL} {f : Fair} (hb : FBox W b F f) (h : Below W.heap.size W W') : FBox W' b F f := hb.of (h.block b hb.lt)
/-- A bid in a block of its own. -/
def BBox (W : World) (k : Nat) (A : Option Addr) (c : Nat) (b : Bid) : Prop := W.heap[k]? = some (.cells #[.int .i64 b.who, .slice A b.bar.length c, .int .i64 b.pay] 38 (0, 0))
theorem BBox.cells {W : World} {k : Nat} {A : Option Addr} {c : Nat} {b : Bid} (h : BBox W k A c b) : W.cell? ⟨k, 0, none⟩ = some (.int .i64 b.who) ∧ W.cell? ⟨k, 1, none⟩ = some (.slice A b.bar.length c) ∧ W.cell? ⟨k, 2, none⟩ = some (.int .i64 b.pay) := by
  simp [World.cell?, show W.heap[k]? = _ from h]
theorem BBox.new (W : World) (A : Option Addr) (c : Nat) (b : Bid) : BBox (W.alloc (.cells #[.int .i64 b.who, .slice A b.bar.length c, .int .i64 b.pay] 38)) W.heap.size A c b := World.alloc_heap_new W _
theorem BBox.lt {W : World} {k : Nat} {A : Option Addr} {c : Nat} {b : Bid} (h : BBox W k A c b) : k < W.heap.size := (Array.getElem?_eq_some_iff.1 h).1
theorem BBox.of {W W' : World} {k : Nat} {A : Option Addr} {c : Nat} {b : Bid} (h : BBox W k A c b) (e : W'.heap[k]? = W.heap[k]?) : BBox W' k A c b := e.trans h

/-! What is valid. -/
structure FN (f : Fair) : Prop where
  h : f.h.ks.length ≤ 1000 ∧ f.h.ps.length ≤ 1000 ∧ f.h.bs.length ≤ 1000
  p : f.pk.length ≤ 1000
  q : f.q.length ≤ 1000
  b : ∀ b ∈ f.q, b.bar.length ≤ 1000
def bidOK (f : Fair) (b : Bid) : Bool := inR b.who 0 (f.nb - 1) && (inR b.pay 0 99 && (decide (b.bar ≠ []) && riseB b.bar f.h.bs.length))
def packOK (f : Fair) : Bool := validH f.h && goodB f.h f.pk
def numsOK (f : Fair) : Bool := inR f.day 0 20 && (inR f.nb 0 4 && decide (f.q.length ≤ 8))
def validF (f : Fair) : Bool := packOK f && (numsOK f && f.q.all (bidOK f))
def ckF (f : Fair) : Int := if validF f then 0 else 90
theorem ckF_no {f : Fair} (h : validF f = false) : ckF f = 90 := by simp [ckF, h]
theorem ckF_yes {f : Fair} (h : validF f = true) : ckF f = 0 := by simp [ckF, h]
theorem ckF_iff {f : Fair} : ckF f = 0 ↔ validF f = true := by
  cases h : validF f
  · simp [ckF_no h]
  · simp [ckF_yes h]
theorem bids_no {f : Fair} {k : Nat} {b : Bid} (h : f.q[k]? = some b) (hb : bidOK f b = false) : validF f = false := by
  have : f.q.all (bidOK f) = false := by rw [List.all_eq_false]; exact ⟨b, List.mem_of_getElem? h, by simp [hb]⟩
  simp [validF, this]
theorem bids_all {f : Fair} (h : ∀ k b, k < f.q.length → f.q[k]? = some b → bidOK f b = true) : f.q.all (bidOK f) = true := by
  rw [List.all_eq_true]
  intro b hb
  obtain ⟨k, hk⟩ := List.getElem?_of_mem hb
  exact h k b (List.getElem?_eq_some_iff.1 hk).1 hk
theorem swithin_any (n lo hi : Int) (w : World) : Calls Try.prog 67 #[.int .i64 n, .int .i64 lo, .int .i64 hi] w fun e w' => e = .returned (.bool (inR n lo hi)) ∧ w = w' := by
  cases h1 : decide (lo ≤ n)
  · have e1 : ¬ lo ≤ n := of_decide_eq_false h1
    have e2 : inR n lo hi = false := inR_false.2 (fun h => e1 h.1)
    rw [e2]
    go_enter Try.func67, Try.ntmps67
    go_wp2
    go_ret
    exact ⟨rfl, rfl⟩
  · have e1 : lo ≤ n := of_decide_eq_true h1
    cases h2 : decide (n ≤ hi)
    · have e3 : ¬ n ≤ hi := of_decide_eq_false h2
      have e2 : inR n lo hi = false := inR_false.2 (fun h => e3 h.2)
      rw [e2]
      go_enter Try.func67, Try.ntmps67
      go_wp2
      go_ret
      exact ⟨rfl, rfl⟩
    · have e3 : n ≤ hi := of_decide_eq_true h2
      have e2 : inR n lo hi = true := inR_true.2 ⟨e1, e3⟩
      rw [e2]
      go_enter Try.func67, Try.ntmps67
      go_wp2
      go_ret
      exact ⟨rfl, rfl⟩
example : (Try.prog.info? 71).map (·.size) = some 10 := by kernel_rfl
end Go.Proofs.Ytmconopnplgcfaa
