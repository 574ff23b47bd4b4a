import Derived.Test.YtmbcpmnigggbaabGreatUF
import Derived.Test.YtmbcpmnigggbaabGreatR2
import Derived.IntWalk
import Derived.Laws.EntriesVeiled
import Derived.Deep.RegionHeld3
import Derived.Deep.QuietTactic
import Derived.ArgAppend
import Derived.Outline
import Derived.WalkMore
import Derived.Deep.RegionLaw
namespace Go.Proofs.YtmbcpmnigggbaabGreat
open Go.RowKit

/-! A fair and its memory. -/
structure Fair where
  h : House
  pk : List Int
  day : Int
  nb : Int
  q : List Bid
/-- Where the slices of a fair lie. -/
structure FL where
  L : HL
  Ap : Option Addr
  cp : Nat
  Aq : Option Addr
  cq : Nat
abbrev FL.cells (F : FL) (f : Fair) : Array Value := #[.slice F.L.Ak f.h.ks.length F.L.ck, .int .i64 f.h.fl, .slice F.L.Ap f.h.ps.length F.L.cp, .slice F.L.Ab f.h.bs.length F.L.cb, .slice F.Ap f.pk.length F.cp, .int .i64 f.day, .int .i64 f.nb, .slice F.Aq f.q.length F.cq]
abbrev FL.enc (F : FL) (f : Fair) : Value := .agg #[.slice F.L.Ak f.h.ks.length F.L.ck, .int .i64 f.h.fl, .slice F.L.Ap f.h.ps.length F.L.cp, .slice F.L.Ab f.h.bs.length F.L.cb, .slice F.Ap f.pk.length F.cp, .int .i64 f.day, .int .i64 f.nb, .slice F.Aq f.q.length F.cq]
/-- The bids l lie at A. -/
def BidsAt (W : World) (B : Nat) (A : Option Addr) (l : List Bid) : Prop :=
  l = [] ∨ ∃ b off, A = some ⟨b, off, none⟩ ∧ b < B ∧ ∀ i x, l[i]? = some x → W.cell? ⟨b, off + i * 3, none⟩ = some (.int .i64 x.who) ∧ W.cell? ⟨b, off + i * 3 + 2, none⟩ = some (.int .i64 x.pay) ∧
    ∃ A' c', W.cell? ⟨b, off + i * 3 + 1, none⟩ = some (.slice A' x.bar.length c') ∧ (A' = none → c' = 0 ∧ x.bar = []) ∧ IntsAt W B A' x.bar
theorem BidsAt.keep {W W' : World} {B B' : Nat} {A : Option Addr} {l : List Bid} (h : BidsAt W B A l) (hB : B ≤ B') (hk : ∀ b o, b < B → W'.cell? ⟨b, o, none⟩ = W.cell? ⟨b, o, none⟩) : BidsAt W' B' A l := by
  rcases h with h | ⟨b, off, hA, hb, hc⟩
  · exact .inl h
  · refine .inr ⟨b, off, hA, by omega, fun i x hx => ?_⟩
    obtain ⟨h1, h2, A', c', h3, h4, h5⟩ := hc i x hx
    rw [hk _ _ hb, hk _ _ hb, hk _ _ hb]
    exact ⟨h1, h2, A', c', h3, h4, h5.keep hB hk⟩
theorem BidsAt.at_ {W : World} {B : Nat} {A : Option Addr} {l : List Bid} (h : BidsAt W B A l) {k : Nat} {x : Bid} (hx : l[k]? = some x) : ∃ b off A' c', A = some ⟨b, off, none⟩ ∧ b < B ∧
    W.cell? ⟨b, off + k * 3, none⟩ = some (.int .i64 x.who) ∧ W.cell? ⟨b, off + k * 3 + 1, none⟩ = some (.slice A' x.bar.length c') ∧ W.cell? ⟨b, off + k * 3 + 2, none⟩ = some (.int .i64 x.pay) ∧ (A' = none → c' = 0 ∧ x.bar = []) ∧ IntsAt W B A' x.bar := by
  rcases h with h | ⟨b, off, hA, hb, hc⟩
  · subst h; simp at hx
  · obtain ⟨h1, h2, A', c', h3, h4, h5⟩ := hc k x hx
    exact ⟨b, off, A', c', hA, hb, h1, h3, h2, h4, h5⟩
theorem BidsAt.drew {W : World} {B : Nat} {A : Option Addr} {l : List Bid} (h : BidsAt W B A l) : BidsAt W.drew B A l := h
structure FairAt (W : World) (B : Nat) (F : FL) (f : Fair) : Prop where
  h : HouseAt W B F.L f.h
  p : IntsAt W B F.Ap f.pk
  q : BidsAt W B F.Aq f.q
theorem FairAt.keep {W W' : World} {B B' : Nat} {F : FL} {f : Fair} (H : FairAt W B F f) (hB : B ≤ B') (hk : ∀ b o, b < B → W'.cell? ⟨b, o, none⟩ = W.cell? ⟨b, o, none⟩) : FairAt W' B' F f :=
  ⟨H.h.keep hB hk, H.p.keep hB hk, H.q.keep hB hk⟩
theorem FairAt.below {W W' : World} {F : FL} {f : Fair} (H : FairAt W W.heap.size F f) (hb : Below W.heap.size W W') : FairAt W' W'.heap.size F f :=
  H.keep hb.size fun _ _ hlt => hb.cell (p := ⟨_, _, none⟩) hlt
theorem FairAt.drew {W : World} {B : Nat} {F : FL} {f : Fair} (H : FairAt W B F f) : FairAt W.drew B F f := ⟨H.h.drew, H.p, H.q⟩
/-- The fair in a block of its own. -/
def FBox (W : World) (b : Nat) (F : FL) (f : Fair) : Prop := W.heap[b]? = some (.cells #[.slice F.L.Ak f.h.ks.length F.L.ck, .int .i64 f.h.fl, .slice F.L.Ap f.h.ps.length F.L.cp, .slice F.L.Ab f.h.bs.length F.L.cb, .slice F.Ap f.pk.length F.cp, .int .i64 f.day, .int .i64 f.nb, .slice F.Aq f.q.length F.cq] 41 (0, 0))
theorem FBox.cells {W : World} {b : Nat} {F : FL} {f : Fair} (hb : FBox W b F f) : W.cell? ⟨b, 0, none⟩ = some (.slice F.L.Ak f.h.ks.length F.L.ck) ∧ W.cell? ⟨b, 1, none⟩ = some (.int .i64 f.h.fl) ∧ W.cell? ⟨b, 2, none⟩ = some (.slice F.L.Ap f.h.ps.length F.L.cp) ∧ W.cell? ⟨b, 3, none⟩ = some (.slice F.L.Ab f.h.bs.length F.L.cb) ∧ W.cell? ⟨b, 4, none⟩ = some (.slice F.Ap f.pk.length F.cp) ∧ W.cell? ⟨b, 5, none⟩ = some (.int .i64 f.day) ∧ W.cell? ⟨b, 6, none⟩ = some (.int .i64 f.nb) ∧ W.cell? ⟨b, 7, none⟩ = some (.slice F.Aq f.q.length F.cq) := by
  simp [World.cell?, show W.heap[b]? = _ from hb]
theorem FBox.new (W : World) (F : FL) (f : Fair) : FBox (W.alloc (.cells #[.slice F.L.Ak f.h.ks.length F.L.ck, .int .i64 f.h.fl, .slice F.L.Ap f.h.ps.length F.L.cp, .slice F.L.Ab f.h.bs.length F.L.cb, .slice F.Ap f.pk.length F.cp, .int .i64 f.day, .int .i64 f.nb, .slice F.Aq f.q.length F.cq] 41)) W.heap.size F f := World.alloc_heap_new W _
theorem FBox.lt {W : World} {b : Nat} {F : FL} {f : Fair} (hb : FBox W b F f) : b < W.heap.size := (Array.getElem?_eq_some_iff.1 hb).1
theorem FBox.of {W W' : World} {b : Nat} {F : FL} {f : Fair} (hb : FBox W b F f) (e : W'.heap[b]? = W.heap[b]?) : FBox W' b F f := e.trans hb
theorem FBox.below {W W' : World} {b : Nat} {F : FL} {f : Fair} (hb : FBox W b F f) (h : Below W.heap.size W W') : FBox W' b F f := hb.of (h.block b hb.lt)
/-- A bid in a block of its own. -/
def BBox (W : World) (k : Nat) (A : Option Addr) (c : Nat) (b : Bid) : Prop := W.heap[k]? = some (.cells #[.int .i64 b.who, .slice A b.bar.length c, .int .i64 b.pay] 44 (0, 0))
theorem BBox.cells {W : World} {k : Nat} {A : Option Addr} {c : Nat} {b : Bid} (h : BBox W k A c b) : W.cell? ⟨k, 0, none⟩ = some (.int .i64 b.who) ∧ W.cell? ⟨k, 1, none⟩ = some (.slice A b.bar.length c) ∧ W.cell? ⟨k, 2, none⟩ = some (.int .i64 b.pay) := by
  simp [World.cell?, show W.heap[k]? = _ from h]
theorem BBox.new (W : World) (A : Option Addr) (c : Nat) (b : Bid) : BBox (W.alloc (.cells #[.int .i64 b.who, .slice A b.bar.length c, .int .i64 b.pay] 44)) W.heap.size A c b := World.alloc_heap_new W _
theorem BBox.lt {W : World} {k : Nat} {A : Option Addr} {c : Nat} {b : Bid} (h : BBox W k A c b) : k < W.heap.size := (Array.getElem?_eq_some_iff.1 h).1
theorem BBox.of {W W' : World} {k : Nat} {A : Option Addr} {c : Nat} {b : Bid} (h : BBox W k A c b) (e : W'.heap[k]? = W.heap[k]?) : BBox W' k A c b := e.trans h

/-! What is valid. -/
structure FN (f : Fair) : Prop where
  h : f.h.ks.length ≤ 1000 ∧ f.h.ps.length ≤ 1000 ∧ f.h.bs.length ≤ 1000
  p : f.pk.length ≤ 1000
  q : f.q.length ≤ 1000
  b : ∀ b ∈ f.q, b.bar.length ≤ 1000
def bidOK (f : Fair) (b : Bid) : Bool := inR b.who 0 (f.nb - 1) && (inR b.pay 0 99 && (decide (b.bar ≠ []) && riseB b.bar f.h.bs.length))
def packOK (f : Fair) : Bool := validH f.h && goodB f.h f.pk
def numsOK (f : Fair) : Bool := inR f.day 0 20 && (inR f.nb 0 4 && decide (f.q.length ≤ 8))
def validF (f : Fair) : Bool := packOK f && (numsOK f && f.q.all (bidOK f))
def ckF (f : Fair) : Int := if validF f then 0 else 90
theorem ckF_no {f : Fair} (h : validF f = false) : ckF f = 90 := by simp [ckF, h]
theorem ckF_yes {f : Fair} (h : validF f = true) : ckF f = 0 := by simp [ckF, h]
theorem bids_no {f : Fair} {k : Nat} {b : Bid} (h : f.q[k]? = some b) (hb : bidOK f b = false) : validF f = false := by
  have : f.q.all (bidOK f) = false := by rw [List.all_eq_false]; exact ⟨b, List.mem_of_getElem? h, by simp [hb]⟩
  simp [validF, this]
theorem bids_all {f : Fair} (h : ∀ k b, k < f.q.length → f.q[k]? = some b → bidOK f b = true) : f.q.all (bidOK f) = true := by
  rw [List.all_eq_true]
  intro b hb
  obtain ⟨k, hk⟩ := List.getElem?_of_mem hb
  exact h k b (List.getElem?_eq_some_iff.1 hk).1 hk
theorem swithin_any (n lo hi : Int) (w : World) : Calls Tryz.prog 63 #[.int .i64 n, .int .i64 lo, .int .i64 hi] w fun e w' => e = .returned (.bool (inR n lo hi)) ∧ w = w' := by
  cases h1 : decide (lo ≤ n)
  · have e1 : ¬ lo ≤ n := of_decide_eq_false h1
    have e2 : inR n lo hi = false := inR_false.2 (fun h => e1 h.1)
    rw [e2]
    go_enter Tryz.func63, Tryz.ntmps63
    go_wp2
    go_ret
    exact ⟨rfl, rfl⟩
  · have e1 : lo ≤ n := of_decide_eq_true h1
    cases h2 : decide (n ≤ hi)
    · have e3 : ¬ n ≤ hi := of_decide_eq_false h2
      have e2 : inR n lo hi = false := inR_false.2 (fun h => e3 h.2)
      rw [e2]
      go_enter Tryz.func63, Tryz.ntmps63
      go_wp2
      go_ret
      exact ⟨rfl, rfl⟩
    · have e3 : n ≤ hi := of_decide_eq_true h2
      have e2 : inR n lo hi = true := inR_true.2 ⟨e1, e3⟩
      rw [e2]
      go_enter Tryz.func63, Tryz.ntmps63
      go_wp2
      go_ret
      exact ⟨rfl, rfl⟩
example : (Tryz.prog.info? 97).map (·.size) = some 10 := by kernel_rfl
open Go.RowKit

/-! Check. -/
theorem good_no1 {f : Fair} (h : validH f.h = false) : goodRet f.h f.pk = (false, 80) := by simp [goodRet, h]
theorem good_is {f : Fair} (h : validH f.h = true) {x : Bool} (hg : goodB f.h f.pk = x) : goodRet f.h f.pk = (x, 0) := by simp [goodRet, h, hg]
theorem valid_no1 {f : Fair} (h : packOK f = false) : validF f = false := by simp [validF, h]
theorem valid_no2 {f : Fair} (h : numsOK f = false) : validF f = false := by simp [validF, h]
set_option maxRecDepth 100000 in
set_option maxHeartbeats 4000000 in
theorem scheck_any (F : FL) (f : Fair) (hn : FN f) (w : World) (hF : FairAt w w.heap.size F f) :
    Calls Tryz.prog 57 #[F.enc f] w fun e w' => e = .returned (.int .i64 (ckF f)) ∧ Below w.heap.size w w' := by
  have hbw := (Below.refl _ _).alloc (Nat.le_refl w.heap.size) (.cells #[.slice F.L.Ak f.h.ks.length F.L.ck, .int .i64 f.h.fl, .slice F.L.Ap f.h.ps.length F.L.cp, .slice F.L.Ab f.h.bs.length F.L.cb, .slice F.Ap f.pk.length F.cp, .int .i64 f.day, .int .i64 f.nb, .slice F.Aq f.q.length F.cq] 41)
  have HFA := Lib.hid (hF.below hbw)
  have HG := Lib.hid (Good_any F.L f.h hn.h f.pk hn.p F.Ap F.cp _ HFA.out.h HFA.out.p)
  have HB := Lib.hid (FBox.new w F f)
  have HBW := Lib.hid hbw
  have HN := Lib.hid hn
  have HF := Lib.hid hF
  clear hbw HFA hn hF
  cases hv : validH f.h
  · have h1 := HG.out
    rw [good_no1 hv] at h1
    have H1 := Lib.hid h1
    have hno : ckF f = 90 := ckF_no (valid_no1 (by simp [packOK, hv]))
    rw [hno]
    clear hv HG h1 hno
    go_enter Tryz.func57, Tryz.ntmps57
    go_wp2_with (go_at_call 82; refine H1.out.mono ?_; rintro e W1 ⟨rfl, hb1⟩; have HB1 := Lib.hid hb1; clear hb1)
    go_ret
    exact ⟨rfl, hb0to HBW.out HB1.out⟩
  cases hg : goodB f.h f.pk
  · have h1 := HG.out
    rw [good_is hv hg] at h1
    have H1 := Lib.hid h1
    have hno : ckF f = 90 := ckF_no (valid_no1 (by simp [packOK, hg]))
    rw [hno]
    clear hv HG h1 hno hg
    go_enter Tryz.func57, Tryz.ntmps57
    go_wp2_with (go_at_call 82; refine H1.out.mono ?_; rintro e W1 ⟨rfl, hb1⟩; have HB1 := Lib.hid hb1; clear hb1)
    go_ret
    exact ⟨rfl, hb0to HBW.out HB1.out⟩
  have h1 := HG.out
  rw [good_is hv hg] at h1
  have H1 := Lib.hid h1
  have HPK : Hid (packOK f = true) := Lib.hid (by simp [packOK, hv, hg])
  clear hv HG h1 hg
  cases h1 : inR f.day 0 20
  · have hno : ckF f = 90 := ckF_no (valid_no2 (by simp [numsOK, h1]))
    rw [hno]
    clear hno
    go_enter Tryz.func57, Tryz.ntmps57
    go_wp2_with (first
      | (go_at_call 82; refine H1.out.mono ?_; rintro e W1 ⟨rfl, hb1⟩; have HB1 := Lib.hid hb1; obtain ⟨g0, g1, g2, g3, g4, g5, g6, g7⟩ := (HB.out.below (by simpa using hb1)).cells; clear hb1 g0 g1 g2 g3 g4)
      | (go_at_call 63; refine (swithin_any _ _ _ _).mono ?_; rintro e w' ⟨rfl, rfl⟩))
    go_ret
    exact ⟨rfl, hb0to HBW.out HB1.out⟩
  cases h2 : inR f.nb 0 4
  · have hno : ckF f = 90 := ckF_no (valid_no2 (by simp [numsOK, h2]))
    rw [hno]
    clear hno
    go_enter Tryz.func57, Tryz.ntmps57
    go_wp2_with (first
      | (go_at_call 82; refine H1.out.mono ?_; rintro e W1 ⟨rfl, hb1⟩; have HB1 := Lib.hid hb1; obtain ⟨g0, g1, g2, g3, g4, g5, g6, g7⟩ := (HB.out.below (by simpa using hb1)).cells; clear hb1 g0 g1 g2 g3 g4)
      | (go_at_call 63; refine (swithin_any _ _ _ _).mono ?_; rintro e w' ⟨rfl, rfl⟩))
    go_ret
    exact ⟨rfl, hb0to HBW.out HB1.out⟩
  cases h3 : decide (f.q.length ≤ 8)
  · have h3' : ¬ f.q.length ≤ 8 := of_decide_eq_false h3
    have hno : ckF f = 90 := ckF_no (valid_no2 (by simp [numsOK, h3]))
    have HQ := Lib.hid HN.out.q
    rw [hno]
    have hq := HQ.out
    clear hno h3
    go_enter Tryz.func57, Tryz.ntmps57
    go_wp2_with (first
      | (go_at_call 82; refine H1.out.mono ?_; rintro e W1 ⟨rfl, hb1⟩; have HB1 := Lib.hid hb1; obtain ⟨g0, g1, g2, g3, g4, g5, g6, g7⟩ := (HB.out.below (by simpa using hb1)).cells; clear hb1 g0 g1 g2 g3 g4)
      | (go_at_call 63; refine (swithin_any _ _ _ _).mono ?_; rintro e w' ⟨rfl, rfl⟩))
    go_ret
    exact ⟨rfl, hb0to HBW.out HB1.out⟩
  have h3' : f.q.length ≤ 8 := of_decide_eq_true h3
  have HNU : Hid (numsOK f = true) := Lib.hid (by simp [numsOK, h1, h2, h3'])
  clear h3
  obtain ⟨L, Ap, cp, Aq, cq⟩ := F
  go_enter Tryz.func57, Tryz.ntmps57
  go_wp2_with (first
      | (go_at_call 82; refine H1.out.mono ?_; rintro e W1 ⟨rfl, hb1⟩; have HB1 := Lib.hid hb1; obtain ⟨g0, g1, g2, g3, g4, g5, g6, g7⟩ := (HB.out.below (by simpa using hb1)).cells; clear hb1 g0 g1 g2 g3 g4)
      | (go_at_call 63; refine (swithin_any _ _ _ _).mono ?_; rintro e w' ⟨rfl, rfl⟩))
  clear g5 g6 g7 h1 h2
  go_loopw [42] (fun i wr => ∃ k : Nat, k ≤ f.q.length ∧ i = .int .i64 k ∧ Hid (∀ j b, j < k → f.q[j]? = some b → bidOK f b = true) ∧ Below w.heap.size w wr ∧ FBox wr w.heap.size ⟨L, Ap, cp, Aq, cq⟩ f) (fun i _ => f.q.length - (intOf i).toNat)
  case atStart => exact ⟨0, Nat.zero_le _, rfl, Lib.hid (fun j x hj => by omega), hb0to HBW.out HB1.out, HB.out.below HB1.out⟩
  case round =>
    obtain ⟨k, hk, rfl, hok, hb, hB⟩ := hrel
    have hsz := hb.size
    by_cases hlt : k < f.q.length
    · obtain ⟨x, hx⟩ : ∃ x, f.q[k]? = some x := ⟨_, List.getElem?_eq_getElem hlt⟩
      obtain ⟨bk, ok, A', c', rfl, hbk, d1, d2, d3, hA', hI⟩ := HF.out.q.at_ hx
      have e1 := below_cell hb d1
      have e2 := below_cell hb d2
      have e3 := below_cell hb d3
      obtain ⟨g0, g1, g2, g3, g4, g5, g6, g7⟩ := hB.cells
      have hlt0 : w.heap.size < wr.heap.size := hB.lt
      have hne0 : ¬ w.heap.size = wr.heap.size := by omega
      have hx4 := HN.out.b x (List.mem_of_getElem? hx)
      have HX := Lib.hid hx
      have HI := Lib.hid hI
      have HAA := Lib.hid hA'
      have HB2 := Lib.hid hB
      have HNB : Hid (inR f.nb 0 4 = true) := Lib.hid (by have := HNU.out; simp only [numsOK, Bool.and_eq_true] at this; exact this.2.1)
      have hnb : IntKind.i64.wrap (f.nb - 1) = f.nb - 1 := by
        have := inR_true.1 HNB.out
        exact IntWalk.i64_in _ (by omega)
      clear hx hI hA' d1 d2 d3 g0 g1 g2 g4 g5 g7 hB
      cases h1 : inR x.who 0 (f.nb - 1)
      · have hno : Hid (bidOK f x = false) := Lib.hid (by simp [bidOK, h1])
        clear g3
        go_wp2_with (go_at_call 63; refine (swithin_any _ _ _ _).mono ?_; rintro e w' ⟨rfl, rfl⟩)
        go_ret
        exact ⟨by rw [ckF_no (bids_no HX.out hno.out)]; rfl, hb.alloc hsz _⟩
      cases h2 : inR x.pay 0 99
      · have hno : Hid (bidOK f x = false) := Lib.hid (by simp [bidOK, h2])
        clear g3
        go_wp2_with (go_at_call 63; refine (swithin_any _ _ _ _).mono ?_; rintro e w' ⟨rfl, rfl⟩)
        go_ret
        exact ⟨by rw [ckF_no (bids_no HX.out hno.out)]; rfl, hb.alloc hsz _⟩
      by_cases h3 : x.bar.length = 0
      · have hno : Hid (bidOK f x = false) := Lib.hid (by simp [bidOK, List.length_eq_zero_iff.1 h3])
        have h3' : ((x.bar.length : Int) == 0) = true := by simpa using h3
        clear g3
        go_wp2_with (go_at_call 63; refine (swithin_any _ _ _ _).mono ?_; rintro e w' ⟨rfl, rfl⟩)
        go_ret
        exact ⟨by rw [ckF_no (bids_no HX.out hno.out)]; rfl, hb.alloc hsz _⟩
      have h3' : ((x.bar.length : Int) == 0) = false := by simpa using h3
      have HP : Hid (inR x.who 0 (f.nb - 1) = true ∧ inR x.pay 0 99 = true ∧ x.bar ≠ []) := Lib.hid ⟨h1, h2, fun e => h3 (by rw [e]; rfl)⟩
      go_wp2_with (go_at_call 63; refine (swithin_any _ _ _ _).mono ?_; rintro e w' ⟨rfl, rfl⟩)
      clear h1 h2 h3' g3 g6
      have h4 : 0 < x.bar.length := by omega
      clear h3
      obtain ⟨wo, rfl⟩ : ∃ wo : World, wo = wr := ⟨_, rfl⟩
      have hbo := hb.alloc hsz (.cells #[.int .i64 x.who, .slice A' x.bar.length c', .int .i64 x.pay] 44)
      have hBo := HB2.out.of (Below.heap_alloc wo (.cells #[.int .i64 x.who, .slice A' x.bar.length c', .int .i64 x.pay] 44) _ HB2.out.lt)
      have HBO := Lib.hid hbo
      have HBBO := Lib.hid hBo
      clear hbo hBo
      go_loopw [68] (fun i wr => ∃ j : Nat, j ≤ x.bar.length ∧ i = .int .i64 j ∧ Hid (∀ m, m < j → riseOK x.bar f.h.bs.length m = true) ∧ Below w.heap.size w wr ∧ Below wo.heap.size wo wr ∧ FBox wr w.heap.size ⟨L, Ap, cp, some ⟨bk, ok, none⟩, cq⟩ f ∧ BBox wr wo.heap.size A' c' x) (fun i _ => x.bar.length - (intOf i).toNat)
      case atStart => exact ⟨0, Nat.zero_le _, rfl, Lib.hid (fun j hj => by omega), HBO.out, (Below.refl _ _).alloc (Nat.le_refl _) _, HBBO.out, BBox.new wo A' c' x⟩
      case round =>
        obtain ⟨j, hj, rfl, hrise, hb2, hb3, hB3, hX3⟩ := hrel
        have hsz2 := hb2.size
        have hsz3 := hb3.size
        have hbs := HN.out.h.2.2
        by_cases hjl : j < x.bar.length
        · obtain ⟨y, hy⟩ : ∃ y, x.bar[j]? = some y := ⟨_, List.getElem?_eq_getElem hjl⟩
          have hgy : x.bar.getD j 0 = y := by simp [List.getD, hy]
          obtain ⟨b1, o1, rfl, b1lt, c1⟩ := HI.out.at_ hy
          have u1 := below_cell hb2 c1
          obtain ⟨g0, g1, g2, g3, g4, g5, g6, g7⟩ := hB3.cells
          obtain ⟨k0, k1, k2⟩ := hX3.cells
          have hlt1 : w.heap.size < wr.heap.size := hB3.lt
          have hlt2 : wo.heap.size < wr.heap.size := hX3.lt
          clear g0 g1 g2 g4 g5 g6 g7 k0 k2 c1
          cases hr : inR y 0 ((f.h.bs.length : Int) - 1)
          · have hno : Hid (riseOK x.bar f.h.bs.length j = false) := Lib.hid (by rw [riseOK, hgy, hr]; rfl)
            have hbn : Hid (bidOK f x = false) := Lib.hid (by simp [bidOK, riseB_no hjl hno.out])
            clear hy hgy k1
            go_wp2_with (go_at_call 63; refine (swithin_any _ _ _ _).mono ?_; rintro e w' ⟨rfl, rfl⟩)
            go_ret
            exact ⟨by rw [ckF_no (bids_no HX.out hbn.out)]; rfl, hb2⟩
          rcases Nat.eq_zero_or_pos j with rfl | hj0
          · have hyes : Hid (riseOK x.bar f.h.bs.length 0 = true) := Lib.hid (by rw [riseOK, hgy, hr]; rfl)
            simp only [Nat.add_zero] at u1
            clear hy hgy k1
            go_wp2_with (go_at_call 63; refine (swithin_any _ _ _ _).mono ?_; rintro e w' ⟨rfl, rfl⟩)
            go_roundw
            case rel => exact ⟨1, by omega, by go_num, Lib.hid (fun j hj => by obtain rfl : j = 0 := (by omega); exact hyes.out), hb2, hb3, hB3, hX3⟩
            case measure => simp [intOf]; omega
          · obtain ⟨z, hz⟩ : ∃ z, x.bar[j - 1]? = some z := ⟨_, List.getElem?_eq_getElem (by omega)⟩
            have hgz : x.bar.getD (j - 1) 0 = z := by simp [List.getD, hz]
            obtain ⟨b1', o1', e', _, c2⟩ := HI.out.at_ hz
            cases e'
            have hd0 : decide (0 < j) = true := by simp; omega
            have ht3 : (1 : Int) ≤ (j : Int) := by omega
            have ht2 : (0 : Int) ≤ (j : Int) - 1 := by omega
            have ht4 : (j : Int) - 1 < x.bar.length := by omega
            have ec : IntKind.i64.wrap ((j : Int) - 1) = ((j - 1 : Nat) : Int) := by rw [IntWalk.i64_in _ (by omega)]; omega
            have u2 := below_cell hb2 c2
            have hk1 : ((j - 1 : Nat) : Int) < x.bar.length := by omega
            have hk2 : j - 1 < x.bar.length := by omega
            clear c2
            by_cases hyz : y ≤ z
            · have hdx : decide (y ≤ z) = true := by simpa using hyz
              have hno : Hid (riseOK x.bar f.h.bs.length j = false) := Lib.hid (by rw [riseOK, hgy, hgz, hr]; simp; omega)
              have hbn : Hid (bidOK f x = false) := Lib.hid (by simp [bidOK, riseB_no hjl hno.out])
              clear hy hgy hz hgz
              go_wp2_with (go_at_call 63; refine (swithin_any _ _ _ _).mono ?_; rintro e w' ⟨rfl, rfl⟩)
              go_ret
              exact ⟨by rw [ckF_no (bids_no HX.out hbn.out)]; rfl, hb2⟩
            · have hdx : decide (y ≤ z) = false := by simpa using hyz
              have hyes : Hid (riseOK x.bar f.h.bs.length j = true) := Lib.hid (by rw [riseOK, hgy, hgz, hr]; simp; omega)
              clear hy hgy hz hgz
              go_wp2_with (go_at_call 63; refine (swithin_any _ _ _ _).mono ?_; rintro e w' ⟨rfl, rfl⟩)
              go_roundw
              case rel => exact ⟨j + 1, by omega, by go_num, Lib.hid (fun m hm => by by_cases e : m = j; exact e ▸ hyes.out; exact hrise.out m (by omega)), hb2, hb3, hB3, hX3⟩
              case measure => simp [intOf]; omega
        · obtain rfl : j = x.bar.length := by omega
          have hbk : Hid (bidOK f x = true) := Lib.hid (by
            obtain ⟨q1, q2, q3⟩ := HP.out
            simp [bidOK, q1, q2, q3, riseB_yes hrise.out])
          clear hrise hjl hj hbs
          go_wp2
          go_roundw
          case rel => exact ⟨k + 1, by omega, by go_num, Lib.hid (fun m b hm hb' => by
            by_cases e : m = k
            · subst e
              have := HX.out.symm.trans hb'
              cases this
              exact hbk.out
            · exact hok.out m b (by omega) hb'), hb2, hB3⟩
          case measure => simp [intOf]; omega
    · obtain rfl : k = f.q.length := by omega
      have hall : Hid (f.q.all (bidOK f) = true) := Lib.hid (bids_all hok.out)
      clear hok hlt hk
      go_wp2
      go_ret
      exact ⟨by rw [ckF_yes (by rw [validF, HPK.out, HNU.out, hall.out]; rfl)]; rfl, hb⟩
end Go.Proofs.YtmbcpmnigggbaabGreat
namespace Go.Proofs.YtmbcpmnigggbaabGreat
open Go.RowKit

/-! Sets as bits. -/
theorem has_bit : ∀ m : Nat, m < 256 → ∀ i : Nat, i < 9 → (bits BinOp.and IntKind.i64 ((m : Int) / 2 ^ i) 1 == 1) = m.testBit i := by decide +kernel
theorem or_bits : ∀ m : Nat, m < 16 → ∀ i : Nat, i < 16 → bits BinOp.or IntKind.i64 (m : Int) (i : Int) = ((m ||| i : Nat) : Int) := by decide +kernel
theorem and_bits : ∀ m : Nat, m < 16 → ∀ i : Nat, i < 16 → bits BinOp.and IntKind.i64 (m : Int) (i : Int) = ((m &&& i : Nat) : Int) := by decide +kernel
theorem andnot_bits : ∀ m : Nat, m < 16 → ∀ i : Nat, i < 16 → bits BinOp.andNot IntKind.i64 (m : Int) (i : Int) = ((m &&& (15 - i) : Nat) : Int) := by decide +kernel
theorem has_end : ∀ m : Nat, m < 256 → ∀ i : Nat, i < 9 → ((m : Int) / 2 ^ i ≤ 0) → ∀ j : Nat, j < 8 → i ≤ j → m.testBit j = false := by decide +kernel
theorem has_more : ∀ m : Nat, m < 256 → ∀ i : Nat, i < 9 → (0 < (m : Int) / 2 ^ i) → i < 8 := by decide +kernel
set_option maxRecDepth 100000 in
theorem has_any (m i : Nat) (hm : m < 256) (hi : i < 9) (w : World) :
    Calls Tryz.prog 65 #[.int .i64 (m : Int), .int .i64 (i : Int)] w fun e w' => e = .returned (.bool (m.testBit i)) ∧ w = w' := by
  have h0 := has_bit m hm i hi
  go_enter Tryz.func65, Tryz.ntmps65
  go_wp2
  go_ret
  exact ⟨rfl, rfl⟩
/-- The numbers of a set. -/
def intsN (l : List Nat) : List Int := l.map fun i : Nat => (i : Int)
theorem intsN_app (l m : List Nat) : intsN (l ++ m) = intsN l ++ intsN m := by simp [intsN]
theorem intsN_len (l : List Nat) : (intsN l).length = l.length := by simp [intsN]
theorem intsN_at {l : List Nat} {k i : Nat} (h : l[k]? = some i) : (intsN l)[k]? = some (i : Int) := by simp [intsN, h]
theorem bits_end {m k : Nat} (h : ∀ j, j < 8 → k ≤ j → m.testBit j = false) (hk : k ≤ 8) : bitsL k m = bitsL 8 m := by
  have : ∀ d, k + d ≤ 8 → bitsL (k + d) m = bitsL k m := fun d => by
    induction d with
    | zero => intro _; rfl
    | succ d ih =>
      intro hd
      rw [show k + (d + 1) = (k + d) + 1 by omega, bits_succ, ih (by omega), h (k + d) (by omega) (by omega)]
      simp
  have := this (8 - k) (by omega)
  rw [show k + (8 - k) = 8 by omega] at this
  exact this.symm
set_option maxRecDepth 100000 in
set_option maxHeartbeats 4000000 in
theorem list_any (m : Nat) (hm : m < 256) (w : World) :
    Calls Tryz.prog 47 #[.int .i64 (m : Int)] w fun e w' => RowRet (intsN (bitsL 8 m)) w.heap.size w' e ∧ Below w.heap.size w w' := by
  go_enter Tryz.func47, Tryz.ntmps47
  go_wp2
  go_loopw [3, 4] (fun s i wr => ∃ k : Nat, k ≤ 8 ∧ i = .int .i64 k ∧ Ints wr w.heap.size s (intsN (bitsL k m)) ∧ Below w.heap.size w wr) (fun _ i _ => 9 - (intOf i).toNat)
  case atStart => exact ⟨0, by omega, rfl, by simpa [bitsL, intsN] using ints_nil w w.heap.size, Below.refl _ _⟩
  case round =>
    obtain ⟨k, hk, rfl, hown, hb⟩ := hrel
    have hsz := hb.size
    have hlen := bits_len k m
    rw [← intsN_len] at hlen
    by_cases hlt : 0 < (m : Int) / 2 ^ k
    · have hk8 := has_more m hm k (by omega) hlt
      have hd1 : decide (0 < (m : Int) / 2 ^ k) = true := by simpa using hlt
      cases hbit : m.testBit k
      · have HY : Hid (bitsL (k + 1) m = bitsL k m) := Lib.hid (by rw [bits_succ, hbit]; simp)
        clear hlt
        go_wp2_with (go_at_call 65; refine (has_any m k hm (by omega) _).mono ?_; rintro e w' ⟨rfl, rfl⟩)
        go_roundw
        case rel => exact ⟨k + 1, by omega, by go_num, by rw [HY.out]; exact hown, hb⟩
        case measure => simp [intOf]; omega
      · have HY : Hid (intsN (bitsL (k + 1) m) = intsN (bitsL k m) ++ [(k : Int)]) := Lib.hid (by rw [bits_succ, hbit, if_pos rfl, intsN_app]; rfl)
        clear hlt
        go_wp2_with (first
          | (refine wpl_app rfl (.tmp 14) (.tmp 16) rfl w.heap.size w.heap.size _ (intsN (bitsL k m)) k rfl (hown.alloc _) ⟨wr.heap.size, 0, none⟩ 1 rfl (by simp [go_sem]) (by omega) (by simp; omega) (Nat.le_refl _) ?_; intro v' w' hown' hb')
          | (go_at_call 65; refine (has_any m k hm (by omega) _).mono ?_; rintro e w' ⟨rfl, rfl⟩))
        go_roundw
        case rel => exact ⟨k + 1, by omega, by go_num, by rw [HY.out]; exact hown', hb.trans (((Below.refl _ _).alloc hsz _).trans hb')⟩
        case measure => simp [intOf]; omega
    · have hd1 : decide (0 < (m : Int) / 2 ^ k) = false := by simpa using hlt
      have HE := Lib.hid (bits_end (has_end m hm k (by omega) (by omega)) hk)
      clear hlt
      go_wp2
      go_ret
      exact ⟨⟨_, rfl, by rw [← HE.out]; exact hown⟩, hb⟩
open Go.RowKit

/-! What is ready. -/
def dOK (h : House) (pack : List Int) (day : Int) (b : Int) : Bool := decide ((caskOf (packedC h pack) b.toNat).d ≤ day)
theorem one_shl : ∀ i : Nat, i < 8 → wrap64 (2 ^ i) = ((1 <<< i : Nat) : Int) := by decide +kernel
theorem shl_lt : ∀ i : Nat, i < 4 → 1 <<< i < 16 := by decide +kernel
set_option maxRecDepth 100000 in
set_option maxHeartbeats 4000000 in
theorem ready_any (F : FL) (f : Fair) (hn : FN f) (hv : validH f.h = true) (pack : List Int) (hg : goodB f.h pack = true) (A : Option Addr) (c : Nat) (day : Int) (w : World) (hF : FairAt w w.heap.size F f) (hP : IntsAt w w.heap.size A pack) :
    Calls Tryz.prog 58 #[F.enc f, .slice A pack.length c, .int .i64 day] w fun e w' => (∃ u : Nat, e = .returned (.int .i64 u) ∧ MaskOf (pack.filter (dOK f.h pack day)) u) ∧ Below w.heap.size w w' := by
  have hpl := (goodB_parts hg).1
  have hpr := (goodB_parts hg).2.1
  have hb4 := (HOK.ofValid hv).bl
  have hps := (HOK.ofValid hv).pl
  have HRG := Lib.hid hpr
  have HV := Lib.hid hv
  have HG := Lib.hid hg
  have HN := Lib.hid hn
  have HF := Lib.hid hF
  have HP := Lib.hid hP
  have HB := Lib.hid (FBox.new w F f)
  have hp6 : pack.length ≤ 6 := by omega
  clear hn hF hP hpl hpr hv hg hps
  obtain ⟨L, Ap, cp, Aq, cq⟩ := F
  go_enter Tryz.func58, Tryz.ntmps58
  go_wp2
  go_loopw [6, 15] (fun s i wr => ∃ k : Nat, k ≤ pack.length ∧ i = .int .i64 k ∧ (∃ u : Nat, s = .int .i64 u ∧ MaskOf ((pack.take k).filter (dOK f.h pack day)) u) ∧ Below w.heap.size w wr ∧ FBox wr w.heap.size ⟨L, Ap, cp, Aq, cq⟩ f) (fun _ i _ => pack.length - (intOf i).toNat)
  case atStart => exact ⟨0, Nat.zero_le _, rfl, ⟨0, rfl, MaskOf.nil⟩, (Below.refl _ _).alloc (Nat.le_refl _) _, HB.out⟩
  case round =>
    obtain ⟨k, hk, rfl, ⟨u, rfl, hu⟩, hb, hB⟩ := hrel
    have hsz := hb.size
    by_cases hlt : k < pack.length
    · obtain ⟨x, hx⟩ : ∃ x, pack[k]? = some x := ⟨_, List.getElem?_eq_getElem hlt⟩
      obtain ⟨b1, o1, eA, b1lt, d1⟩ := HP.out.at_ hx
      subst eA
      have e1 := below_cell hb d1
      have hxr := HRG.out x (List.mem_of_getElem? hx)
      obtain ⟨xn, rfl⟩ := Int.eq_ofNat_of_zero_le hxr.1
      have hxn : xn < 4 := by omega
      obtain ⟨g0, g1, g2, g3, g4, g5, g6, g7⟩ := hB.cells
      have hlt0 : w.heap.size < wr.heap.size := hB.lt
      have hFW := HF.out.below hb
      have h1 := barrel_any L f.h HN.out.h pack (by omega) xn (some ⟨b1, o1, none⟩) c wr (hFW.h) (HP.out.keep hsz fun _ _ hlt => hb.cell (p := ⟨_, _, none⟩) hlt)
      have hbr : barrelRet f.h pack xn = ((caskOf (packedC f.h pack) xn).p, saltC f.h.fl (caskOf (packedC f.h pack) xn), (caskOf (packedC f.h pack) xn).d, 0) := by
        rw [barrelRet, if_neg (by simp [HV.out]), if_neg (by simp [HG.out, inR]; omega)]; rfl
      rw [hbr] at h1
      have H1 := Lib.hid h1
      have HXX := Lib.hid hx
      have HBR := Lib.hid hB
      have ht : Hid (pack.take (k + 1) = pack.take k ++ [(xn : Int)]) := Lib.hid (take_snoc_next hx).symm
      have HSH := Lib.hid (one_shl xn (by omega))
      have HOR := Lib.hid (or_bits u hu.lt (1 <<< xn) (shl_lt xn hxn))
      have HU := Lib.hid hu
      clear hx d1 hxr h1 hbr hFW g4 g5 g6 g7 hB hu
      cases hd : decide ((caskOf (packedC f.h pack) xn).d ≤ day)
      · have HNO : Hid (dOK f.h pack day xn = false) := Lib.hid (by simpa [dOK] using hd)
        go_wp2_with (go_at_call 83; refine H1.out.mono ?_; rintro e W1 ⟨rfl, hb1⟩; have HB1 := Lib.hid hb1; clear hb1)
        go_roundw
        case rel => exact ⟨k + 1, by omega, by go_num, ⟨u, rfl, by rw [ht.out, List.filter_append, List.filter_cons_of_neg (by simp [HNO.out])]; simpa using HU.out⟩, hb0to hb HB1.out, HBR.out.below HB1.out⟩
        case measure => simp [intOf]; omega
      · have HYES : Hid (dOK f.h pack day xn = true) := Lib.hid (by simpa [dOK] using hd)
        go_wp2_with (go_at_call 83; refine H1.out.mono ?_; rintro e W1 ⟨rfl, hb1⟩; have HB1 := Lib.hid hb1; clear hb1)
        go_roundw
        case rel => exact ⟨k + 1, by omega, by go_num, ⟨u ||| (1 <<< xn), congrArg _ (by rw [HSH.out, HOR.out]), by rw [ht.out, List.filter_append, List.filter_cons_of_pos HYES.out]; exact HU.out.snoc hxn⟩, hb0to hb HB1.out, HBR.out.below HB1.out⟩
        case measure => simp [intOf]; omega
    · obtain rfl : k = pack.length := by omega
      rw [List.take_length] at hu
      go_wp2
      go_ret
      exact ⟨⟨u, rfl, hu⟩, hb⟩
end Go.Proofs.YtmbcpmnigggbaabGreat
namespace Go.Proofs.YtmbcpmnigggbaabGreat
open Go.RowKit

/-! A law of an iterator that makes memory; words on blocks. -/
theorem set_other_heap {W : World} {b o k : Nat} {u : Value} (hk : k < W.heap.size) (hne : k ≠ b) : (W.setCell ⟨b, o, none⟩ u).heap[k]? = W.heap[k]? := ((KpB.refl (fun k => k = b) W.heap.size W).set o u (.inl rfl)).block k hk hne
theorem al_below (W : World) (o : Obj) : Below W.heap.size W (W.alloc o) := (Below.refl _ W).alloc (Nat.le_refl _) o
theorem cell_of_heap {W : World} {b o : Nat} {arr : Array Value} {t : TypeId} {v : Value} (h : W.heap[b]? = some (.cells arr t (0, 0))) (hv : arr[o]? = some v) : W.cell? ⟨b, o, none⟩ = some v := by
  unfold World.cell?
  simp only [h]
  exact hv
theorem frozen_of_heap {W : World} {b : Nat} {arr : Array Value} {t : TypeId} (h : W.heap[b]? = some (.cells arr t (0, 0))) (o : Nat) : W.frozen? ⟨b, o, none⟩ = false := by
  unfold World.frozen?
  simp only [h]
  simp
theorem heap_keep {W : World} {b : Nat} {o o' : Obj} (h : W.heap[b]? = some o) : (W.alloc o').heap[b]? = some o := (Below.heap_alloc _ _ _ (heap_lt h)).trans h
theorem heap_new1 (W : World) (o : Obj) : (W.alloc o).heap[W.heap.size]? = some o := World.alloc_heap_new W o
theorem heap_new2 (W : World) (o1 o2 : Obj) : ((W.alloc o1).alloc o2).heap[W.heap.size + 1]? = some o2 := by
  have := World.alloc_heap_new (W.alloc o1) o2; rwa [World.size_alloc] at this
theorem heap_new3 (W : World) (o1 o2 o3 : Obj) : (((W.alloc o1).alloc o2).alloc o3).heap[W.heap.size + 1 + 1]? = some o3 := by
  have := World.alloc_heap_new ((W.alloc o1).alloc o2) o3; rwa [World.size_alloc, World.size_alloc] at this
/-- **AN ITERATOR THAT MAKES MEMORY AND WRITES NOTHING ELDER, WHOSE YIELDS CAN BE SEEN**: 'Sees B x args X' tells what it hands over at a yield, and how that lies in memory (from B on). S: what the round may write of what lay in w₀. -/
def SeqMakes {α : Type} (F : Fence) (n : Nat) (P : Program) (g : Nat) (fb lb : Array Value) (S : Nat → Prop) (Sees : Nat → α → Array Value → World → Prop) (xs : List α) (w₀ : World) : Prop :=
  ∀ (l : Nat) (J Jx : List α → World → Prop) (W : World), Below w₀.heap.size w₀ W →
    (∀ s X Y, W.heap.size ≤ X.heap.size → J s X → Below X.heap.size X Y → J s Y) →
    (∀ s X Y, W.heap.size ≤ X.heap.size → Jx s X → Below X.heap.size X Y → Jx s Y) →
    (∀ pre x args X, W.heap.size ≤ X.heap.size → J pre X → Sees W.heap.size x args X → pre ++ [x] <+: xs →
      YieldAt F (n - 1) P l args X fun e X' => KpB (fun k => S k ∨ Seg w₀.heap.size W.heap.size k) X.heap.size X X' ∧
        ((e = .returned (.bool true) ∧ J (pre ++ [x]) X') ∨ (e = .returned (.bool false) ∧ Jx (pre ++ [x]) X'))) →
    J [] W →
    CallsIn F n P g (fb ++ #[.func (.yield l) #[] #[]] ++ lb) W fun e W' => (∃ v, e = .returned v) ∧ W.heap.size ≤ W'.heap.size ∧ (J xs W' ∨ ∃ pre, pre <+: xs ∧ Jx pre W')

/-- How the body of a round may be left. -/
def makesPost {α : Type} (S : Nat → Prop) (I : List α → World → Prop) (Ix : Code → List α → World → Prop) (xs : List α) (X : World) : Exit → Act → World → Prop
  | .normal, _, X' => KpB S X.heap.size X X' ∧ I xs X'
  | .ret, _, X' => KpB S X.heap.size X X' ∧ Ix .ret xs X'
  | .exit id, _, X' => KpB S X.heap.size X X' ∧ Ix (.exit id) xs X'
  | .goto t, _, X' => KpB S X.heap.size X X' ∧ Ix (.goto t) xs X'
  | .panic _, _, _ => False
  | .outgrown, _, _ => False

variable {F : Fence} {n : Nat} {P : Program}

theorem wpIn_rangeFunc_makes {α : Type} {g : Operand} {ps : Array Tmp} {assign body : Code} {Q : Exit → Act → World → Prop} {a : Act} {w : World}
    (hro : F.round = none) (h1 : 1 ≤ n) {gf : Nat} {fb lb : Array Value} (hg : a.eval g = .func (.func gf) fb lb) (hFg : F.fn gf) (eg : ∀ args w, (callFunc gf args).run P w = .ok (.enter gf args) w)
    {S : Nat → Prop} {Sees : Nat → α → Array Value → World → Prop} {xs : List α} {w0 : World} (hseq : SeqMakes F (n - 1) P gf fb lb S Sees xs w0) (hb0 : Below w0.heap.size w0 w) (hS : ∀ k, S k → k < w.heap.size)
    (hps : ∀ B x args X, Sees B x args X → args.size = ps.size)
    (hSees : ∀ B x args X Y, B ≤ X.heap.size → Sees B x args X → KpB (fun k => k < B) X.heap.size X Y → Sees B x args Y)
    (I : List α → World → Prop) (Ix : Code → List α → World → Prop)
    (hI : ∀ s X Y, w.heap.size + 2 ≤ X.heap.size → I s X → KpB (Seg w.heap.size (w.heap.size + 2)) X.heap.size X Y → I s Y)
    (hIx : ∀ c s X Y, w.heap.size + 2 ≤ X.heap.size → Ix c s X → KpB (Seg w.heap.size (w.heap.size + 2)) X.heap.size X Y → Ix c s Y)
    (h0 : ∀ X, w.heap.size + 2 ≤ X.heap.size → Below w.heap.size w X → I [] X)
    (Ax : α → Array Value → Act → World → Prop) (hAx : ∀ x args a' X Y, w.heap.size + 2 ≤ X.heap.size → Ax x args a' X → KpB (fun k => k < w.heap.size + 2) X.heap.size X Y → Ax x args a' Y)
    (hassign : ∀ (l : Nat) (x : α) (args : Array Value) (X : World) (K : Act → World → Prop), w.heap.size + 2 ≤ X.heap.size → Sees (w.heap.size + 2) x args X → (∀ a' X', (X' = X ∨ ∃ o, X' = X.alloc o) → Ax x args a' X' → K a' X') →
      assign.wpIn (F.inRound l) (n - 1 - 1) P (Exit.then K (fun _ _ _ => False)) { tmps := (ps.zip args).foldl (fun t (p, v) => t.setIfInBounds p v) a.tmps, defers := [] } X)
    (hbody : ∀ (l : Nat) (pre : List α) (x : α) (args : Array Value) (a' : Act) (X : World), w.heap.size + 2 ≤ X.heap.size → pre ++ [x] <+: xs → I pre X → Sees (w.heap.size + 2) x args X → Ax x args a' X →
      body.wpIn (F.inRound l) (n - 1 - 1) P (makesPost S I Ix (pre ++ [x]) X) a' X)
    (hdone : ∀ (X : World), w.heap.size + 2 ≤ X.heap.size → I xs X → X.heap[w.heap.size]? = some (.deferred (some [])) → Q .normal { a with defers := { target := .collected w.heap.size, args := #[] } :: a.defers } X)
    (hstop : ∀ (c : Code) (pre : List α) (X : World), w.heap.size + 2 ≤ X.heap.size → pre <+: xs → Ix c pre X → X.heap[w.heap.size]? = some (.deferred (some [])) →
      c.wpIn F n P Q { a with defers := { target := .collected w.heap.size, args := #[] } :: a.defers } X) :
    (Code.rangeFunc g ps assign body).wpIn F n P Q a w := by
  refine wpIn_rangeFunc ?_
  intro fn hfn
  rw [hro]
  obtain ⟨rec, hrec⟩ : ∃ rec : LoopState → Option Code → Loop, rec = fun st pe => { state := st, pending := pe, fn, tmps := a.tmps, params := ps, assign, body, defers := w.heap.size } := ⟨_, rfl⟩
  obtain ⟨W1, hW1⟩ : ∃ W1, (w.alloc (.deferred (some []))).alloc (.loop (rec .ready none)) = W1 := ⟨_, rfl⟩
  have hL1 : W1.heap[w.heap.size + 1]? = some (.loop (rec .ready none)) := by
    rw [← hW1]; have := World.alloc_heap_new (w.alloc (.deferred (some []))) (.loop (rec .ready none)); rwa [World.size_alloc] at this
  have hK1 : W1.heap[w.heap.size]? = some (.deferred (some [])) := by
    rw [← hW1]; exact (Below.heap_alloc _ _ _ (by simp)).trans (World.alloc_heap_new w _)
  have hb1w : Below w.heap.size w W1 := by
    rw [← hW1]; exact ((Below.refl _ w).alloc (Nat.le_refl _) _).alloc (by simp) _
  have hb1 : Below w0.heap.size w0 W1 := hb0.trans (hb1w.mono hb0.size)
  have hz1 : W1.heap.size = w.heap.size + 2 := by rw [← hW1]; simp
  refine ⟨w.heap.size + 1, [{ target := .collected w.heap.size, args := #[] }], W1, { target := .fn (.func gf) lb, args := fb ++ #[.func (.yield (w.heap.size + 1)) #[] #[]] }, W1, gf,
    fb ++ #[.func (.yield (w.heap.size + 1)) #[] #[]] ++ lb, W1, ?_, ?_, ?_, ?_, fun _ => h1, ?_⟩
  · rw [← hW1, hrec]; exact run_enterLoop_outer _ _ _ _ _
  · simp only [resolve, hg]
    simp [go_sem, Deferred.ofValue]
  · intro f' hf'; simp [Target.leads] at hf'; subst hf'; exact hFg
  · simp [invoke, go_sem, eg]
  · have hbk : ∀ {X Y : World}, Below X.heap.size X Y → KpB (Seg w.heap.size (w.heap.size + 2)) X.heap.size X Y := fun h => kpB_of_below h
    refine (hseq (w.heap.size + 1)
      (fun pre X => I pre X ∧ X.heap[w.heap.size + 1]? = some (.loop (rec .ready none)) ∧ X.heap[w.heap.size]? = some (.deferred (some [])))
      (fun pre X => ∃ c, Ix c pre X ∧ X.heap[w.heap.size + 1]? = some (.loop (rec .done (some c))) ∧ X.heap[w.heap.size]? = some (.deferred (some [])))
      W1 hb1
      (fun s X Y hX hs hk => ⟨hI s X Y (by omega) hs.1 (hbk hk), (hk.block _ (by omega)).trans hs.2.1, (hk.block _ (by omega)).trans hs.2.2⟩)
      (fun s X Y hX hs hk => by
        obtain ⟨c, hc, hl, hkk⟩ := hs
        exact ⟨c, hIx c s X Y (by omega) hc (hbk hk), (hk.block _ (by omega)).trans hl, (hk.block _ (by omega)).trans hkk⟩)
      ?_ ⟨h0 _ (by omega) hb1w, hL1, hK1⟩).mono ?_
    · -- one round
      rintro pre x args X hX ⟨hi, hl, hk⟩ hsee hpre
      rw [hz1] at hsee
      have hy := run_yield (P := P) (args := args) hl (by rw [hrec]; exact hps _ x args X hsee)
      rw [hrec] at hy
      refine ⟨fn, _, assign, body, hy, roundIn_of_wpIn hfn (hassign _ x args X _ (by omega) hsee ?_)⟩
      clear hy
      intro a' Xa hXa hax
      have hka : KpB (fun _ => False) X.heap.size X Xa := by
        rcases hXa with rfl | ⟨o, rfl⟩
        · exact KpB.refl _ _ _
        · exact (KpB.refl _ _ _).alloc _ (Nat.le_refl _)
      have hza : X.heap.size ≤ Xa.heap.size := hka.size
      have hla : Xa.heap[w.heap.size + 1]? = some (.loop (rec .ready none)) := (hka.block _ (by omega) (fun h => h)).trans hl
      have hkka : Xa.heap[w.heap.size]? = some (.deferred (some [])) := (hka.block _ (by omega) (fun h => h)).trans hk
      have hia : I pre Xa := hI pre X Xa (by omega) hi (hka.mono (Nat.le_refl _) fun _ _ h => h.elim)
      have hseea : Sees (w.heap.size + 2) x args Xa := hSees _ _ _ _ _ (by omega) hsee (hka.mono (Nat.le_refl _) fun _ _ h => h.elim)
      refine ⟨_, run_beginRound hla (by rw [hrec]), ?_⟩
      obtain ⟨Xb, hXb⟩ : ∃ Xb, Xa.putObj (w.heap.size + 1) (.loop { rec .ready none with state := .busy }) = Xb := ⟨_, rfl⟩
      have hlb : Xb.heap[w.heap.size + 1]? = some (.loop { rec .ready none with state := .busy }) := by rw [← hXb]; exact World.putObj_heap_same (by omega)
      have hkb : Xb.heap[w.heap.size]? = some (.deferred (some [])) := by rw [← hXb]; exact (World.putObj_heap_other (by omega)).trans hkka
      have hzb : Xb.heap.size = Xa.heap.size := by rw [← hXb]; simp
      have hab : KpB (fun k => k = w.heap.size + 1) Xa.heap.size Xa Xb := by rw [← hXb]; exact (KpB.refl _ _ _).put _ _ (.inl rfl)
      rw [hXb]
      have hib : I pre Xb := hI pre Xa Xb (by omega) hia (hab.mono (Nat.le_refl _) fun k _ h => ⟨by omega, by omega⟩)
      have hseeb : Sees (w.heap.size + 2) x args Xb := hSees _ _ _ _ _ (by omega) hseea (hab.mono (Nat.le_refl _) fun k _ h => (by have h' : k = w.heap.size + 1 := h; omega : k < w.heap.size + 2))
      have haxb : Ax x args a' Xb := hAx _ _ _ _ _ (by omega) hax (hab.mono (Nat.le_refl _) fun k _ h => (by have h' : k = w.heap.size + 1 := h; omega : k < w.heap.size + 2))
      refine wpIn_mono (hbody _ pre x args a' Xb (by omega) hpre hib hseeb haxb) ?_
      have hS' : ∀ {X3}, KpB S Xb.heap.size Xb X3 → ∀ (o : Obj), KpB (fun k => S k ∨ Seg w0.heap.size W1.heap.size k) X.heap.size X (X3.putObj (w.heap.size + 1) o) := fun {X3} h3 o => by
        have hw0 := hb0.size
        have hl' : Seg w0.heap.size W1.heap.size (w.heap.size + 1) := ⟨by omega, by omega⟩
        have k1 : KpB (fun k => S k ∨ Seg w0.heap.size W1.heap.size k) X.heap.size X Xa := hka.mono (by omega) fun _ _ h => h.elim
        have k2 : KpB (fun k => S k ∨ Seg w0.heap.size W1.heap.size k) X.heap.size Xa Xb := hab.mono (by omega) fun k _ h => by have h' : k = w.heap.size + 1 := h; subst h'; exact .inr hl'
        have k3 : KpB (fun k => S k ∨ Seg w0.heap.size W1.heap.size k) X.heap.size Xb X3 := h3.mono (by omega) fun _ _ h => .inl h
        exact ((k1.trans k2).trans k3).put _ _ (.inl (.inr hl'))
      have fin : ∀ (jump : Option Code) (X3 : World), KpB S Xb.heap.size Xb X3 →
          (Instr.endRound (w.heap.size + 1) jump).run P X3 = .ok (.bool jump.isNone) (X3.putObj (w.heap.size + 1) (.loop (rec (if jump.isNone then .ready else .done) jump))) ∧
          w.heap.size + 2 ≤ X3.heap.size ∧
          (X3.putObj (w.heap.size + 1) (.loop (rec (if jump.isNone then .ready else .done) jump))).heap[w.heap.size + 1]? = some (.loop (rec (if jump.isNone then .ready else .done) jump)) ∧
          (X3.putObj (w.heap.size + 1) (.loop (rec (if jump.isNone then .ready else .done) jump))).heap[w.heap.size]? = some (.deferred (some [])) ∧
          KpB (Seg w.heap.size (w.heap.size + 2)) X3.heap.size X3 (X3.putObj (w.heap.size + 1) (.loop (rec (if jump.isNone then .ready else .done) jump))) := fun jump X3 hk3 => by
        have hns : ¬ S (w.heap.size + 1) := fun h => by have := hS _ h; omega
        have hns' : ¬ S w.heap.size := fun h => by have := hS _ h; omega
        have hl3 := (hk3.block _ (by omega) hns).trans hlb
        have hk3' := (hk3.block _ (by omega) hns').trans hkb
        have hz3 := hk3.size
        have := run_endRound (P := P) jump hl3
        rw [hrec] at this ⊢
        exact ⟨this, by omega, World.putObj_heap_same (by omega), (World.putObj_heap_other (by omega)).trans hk3', (KpB.refl _ _ _).put _ _ (.inl ⟨by omega, by omega⟩)⟩
      rintro e a3 X3 hp
      cases e with
      | normal =>
        obtain ⟨hk3, hi3⟩ := hp
        obtain ⟨hr, hz3, hl4, hk4, hs4⟩ := fin none X3 hk3
        exact ⟨_, _, hr, hS' hk3 _, .inl ⟨rfl, hI _ _ _ hz3 hi3 hs4, hl4, hk4⟩⟩
      | ret =>
        obtain ⟨hk3, hi3⟩ := hp
        obtain ⟨hr, hz3, hl4, hk4, hs4⟩ := fin (some .ret) X3 hk3
        exact ⟨_, _, hr, hS' hk3 _, .inr ⟨rfl, .ret, hIx _ _ _ _ hz3 hi3 hs4, hl4, hk4⟩⟩
      | exit id =>
        obtain ⟨hk3, hi3⟩ := hp
        obtain ⟨hr, hz3, hl4, hk4, hs4⟩ := fin (some (.exit id)) X3 hk3
        exact ⟨_, _, hr, hS' hk3 _, .inr ⟨rfl, .exit id, hIx _ _ _ _ hz3 hi3 hs4, hl4, hk4⟩⟩
      | goto t =>
        obtain ⟨hk3, hi3⟩ := hp
        obtain ⟨hr, hz3, hl4, hk4, hs4⟩ := fin (some (.goto t)) X3 hk3
        exact ⟨_, _, hr, hS' hk3 _, .inr ⟨rfl, .goto t, hIx _ _ _ _ hz3 hi3 hs4, hl4, hk4⟩⟩
      | panic ch => exact hp.elim
      | outgrown => exact hp.elim
    · -- behind the iterator
      rintro e W2 ⟨⟨v, rfl⟩, hD2, (⟨hi, hl, hk⟩ | ⟨pre, hpre, c, hi, hl, hk⟩)⟩
      · refine ⟨none, _, by have := run_endLoop (P := P) hl (by rw [hrec]; simp); rw [hrec] at this; exact this, hdone _ (by simp; omega) (hI _ _ _ (by omega) hi ((KpB.refl _ _ _).put _ _ (.inl ⟨by omega, by omega⟩))) ((World.putObj_heap_other (by omega)).trans hk)⟩
      · refine ⟨some c, _, by have := run_endLoop (P := P) hl (by rw [hrec]; simp); rw [hrec] at this; exact this, hstop c pre _ (by simp; omega) hpre (hIx _ _ _ _ (by omega) hi ((KpB.refl _ _ _).put _ _ (.inl ⟨by omega, by omega⟩))) ((World.putObj_heap_other (by omega)).trans hk)⟩
end Go.Proofs.YtmbcpmnigggbaabGreat
namespace Go.Proofs.YtmbcpmnigggbaabGreat
/-! Sales in plain words: what can be reckoned: sets, the most, the winners. -/
def saleB (q : List Bid) (rd : List Int) (l : List Nat) : Bool :=
  decide (l.Pairwise (· < ·)) && (l.all (fun i => match q[i]? with | some b => readyB rd b | none => false) &&
    l.all fun i => l.all fun j => decide (i = j) || match q[i]?, q[j]? with | some a, some b => apartB a b | _, _ => true)
theorem saleB_iff {q : List Bid} {rd : List Int} {l : List Nat} : saleB q rd l = true ↔ SaleL q rd l := by
  unfold saleB
  rw [Bool.and_eq_true, Bool.and_eq_true, decide_eq_true_eq, List.all_eq_true, List.all_eq_true]
  constructor
  · rintro ⟨h1, h2, h3⟩
    refine ⟨h1, fun i hi => ?_, fun i hi j hj hne a b ha hb => ?_⟩
    · have := h2 i hi
      cases hq : q[i]? with
      | none => rw [hq] at this; cases this
      | some b => rw [hq] at this; exact ⟨b, rfl, this⟩
    · have := List.all_eq_true.1 (h3 i hi) j hj
      rw [ha, hb, Bool.or_eq_true, decide_eq_true_eq] at this
      exact this.resolve_left hne
  · rintro ⟨h1, h2, h3⟩
    refine ⟨h1, fun i hi => ?_, fun i hi => ?_⟩
    · obtain ⟨b, hb, hr⟩ := h2 i hi
      rw [hb]; exact hr
    · rw [List.all_eq_true]
      intro j hj
      by_cases e : i = j
      · simp [e]
      · rw [Bool.or_eq_true]
        right
        cases hqi : q[i]? with
        | none => rfl
        | some a =>
          cases hqj : q[j]? with
          | none => rfl
          | some b => exact h3 i hi j hj e a b hqi hqj
/-- What a set of bids brings; below 0: it is no sale. -/
def brV (q : List Bid) (rd : List Int) (l : List Nat) : Int := if saleB q rd l = true then bringsL q l else -1
theorem brV_yes {q : List Bid} {rd : List Int} {l : List Nat} (h : SaleL q rd l) : brV q rd l = bringsL q l := if_pos (saleB_iff.2 h)
theorem brV_no {q : List Bid} {rd : List Int} {l : List Nat} (h : ¬ SaleL q rd l) : brV q rd l = -1 := if_neg (by rw [saleB_iff]; exact h)
/-- All sets that are sales. -/
def setsTo (q : List Bid) (rd : List Int) (k : Nat) : List Nat := (List.range k).filter fun m => saleB q rd (bitsL q.length m)
def setsL (q : List Bid) (rd : List Int) : List Nat := setsTo q rd (2 ^ q.length)
theorem setsTo_succ (q : List Bid) (rd : List Int) (k : Nat) : setsTo q rd (k + 1) = setsTo q rd k ++ if saleB q rd (bitsL q.length k) = true then [k] else [] := by
  unfold setsTo
  rw [List.range_succ, List.filter_append]
  congr 1
  cases h : saleB q rd (bitsL q.length k) <;> simp [h]
theorem mem_setsTo {q : List Bid} {rd : List Int} {k m : Nat} : m ∈ setsTo q rd k ↔ m < k ∧ SaleL q rd (bitsL q.length m) := by
  unfold setsTo
  rw [List.mem_filter, List.mem_range, saleB_iff]
theorem setsTo_pre (q : List Bid) (rd : List Int) {k n : Nat} (h : k ≤ n) : setsTo q rd k <+: setsTo q rd n := by
  obtain ⟨d, rfl⟩ := Nat.exists_eq_add_of_le h
  clear h
  induction d with
  | zero => exact List.prefix_rfl
  | succ d ih =>
    rw [show k + (d + 1) = (k + d) + 1 by omega, setsTo_succ]
    exact ih.trans (List.prefix_append _ _)
theorem bits_small : ∀ n, n ≤ 8 → ∀ m, m < 2 ^ n → ∀ i, i < 8 → n ≤ i → m.testBit i = false := fun n _ m hm i _ hni =>
  Nat.testBit_lt_two_pow (Nat.lt_of_lt_of_le hm (Nat.pow_le_pow_right (by omega) hni))
theorem bits_eight {n m : Nat} (hn : n ≤ 8) (hm : m < 2 ^ n) : bitsL 8 m = bitsL n m := by
  have : ∀ d, n + d ≤ 8 → bitsL (n + d) m = bitsL n m := fun d => by
    induction d with
    | zero => intro _; rfl
    | succ d ih =>
      intro hd
      rw [show n + (d + 1) = (n + d) + 1 by omega, bits_succ, ih (by omega), bits_small n hn m hm (n + d) (by omega) (by omega)]
      simp
  have := this (8 - n) (by omega)
  rw [show n + (8 - n) = 8 by omega] at this
  exact this
theorem pow_eight {n : Nat} (hn : n ≤ 8) : 2 ^ n ≤ 256 := Nat.pow_le_pow_right (by omega) hn
/-- The most that some sets bring, of those that are meant. -/
def mostTo (q : List Bid) (p : Nat → Bool) (S : List Nat) : Int := S.foldl (fun n m => if p m = true then max n (bringsL q (bitsL q.length m)) else n) (-1)
theorem mostTo_snoc (q : List Bid) (p : Nat → Bool) (S : List Nat) (m : Nat) : mostTo q p (S ++ [m]) = if p m = true then max (mostTo q p S) (bringsL q (bitsL q.length m)) else mostTo q p S := by
  unfold mostTo; rw [List.foldl_append]; rfl
theorem mostTo_ge (q : List Bid) (p : Nat → Bool) (hq : ∀ b ∈ q, 0 ≤ b.pay) (S : List Nat) : (∀ m ∈ S, p m = true → bringsL q (bitsL q.length m) ≤ mostTo q p S) ∧ ((mostTo q p S = -1 ∧ ∀ m ∈ S, ¬ p m = true) ∨ ∃ m ∈ S, p m = true ∧ bringsL q (bitsL q.length m) = mostTo q p S) := by
  refine snoc_indN (P := fun S => (∀ m ∈ S, p m = true → bringsL q (bitsL q.length m) ≤ mostTo q p S) ∧ ((mostTo q p S = -1 ∧ ∀ m ∈ S, ¬ p m = true) ∨ ∃ m ∈ S, p m = true ∧ bringsL q (bitsL q.length m) = mostTo q p S)) ⟨fun m hm => by simp at hm, .inl ⟨rfl, fun m hm => by simp at hm⟩⟩ (fun S x ⟨h1, h2⟩ => ?_) S
  rw [mostTo_snoc]
  by_cases hx : p x = true
  · rw [if_pos hx]
    have h0 := brings_nonneg hq (bitsL q.length x)
    refine ⟨fun m hm hp => ?_, .inr ?_⟩
    · rcases List.mem_append.1 hm with hm | hm
      · have := h1 m hm hp; omega
      · rw [List.mem_singleton.1 hm]; omega
    · by_cases hle : bringsL q (bitsL q.length x) ≤ mostTo q p S
      · rcases h2 with ⟨e, _⟩ | ⟨m, k1, k2, k3⟩
        · omega
        · exact ⟨m, by simp [k1], k2, by omega⟩
      · exact ⟨x, by simp, hx, by omega⟩
  · rw [if_neg hx]
    refine ⟨fun m hm hp => ?_, ?_⟩
    · rcases List.mem_append.1 hm with hm | hm
      · exact h1 m hm hp
      · rw [List.mem_singleton.1 hm] at hp; exact absurd hp hx
    · rcases h2 with ⟨e, h3⟩ | ⟨m, k1, k2, k3⟩
      · refine .inl ⟨e, fun m hm => ?_⟩
        rcases List.mem_append.1 hm with hm | hm
        · exact h3 m hm
        · rw [List.mem_singleton.1 hm]; exact hx
      · exact .inr ⟨m, by simp [k1], k2, k3⟩
theorem most_of_sets {q : List Bid} {rd : List Int} {P : List Nat → Prop} {p : Nat → Bool} (hn : q.length ≤ 8) (hq : ∀ b ∈ q, 0 ≤ b.pay) (hP : ∀ m, m < 2 ^ q.length → (p m = true ↔ P (bitsL q.length m))) : MostIs q rd P (mostTo q p (setsL q rd)) := by
  have hset : ∀ l, SaleL q rd l → ∃ m, m ∈ setsL q rd ∧ m < 2 ^ q.length ∧ bitsL q.length m = l := fun l hl => by
    obtain ⟨m, h1, rfl⟩ := bits_all q.length hn l hl.up fun i hi => hl.lt hi
    exact ⟨m, mem_setsTo.2 ⟨h1, hl⟩, h1, rfl⟩
  obtain ⟨h1, h2⟩ := mostTo_ge q p hq (setsL q rd)
  refine ⟨fun l hl hp => ?_, ?_⟩
  · obtain ⟨m, k1, k2, rfl⟩ := hset l hl
    exact h1 m k1 ((hP m k2).2 hp)
  · rcases h2 with ⟨e, h3⟩ | ⟨m, k1, k2, k3⟩
    · refine .inl ⟨e, fun l hl hp => ?_⟩
      obtain ⟨m, k1, k2, rfl⟩ := hset l hl
      exact h3 m k1 ((hP m k2).2 hp)
    · have k4 := mem_setsTo.1 k1
      exact .inr ⟨_, k4.2, (hP m k4.1).1 k2, k3⟩
/-- The winners' loop: the first best set, and what it brings. -/
instance aheadDec (p b : List Nat) : Decidable (aheadP p b) := inferInstanceAs (Decidable (p.length < b.length ∨ (p.length = b.length ∧ earlierN p b = true)))
def winStep (q : List Bid) (st : Nat × Int) (m : Nat) : Nat × Int :=
  if st.2 < bringsL q (bitsL q.length m) ∨ (bringsL q (bitsL q.length m) = st.2 ∧ aheadP (bitsL q.length m) (bitsL q.length st.1)) then (m, bringsL q (bitsL q.length m)) else st
def winTo (q : List Bid) (S : List Nat) : Nat × Int := S.foldl (winStep q) (0, -1)
theorem winTo_snoc (q : List Bid) (S : List Nat) (m : Nat) : winTo q (S ++ [m]) = winStep q (winTo q S) m := by
  unfold winTo; rw [List.foldl_append]; rfl
theorem winTo_ge (q : List Bid) (hq : ∀ b ∈ q, 0 ≤ b.pay) (S : List Nat) : (S = [] ∧ winTo q S = (0, -1)) ∨ ((winTo q S).1 ∈ S ∧ (winTo q S).2 = bringsL q (bitsL q.length (winTo q S).1) ∧ ∀ m ∈ S, bringsL q (bitsL q.length m) ≤ (winTo q S).2 ∧ (bringsL q (bitsL q.length m) = (winTo q S).2 → ¬ aheadP (bitsL q.length m) (bitsL q.length (winTo q S).1))) := by
  refine snoc_indN (P := fun S => (S = [] ∧ winTo q S = (0, -1)) ∨ ((winTo q S).1 ∈ S ∧ (winTo q S).2 = bringsL q (bitsL q.length (winTo q S).1) ∧ ∀ m ∈ S, bringsL q (bitsL q.length m) ≤ (winTo q S).2 ∧ (bringsL q (bitsL q.length m) = (winTo q S).2 → ¬ aheadP (bitsL q.length m) (bitsL q.length (winTo q S).1)))) (.inl ⟨rfl, rfl⟩) (fun S x h => .inr ?_) S
  rw [winTo_snoc]
  have h0 := brings_nonneg hq (bitsL q.length x)
  generalize winTo q S = st at h
  obtain ⟨b, n⟩ := st
  unfold winStep
  rcases h with ⟨rfl, e⟩ | ⟨h1, h2, h3⟩
  · cases e
    rw [if_pos (.inl (by show (-1 : Int) < _; omega))]
    exact ⟨by simp, rfl, fun m hm => by
      rw [List.nil_append, List.mem_singleton] at hm
      subst hm
      exact ⟨Int.le_refl _, fun _ => ahead_irr _⟩⟩
  · simp only at h1 h2 h3 ⊢
    by_cases hc : n < bringsL q (bitsL q.length x) ∨ (bringsL q (bitsL q.length x) = n ∧ aheadP (bitsL q.length x) (bitsL q.length b))
    · rw [if_pos hc]
      refine ⟨by simp, rfl, fun m hm => ?_⟩
      simp only
      rcases List.mem_append.1 hm with hm | hm
      · obtain ⟨k1, k2⟩ := h3 m hm
        rcases hc with hc | ⟨hc, ha⟩
        · exact ⟨by omega, fun e => by omega⟩
        · exact ⟨by omega, fun e hm2 => k2 (by omega) (ahead_trans hm2 ha)⟩
      · rw [List.mem_singleton.1 hm]
        exact ⟨Int.le_refl _, fun _ => ahead_irr _⟩
    · rw [if_neg hc]
      refine ⟨by simp [h1], h2, fun m hm => ?_⟩
      simp only
      rcases List.mem_append.1 hm with hm | hm
      · exact h3 m hm
      · rw [List.mem_singleton.1 hm]
        exact ⟨by
          apply Int.not_lt.1
          exact fun hh => hc (.inl hh), fun e ha => hc (.inr ⟨e, ha⟩)⟩
def winS (q : List Bid) (rd : List Int) : Nat := (winTo q (setsL q rd)).1
/-- The winners. -/
def winL (q : List Bid) (rd : List Int) : List Nat := bitsL q.length (winS q rd)
theorem win_of_sets {q : List Bid} {rd : List Int} (hn : q.length ≤ 8) (hq : ∀ b ∈ q, 0 ≤ b.pay) : winS q rd < 2 ^ q.length ∧ WinIs q rd (winL q rd) := by
  have h0 : 0 ∈ setsL q rd := mem_setsTo.2 ⟨Nat.pow_pos (by omega), by rw [bits_zero]; exact SaleL.nil q rd⟩
  rcases winTo_ge q hq (setsL q rd) with ⟨e, _⟩ | ⟨h1, h2, h3⟩
  · rw [e] at h0; simp at h0
  · obtain ⟨k1, k2⟩ := mem_setsTo.1 h1
    refine ⟨k1, k2, fun l hl => ?_, fun l hl he => ?_⟩
    · obtain ⟨m, j1, rfl⟩ := bits_all q.length hn l hl.up fun i hi => hl.lt hi
      have := (h3 m (mem_setsTo.2 ⟨j1, hl⟩)).1
      unfold winL winS
      rw [← h2]; exact this
    · obtain ⟨m, j1, rfl⟩ := bits_all q.length hn l hl.up fun i hi => hl.lt hi
      exact (h3 m (mem_setsTo.2 ⟨j1, hl⟩)).2 (by unfold winL winS at he; rw [h2]; exact he)
def allM (_ : Nat) : Bool := true
/-- What the best sales bring. -/
def mostV (q : List Bid) (rd : List Int) : Int := mostTo q allM (setsL q rd)
theorem mostV_is {q : List Bid} {rd : List Int} (hn : q.length ≤ 8) (hq : ∀ b ∈ q, 0 ≤ b.pay) : MostIs q rd (fun _ => True) (mostV q rd) := most_of_sets hn hq fun _ _ => ⟨fun _ => trivial, fun _ => rfl⟩
def withM (i : Nat) (m : Nat) : Bool := m.testBit i
def outM (i : Nat) (m : Nat) : Bool := !m.testBit i
def withV (q : List Bid) (rd : List Int) (i : Nat) : Int := mostTo q (withM i) (setsL q rd)
def outV (q : List Bid) (rd : List Int) (i : Nat) : Int := mostTo q (outM i) (setsL q rd)
theorem withV_is {q : List Bid} {rd : List Int} {i : Nat} (hn : q.length ≤ 8) (hq : ∀ b ∈ q, 0 ≤ b.pay) (hi : i < q.length) : MostIs q rd (fun l => i ∈ l) (withV q rd i) := most_of_sets hn hq fun m _ => by
  rw [mem_bits]; exact ⟨fun h => ⟨hi, h⟩, fun h => h.2⟩
theorem outV_is {q : List Bid} {rd : List Int} {i : Nat} (hn : q.length ≤ 8) (hq : ∀ b ∈ q, 0 ≤ b.pay) (hi : i < q.length) : MostIs q rd (fun l => ¬ i ∈ l) (outV q rd i) := most_of_sets hn hq fun m _ => by
  rw [mem_bits]
  unfold outM
  rw [Bool.not_eq_true']
  constructor
  · intro h h2; rw [h] at h2; cases h2.2
  · intro h
    cases hb : m.testBit i
    · rfl
    · exact absurd ⟨hi, hb⟩ h
/-- The most without a buyer. -/
def noneM (q : List Bid) (v : Int) (m : Nat) : Bool := !(bitsL 8 m).any (ownP q v)
def noneV (q : List Bid) (rd : List Int) (v : Int) : Int := mostTo q (noneM q v) (setsL q rd)
theorem noneV_is {q : List Bid} {rd : List Int} {v : Int} (hn : q.length ≤ 8) (hq : ∀ b ∈ q, 0 ≤ b.pay) : MostIs q rd (NoneOf q v) (noneV q rd v) := most_of_sets hn hq fun m hm => by
  unfold noneM NoneOf
  rw [bits_eight hn hm, Bool.not_eq_true', ← Bool.not_eq_true, List.any_eq_true]
  exact ⟨fun h i hi ho => h ⟨i, hi, ho⟩, fun h ⟨i, hi, ho⟩ => h i hi ho⟩
/-- What a buyer pays. -/
def payV (q : List Bid) (rd : List Int) (v : Int) : Int := if (winL q rd).any (ownP q v) = true then noneV q rd v - othersL q v (winL q rd) else 0
theorem payV_eq {q : List Bid} {rd : List Int} (hn : q.length ≤ 8) (hq : ∀ b ∈ q, 0 ≤ b.pay) (v : Int) : payV q rd v = noneV q rd v - othersL q v (winL q rd) := by
  unfold payV
  split
  · rfl
  · rename_i h
    rw [pays_none (win_of_sets hn hq).2 (noneV_is hn hq) fun i hi ho => h (List.any_eq_true.2 ⟨i, hi, ho⟩)]
/-- What the first n buyers pay together. -/
def paidTo (q : List Bid) (rd : List Int) : Nat → Int
  | 0 => 0
  | n + 1 => paidTo q rd n + payV q rd n
theorem payV_bd {q : List Bid} {rd : List Int} (hn : q.length ≤ 8) (hq : ∀ b ∈ q, 0 ≤ b.pay) (v : Int) : 0 ≤ payV q rd v ∧ payV q rd v ≤ ownL q v (winL q rd) := by
  have := pays_bd (win_of_sets (rd := rd) hn hq).2 (noneV_is (rd := rd) (v := v) hn hq)
  rw [payV_eq hn hq]
  omega
/-! When. -/
/-- The first of the days 0 to 20 on which g is what it is on the day 20. -/
structure WhenIs (g : Nat → Int) (d : Nat) : Prop where
  le : d ≤ 20
  at_ : g 20 ≤ g d
  first : ∀ e, e < d → g e < g 20
theorem WhenIs.unique {g : Nat → Int} {d e : Nat} (h : WhenIs g d) (k : WhenIs g e) : d = e := by
  rcases Nat.lt_trichotomy d e with x | x | x
  · have := k.first d x; have := h.at_; omega
  · exact x
  · have := h.first e x; have := k.at_; omega
end Go.Proofs.YtmbcpmnigggbaabGreat
namespace Go.Proofs.YtmbcpmnigggbaabGreat
open Go.RowKit

/-! A fair at work: open 66. -/
theorem MaskOf.congr {l m : List Int} {u : Nat} (h : MaskOf l u) (e : ∀ i : Nat, i < 4 → ((i : Int) ∈ l ↔ (i : Int) ∈ m)) : MaskOf m u := ⟨h.lt, fun i hi => (h.bit i hi).trans (e i hi)⟩
/-- What is ready, ascending. -/
def readyL (h : House) (pk : List Int) (day : Int) : List Int := ((List.range h.bs.length).map fun i : Nat => (i : Int)).filter fun b => decide (b ∈ pk) && dOK h pk day b
theorem mem_readyL {h : House} {pk : List Int} {day b : Int} : b ∈ readyL h pk day ↔ (0 ≤ b ∧ b < h.bs.length) ∧ b ∈ pk ∧ dOK h pk day b = true := by
  unfold readyL
  rw [List.mem_filter, Bool.and_eq_true, decide_eq_true_eq, List.mem_map]
  constructor
  · rintro ⟨⟨i, hi, rfl⟩, h2⟩
    rw [List.mem_range] at hi
    exact ⟨⟨by omega, by omega⟩, h2⟩
  · rintro ⟨h1, h2⟩
    exact ⟨⟨b.toNat, List.mem_range.2 (by omega), by omega⟩, h2⟩
theorem ready_mask {h : House} {pk : List Int} {day : Int} {u : Nat} (hg : goodB h pk = true) (hu : MaskOf (pk.filter (dOK h pk day)) u) : MaskOf (readyL h pk day) u :=
  hu.congr fun i hi => by
    rw [List.mem_filter, mem_readyL]
    constructor
    · rintro ⟨h1, h2⟩; exact ⟨(goodB_parts hg).2.1 _ h1, h1, h2⟩
    · rintro ⟨_, h1, h2⟩; exact ⟨h1, h2⟩
/-- A lot: buyer, barrels as bits, pence. -/
def lotCells : List (Int × Nat × Int) → List Value
  | [] => []
  | x :: xs => .int .i64 x.1 :: .int .i64 (x.2.1 : Int) :: .int .i64 x.2.2 :: lotCells xs
theorem lotCells_app : ∀ a b, lotCells (a ++ b) = lotCells a ++ lotCells b
  | [], b => rfl
  | x :: a, b => by simp only [List.cons_append, lotCells, lotCells_app a b]
theorem lotCells_at : ∀ (l : List (Int × Nat × Int)) (i : Nat) (x : Int × Nat × Int), l[i]? = some x → (lotCells l)[i * 3]? = some (.int .i64 x.1) ∧ (lotCells l)[i * 3 + 1]? = some (.int .i64 (x.2.1 : Int)) ∧ (lotCells l)[i * 3 + 2]? = some (.int .i64 x.2.2)
  | [], i, x, h => by simp at h
  | y :: ys, 0, x, h => by simp at h; subst h; exact ⟨rfl, rfl, rfl⟩
  | y :: ys, i + 1, x, h => by
    have := lotCells_at ys i x (by simpa using h)
    have e : (i + 1) * 3 = i * 3 + 1 + 1 + 1 := by omega
    rw [e]
    simp only [lotCells, List.getElem?_cons_succ]
    exact this
/-- The lots of the first bids. -/
structure LotsOf (q : List Bid) (ls : List (Int × Nat × Int)) : Prop where
  len : ls.length = q.length
  at_ : ∀ (i : Nat) (x : Bid), q[i]? = some x → ∃ m, ls[i]? = some (x.who, m, x.pay) ∧ MaskOf x.bar m
theorem LotsOf.nil : LotsOf [] [] := ⟨rfl, fun i x h => by simp at h⟩
theorem LotsOf.snoc {q : List Bid} {ls : List (Int × Nat × Int)} (h : LotsOf q ls) {x : Bid} {m : Nat} (hm : MaskOf x.bar m) : LotsOf (q ++ [x]) (ls ++ [(x.who, m, x.pay)]) := by
  refine ⟨by simp [h.len], fun i y hy => ?_⟩
  by_cases hi : i < q.length
  · rw [List.getElem?_append_left hi] at hy
    obtain ⟨m', h1, h2⟩ := h.at_ i y hy
    exact ⟨m', by rw [List.getElem?_append_left (by rw [h.len]; exact hi)]; exact h1, h2⟩
  · have hlt := (List.getElem?_eq_some_iff.1 hy).1
    have e : i = q.length := by simp at hlt; omega
    subst e
    rw [List.getElem?_append_right (Nat.le_refl _), Nat.sub_self] at hy
    simp at hy; subst hy
    exact ⟨m, by rw [← h.len, List.getElem?_append_right (Nat.le_refl _), Nat.sub_self]; rfl, hm⟩
def OwnsL (W : World) (base : Nat) (v : Value) (ls : List (Int × Nat × Int)) : Prop := W.ownsRow base 99 3 v ls.length (lotCells ls)
theorem ownsL_nil (W : World) (base : Nat) : OwnsL W base (.slice none 0 0) [] := World.ownsRow_nil W base 99 3
theorem OwnsL.below_ {W W' : World} {base n : Nat} {v : Value} {l : List (Int × Nat × Int)} (h : OwnsL W base v l) (hb : Below n W W') (hn : W.heap.size ≤ n) : OwnsL W' base v l := by
  refine ⟨h.1, ?_⟩
  rcases h.2 with h2 | ⟨g, cap, cur, e, hb2, hg, h4⟩
  · exact .inl h2
  · exact .inr ⟨g, cap, cur, e, hb2, (hb.block g (Nat.lt_of_lt_of_le (Array.getElem?_eq_some_iff.1 hg).1 hn)).trans hg, h4⟩
theorem OwnsL.set_other {W : World} {base s o : Nat} {u v : Value} {l : List (Int × Nat × Int)} (h : OwnsL W base v l) (hs : s < base) : OwnsL (W.setCell ⟨s, o, none⟩ u) base v l := by
  refine ⟨h.1, ?_⟩
  rcases h.2 with h2 | ⟨g, cap, cur, e, hb2, hg, h4⟩
  · exact .inl h2
  · exact .inr ⟨g, cap, cur, e, hb2, (set_other_heap (heap_lt hg) (by omega)).trans hg, h4⟩
/-- The lots lie at A. -/
def LotsAt (W : World) (B : Nat) (A : Option Addr) (q : List Bid) : Prop :=
  q = [] ∨ ∃ b off, A = some ⟨b, off, none⟩ ∧ b < B ∧ ∀ (i : Nat) (x : Bid), q[i]? = some x → ∃ m : Nat, MaskOf x.bar m ∧ W.cell? ⟨b, off + i * 3, none⟩ = some (.int .i64 x.who) ∧ W.cell? ⟨b, off + i * 3 + 1, none⟩ = some (.int .i64 (m : Int)) ∧ W.cell? ⟨b, off + i * 3 + 2, none⟩ = some (.int .i64 x.pay)
theorem LotsAt.keep {W W' : World} {B B' : Nat} {A : Option Addr} {q : List Bid} (h : LotsAt W B A q) (hB : B ≤ B') (hk : ∀ b o, b < B → W'.cell? ⟨b, o, none⟩ = W.cell? ⟨b, o, none⟩) : LotsAt W' B' A q := by
  rcases h with h | ⟨b, off, e, hb, h⟩
  · exact .inl h
  · refine .inr ⟨b, off, e, by omega, fun i x hx => ?_⟩
    rw [hk _ _ hb, hk _ _ hb, hk _ _ hb]
    exact h i x hx
theorem LotsAt.at_ {W : World} {B : Nat} {A : Option Addr} {q : List Bid} (h : LotsAt W B A q) {i : Nat} {x : Bid} (hx : q[i]? = some x) : ∃ b off, A = some ⟨b, off, none⟩ ∧ b < B ∧ ∃ m : Nat, MaskOf x.bar m ∧ W.cell? ⟨b, off + i * 3, none⟩ = some (.int .i64 x.who) ∧ W.cell? ⟨b, off + i * 3 + 1, none⟩ = some (.int .i64 (m : Int)) ∧ W.cell? ⟨b, off + i * 3 + 2, none⟩ = some (.int .i64 x.pay) := by
  rcases h with h | ⟨b, off, e, hb, h⟩
  · subst h; simp at hx
  · exact ⟨b, off, e, hb, h i x hx⟩
theorem OwnsL.lay {W : World} {base : Nat} {v : Value} {q : List Bid} {ls : List (Int × Nat × Int)} (h : OwnsL W base v ls) (hq : LotsOf q ls) : ∃ A c, v = .slice A q.length c ∧ LotsAt W W.heap.size A q ∧ ∀ g, A = some g → base ≤ g.block := by
  rcases h.2 with ⟨rfl, h0⟩ | ⟨g, cap, cur, rfl, hb, hg, h4, h5, h6, h7⟩
  · rw [hq.len] at h0
    exact ⟨none, 0, by rw [h0], .inl (List.length_eq_zero_iff.1 h0), fun g e => by cases e⟩
  · refine ⟨some ⟨g, 0, none⟩, cap, by rw [hq.len], .inr ⟨g, 0, rfl, (Array.getElem?_eq_some_iff.1 hg).1, fun i x hx => ?_⟩, fun g' e => by cases e; exact hb⟩
    obtain ⟨m, hm, hM⟩ := hq.at_ i x hx
    obtain ⟨d1, d2, d3⟩ := lotCells_at ls i _ hm
    have c1 := World.ownsRow.cells h (g := g) rfl _ _ d1
    have c2 := World.ownsRow.cells h (g := g) rfl _ _ d2
    have c3 := World.ownsRow.cells h (g := g) rfl _ _ d3
    rw [addr_add] at c1 c2 c3
    exact ⟨m, hM, c1, c2, c3⟩
theorem info102 : (Tryz.prog.info? 99).map (fun i => (i.zero, i.size, i.bytes)) = some (some (.agg #[.int .i64 0, .int .i64 0, .int .i64 0]), 3, 24) := by kernel_rfl
/-- 'append(lots, l)' at a step of a region that draws its order. -/
theorem step_appL {ops : Array Oper} {o : Oper} {a : Act} {w : World} {K : Act → World → Prop} {Q : Exit → Act → World → Prop} {E : Prop} (hgd : o.guard = none) (s x : Operand)
    (ho : o.op = .call { callee := .builtin .append, args := #[s, x], argTypes := #[95, 95] }) (n₀ : Nat) (v : Value) (l : List (Int × Nat × Int)) (hs : a.eval s = v) (hown : OwnsL w n₀ v l)
    (g : Nat) (c : Nat) (k : Int × Nat × Int) (hx : a.eval x = .slice (some ⟨g, 0, none⟩) 1 c) (h0 : w.cell? ⟨g, 0, none⟩ = some (.int .i64 k.1)) (h1 : w.cell? ⟨g, 1, none⟩ = some (.int .i64 (k.2.1 : Int))) (h2 : w.cell? ⟨g, 2, none⟩ = some (.int .i64 k.2.2)) (hl : l.length ≤ 1000) (hn : n₀ ≤ w.heap.size)
    (h : ∀ v' w', OwnsL w' n₀ v' (l ++ [k]) → Below n₀ w w' → K (a.put o.dst v') w') :
    if Region.wanted o (yielded ops a.tmps) = true then Oper.wp Tryz.prog o a w K Q else E := by
  have hw : Region.wanted o (yielded ops a.tmps) = true := by simp [Region.wanted, hgd]
  rw [if_pos hw]
  obtain ⟨i0, hi, hz0, hz1, hz2⟩ := info_parts info102
  refine wp_append_own w s x 95 ho n₀ 99 i0 _ 3 24 Tryz.underlying95 hi hz0 hz1 hz2 rfl (by decide) v l.length _ hs hown ⟨g, 0, none⟩ 1 c [.int .i64 k.1, .int .i64 (k.2.1 : Int), .int .i64 k.2.2] hx rfl ?_ ?_ ?_ ?_ hn ?_
  · intro j u hj
    match j, hj with
    | 0, hj => simp at hj; subst hj; exact h0
    | 1, hj => simp at hj; subst hj; exact h1
    | 2, hj => simp at hj; subst hj; exact h2
  · intro u hu
    simp at hu
    rcases hu with rfl | rfl | rfl <;> rfl
  · unfold maxLen; omega
  · omega
  · intro v' w' g2 g3 _
    refine h v' w' ?_ (own_below hown g3 hn (Nat.le_refl _))
    unfold OwnsL
    rw [List.length_append, lotCells_app]
    exact g2
/-- The box of a fair at work. -/
def OBox (W : World) (b : Nat) (F : FL) (f : Fair) (v : Value) (u : Nat) : Prop := W.heap[b]? = some (.cells #[.slice F.L.Ak f.h.ks.length F.L.ck, .int .i64 f.h.fl, .slice F.L.Ap f.h.ps.length F.L.cp, .slice F.L.Ab f.h.bs.length F.L.cb, .slice F.Ap f.pk.length F.cp, .int .i64 f.day, .int .i64 f.nb, .slice F.Aq f.q.length F.cq, v, .int .i64 (u : Int)] 97 (0, 0))
theorem OBox.cells {W : World} {b : Nat} {F : FL} {f : Fair} {v : Value} {u : Nat} (hb : OBox W b F f v u) : W.cell? ⟨b, 0, none⟩ = some (.slice F.L.Ak f.h.ks.length F.L.ck) ∧ W.cell? ⟨b, 1, none⟩ = some (.int .i64 f.h.fl) ∧ W.cell? ⟨b, 2, none⟩ = some (.slice F.L.Ap f.h.ps.length F.L.cp) ∧ W.cell? ⟨b, 3, none⟩ = some (.slice F.L.Ab f.h.bs.length F.L.cb) ∧ W.cell? ⟨b, 4, none⟩ = some (.slice F.Ap f.pk.length F.cp) ∧ W.cell? ⟨b, 5, none⟩ = some (.int .i64 f.day) ∧ W.cell? ⟨b, 6, none⟩ = some (.int .i64 f.nb) ∧ W.cell? ⟨b, 7, none⟩ = some (.slice F.Aq f.q.length F.cq) ∧ W.cell? ⟨b, 8, none⟩ = some v ∧ W.cell? ⟨b, 9, none⟩ = some (.int .i64 (u : Int)) := by
  simp [World.cell?, show W.heap[b]? = _ from hb]
theorem OBox.of {W W' : World} {b : Nat} {F : FL} {f : Fair} {v : Value} {u : Nat} (hb : OBox W b F f v u) (e : W'.heap[b]? = W.heap[b]?) : OBox W' b F f v u := e.trans hb
theorem OBox.lt {W : World} {b : Nat} {F : FL} {f : Fair} {v : Value} {u : Nat} (hb : OBox W b F f v u) : b < W.heap.size := heap_lt hb
theorem OBox.set8 {W : World} {b : Nat} {F : FL} {f : Fair} {v : Value} {u : Nat} (hb : OBox W b F f v u) (x : Value) : OBox (W.setCell ⟨b, 8, none⟩ x) b F f x u := by
  unfold OBox; rw [heap_set x hb]; simp
theorem OBox.set9 {W : World} {b : Nat} {F : FL} {f : Fair} {v : Value} {u : Nat} (hb : OBox W b F f v u) (x : Nat) : OBox (W.setCell ⟨b, 9, none⟩ (.int .i64 (x : Int))) b F f v x := by
  unfold OBox; rw [heap_set _ hb]; simp
theorem OBox.uniq {W : World} {b : Nat} {F : FL} {f : Fair} {v v' : Value} {u u' : Nat} (h : OBox W b F f v u) (k : OBox W b F f v' u') : v = v' := by
  have h1 := h.cells.2.2.2.2.2.2.2.2.1
  have h2 := k.cells.2.2.2.2.2.2.2.2.1
  rw [h1] at h2
  exact Option.some.inj h2
/-- A fair at work: what is ready is rd. -/
structure OpenAt (W : World) (b : Nat) (F : FL) (f : Fair) (rd : List Int) : Prop where
  ex : ∃ A c u, OBox W b F f (.slice A f.q.length c) u ∧ LotsAt W W.heap.size A f.q ∧ MaskOf rd u
  ne : ∀ A c u, OBox W b F f (.slice A f.q.length c) u → ∀ g, A = some g → g.block ≠ b
theorem OpenAt.lt {W : World} {b : Nat} {F : FL} {f : Fair} {rd : List Int} (h : OpenAt W b F f rd) : b < W.heap.size := by
  obtain ⟨A, c, u, h1, _⟩ := h.ex
  exact h1.lt
theorem OpenAt.below {W W' : World} {b : Nat} {F : FL} {f : Fair} {rd : List Int} (h : OpenAt W b F f rd) (hb : Below W.heap.size W W') : OpenAt W' b F f rd := by
  obtain ⟨A, c, u, h1, h2, h3⟩ := h.ex
  exact ⟨⟨A, c, u, h1.of (hb.block _ h1.lt), h2.keep hb.size fun b o hlt => hb.cell (p := ⟨b, o, none⟩) hlt, h3⟩, fun A c u hO => h.ne A c u (hO.of (hb.block _ h1.lt).symm)⟩
/-- The error of a fair that is asked for something. -/
def askF (f : Fair) (is : Bool) : Int := if validF f = false then 90 else if is = false then 1 else 0
theorem askF_ok {f : Fair} {is : Bool} (h : askF f is = 0) : validF f = true ∧ is = true := by
  unfold askF at h
  split at h
  · cases h
  · split at h
    · cases h
    · rename_i h1 h2; exact ⟨by simpa using h1, by simpa using h2⟩
theorem askF_bad {f : Fair} (is : Bool) (h : validF f = false) : askF f is = 90 := if_pos h
theorem askF_arg {f : Fair} (h : validF f = true) : askF f false = 1 := by unfold askF; rw [if_neg (by simp [h]), if_pos rfl]
theorem askF_yes {f : Fair} (h : validF f = true) : askF f true = 0 := by unfold askF; rw [if_neg (by simp [h]), if_neg (by simp)]
/-- What a valid fair is. -/
structure FOK (f : Fair) : Prop where
  h : validH f.h = true
  p : goodB f.h f.pk = true
  d0 : 0 ≤ f.day
  d1 : f.day ≤ 20
  n0 : 0 ≤ f.nb
  n1 : f.nb ≤ 4
  ql : f.q.length ≤ 8
  bl : f.h.bs.length ≤ 4
  who : ∀ b ∈ f.q, 0 ≤ b.who ∧ b.who < f.nb
  pay : ∀ b ∈ f.q, 0 ≤ b.pay ∧ b.pay ≤ 99
  ne : ∀ b ∈ f.q, b.bar ≠ []
  bar : ∀ b ∈ f.q, ∀ x ∈ b.bar, 0 ≤ x ∧ x < f.h.bs.length
theorem FOK.of {f : Fair} (h : validF f = true) : FOK f := by
  unfold validF packOK numsOK at h
  simp only [Bool.and_eq_true, inR_true, decide_eq_true_eq, List.all_eq_true] at h
  obtain ⟨⟨h1, h2⟩, ⟨h3, h4, h5⟩, h6⟩ := h
  have hb := (HOK.ofValid h1).bl
  have hq : ∀ b ∈ f.q, (0 ≤ b.who ∧ b.who ≤ f.nb - 1) ∧ (0 ≤ b.pay ∧ b.pay ≤ 99) ∧ b.bar ≠ [] ∧ riseB b.bar f.h.bs.length = true := fun b hb => by
    have := h6 b hb
    simpa only [bidOK, Bool.and_eq_true, inR_true, decide_eq_true_eq] using this
  exact ⟨h1, h2, h3.1, h3.2, h4.1, h4.2, h5, hb, fun b hb => by have := (hq b hb).1; omega, fun b hb => (hq b hb).2.1, fun b hb => (hq b hb).2.2.1, fun b hb => riseB_in (hq b hb).2.2.2⟩
theorem FOK.pos {f : Fair} (h : FOK f) : ∀ b ∈ f.q, 0 ≤ b.pay := fun b hb => (h.pay b hb).1
theorem open_no (F : FL) (f : Fair) (is : Bool) (hn : FN f) (w : World) (hF : FairAt w w.heap.size F f) (h : askF f is ≠ 0) :
    Calls Tryz.prog 34 #[F.enc f, .bool is] w fun e w' => e = .returned (.tuple #[.pointer none, .int .i64 (askF f is)]) ∧ Below w.heap.size w w' := by
  have hbw := al_below w (.cells #[.slice F.L.Ak f.h.ks.length F.L.ck, .int .i64 f.h.fl, .slice F.L.Ap f.h.ps.length F.L.cp, .slice F.L.Ab f.h.bs.length F.L.cb, .slice F.Ap f.pk.length F.cp, .int .i64 f.day, .int .i64 f.nb, .slice F.Aq f.q.length F.cq] 41)
  have HB := Lib.hid (FBox.new w F f)
  obtain ⟨c0, c1, c2, c3, c4, c5, c6, c7⟩ := (FBox.new w F f).cells
  obtain ⟨W0, hW0⟩ : ∃ W0, w.alloc (.cells #[.slice F.L.Ak f.h.ks.length F.L.ck, .int .i64 f.h.fl, .slice F.L.Ap f.h.ps.length F.L.cp, .slice F.L.Ab f.h.bs.length F.L.cb, .slice F.Ap f.pk.length F.cp, .int .i64 f.day, .int .i64 f.nb, .slice F.Aq f.q.length F.cq] 41) = W0 := ⟨_, rfl⟩
  rw [hW0] at hbw HB c0 c1 c2 c3 c4 c5 c6 c7
  have HBW := Lib.hid hbw
  have HW0 := Lib.hid hW0
  have HF := Lib.hid (hF.below hbw)
  clear hbw hW0 hF
  have HC := Lib.hid (scheck_any F f hn W0 HF.out)
  clear hn
  cases hv : validF f
  · rw [ckF_no hv] at HC
    rw [askF_bad is hv]
    clear hv h
    go_enter Tryz.func34, Tryz.ntmps34
    go_upto_region 1 with (fail)
    have e := HW0.out
    rw [e]
    clear e
    go_wp2_with (go_at_call 57; refine HC.out.mono ?_; rintro e w1 ⟨rfl, hb1⟩; have B1 := Lib.hid hb1; clear hb1)
    go_ret2
    exact ⟨rfl, hb0to HBW.out B1.out⟩
  · rw [ckF_yes hv] at HC
    cases is with
    | true => exact absurd (askF_yes hv) h
    | false =>
      rw [askF_arg hv]
      clear hv h
      go_enter Tryz.func34, Tryz.ntmps34
      go_upto_region 1 with (fail)
      have e := HW0.out
      rw [e]
      clear e
      go_wp2_with (go_at_call 57; refine HC.out.mono ?_; rintro e w1 ⟨rfl, hb1⟩; have B1 := Lib.hid hb1; clear hb1)
      go_ret2
      exact ⟨rfl, hb0to HBW.out B1.out⟩

open Go.RowKit

theorem OwnsL.slice {W : World} {base : Nat} {v : Value} {ls : List (Int × Nat × Int)} (h : OwnsL W base v ls) : ∃ A c, v = .slice A ls.length c := by
  rcases h.2 with ⟨rfl, h0⟩ | ⟨g, cap, cur, rfl, hb, hg, h4, h5, h6, h7⟩
  · exact ⟨none, 0, by rw [h0]⟩
  · exact ⟨_, _, rfl⟩
theorem rows_below1 (w : World) (o : Obj) : Below w.heap.size w (w.alloc o).drew := ((Below.refl _ _).alloc (Nat.le_refl _) o).drew
/-- A lot under way: its block. -/
def LBox (W : World) (g : Nat) (x : Bid) (m : Nat) : Prop := W.heap[g]? = some (.cells #[.int .i64 x.who, .int .i64 (m : Int), .int .i64 x.pay] 99 (0, 0))
theorem LBox.cells {W : World} {g : Nat} {x : Bid} {m : Nat} (h : LBox W g x m) : W.cell? ⟨g, 0, none⟩ = some (.int .i64 x.who) ∧ W.cell? ⟨g, 1, none⟩ = some (.int .i64 (m : Int)) ∧ W.cell? ⟨g, 2, none⟩ = some (.int .i64 x.pay) := by
  simp [World.cell?, show W.heap[g]? = _ from h]
theorem LBox.fz {W : World} {g : Nat} {x : Bid} {m : Nat} (h : LBox W g x m) (o : Nat) : W.frozen? ⟨g, o, none⟩ = false := frozen_of_heap h o
theorem LBox.set {W : World} {g : Nat} {x : Bid} {m : Nat} (h : LBox W g x m) (n : Nat) : LBox (W.setCell ⟨g, 1, none⟩ (.int .i64 (n : Int))) g x n := by
  unfold LBox; rw [heap_set _ h]; simp
set_option maxRecDepth 100000 in
set_option maxHeartbeats 4000000 in
theorem open_yes (F : FL) (f : Fair) (is : Bool) (hn : FN f) (w : World) (hF : FairAt w w.heap.size F f) (h : askF f is = 0) :
    Calls Tryz.prog 34 #[F.enc f, .bool is] w fun e w' => (∃ b, e = .returned (.tuple #[.pointer (some ⟨b, 0, none⟩), .int .i64 0]) ∧ w.heap.size ≤ b ∧ OpenAt w' b F f (readyL f.h f.pk f.day)) ∧ Below w.heap.size w w' := by
  have hbw := al_below w (.cells #[.slice F.L.Ak f.h.ks.length F.L.ck, .int .i64 f.h.fl, .slice F.L.Ap f.h.ps.length F.L.cp, .slice F.L.Ab f.h.bs.length F.L.cb, .slice F.Ap f.pk.length F.cp, .int .i64 f.day, .int .i64 f.nb, .slice F.Aq f.q.length F.cq] 41)
  have HB := Lib.hid (FBox.new w F f)
  obtain ⟨c0, c1, c2, c3, c4, c5, c6, c7⟩ := (FBox.new w F f).cells
  obtain ⟨W0, hW0⟩ : ∃ W0, w.alloc (.cells #[.slice F.L.Ak f.h.ks.length F.L.ck, .int .i64 f.h.fl, .slice F.L.Ap f.h.ps.length F.L.cp, .slice F.L.Ab f.h.bs.length F.L.cb, .slice F.Ap f.pk.length F.cp, .int .i64 f.day, .int .i64 f.nb, .slice F.Aq f.q.length F.cq] 41) = W0 := ⟨_, rfl⟩
  rw [hW0] at hbw HB c0 c1 c2 c3 c4 c5 c6 c7
  have HBW := Lib.hid hbw
  have HW0 := Lib.hid hW0
  have HF := Lib.hid (hF.below hbw)
  clear hbw hW0 hF
  have HC := Lib.hid (scheck_any F f hn W0 HF.out)
  obtain ⟨hv, rfl⟩ := askF_ok h
  rw [ckF_yes hv] at HC
  have hfo := FOK.of hv
  have H98 := Lib.hid (fun W hW hP => ready_any F f hn hfo.h f.pk hfo.p F.Ap F.cp f.day W hW hP)
  have HFO := Lib.hid hfo
  have hql := hfo.ql
  have HN := Lib.hid hn
  clear hn hv h hfo
  obtain ⟨L, Ap, cp, Aq, cq⟩ := F
  go_enter Tryz.func34, Tryz.ntmps34
  go_upto_region 1 with (fail)
  have e := HW0.out
  rw [e]
  clear e
  go_wp2_with (go_at_call 57; refine HC.out.mono ?_; rintro e w1 ⟨rfl, hb1⟩; have B1 := Lib.hid hb1; obtain ⟨r0, r1, r2, r3, r4, r5, r6, r7⟩ := (HB.out.of (hb1.block _ HB.out.lt)).cells; clear hb1)
  go_region_held3 (fun w' => w'.cell? ⟨w.heap.size, 0, none⟩ = some (.slice L.Ak f.h.ks.length L.ck) ∧ w'.cell? ⟨w.heap.size, 1, none⟩ = some (.int .i64 f.h.fl) ∧ w'.cell? ⟨w.heap.size, 2, none⟩ = some (.slice L.Ap f.h.ps.length L.cp) ∧ w'.cell? ⟨w.heap.size, 3, none⟩ = some (.slice L.Ab f.h.bs.length L.cb) ∧ w'.cell? ⟨w.heap.size, 4, none⟩ = some (.slice Ap f.pk.length cp) ∧ w'.cell? ⟨w.heap.size, 5, none⟩ = some (.int .i64 f.day) ∧ w'.cell? ⟨w.heap.size, 6, none⟩ = some (.int .i64 f.nb) ∧ w'.cell? ⟨w.heap.size, 7, none⟩ = some (.slice Aq f.q.length cq)) (first | go_keep)
    (first
      | (go_at_call 58; refine (H98.out w1.drew (HF.out.below (hb0to B1.out (drew_below w1))) (HF.out.below (hb0to B1.out (drew_below w1))).p).mono ?_; rintro e w2 ⟨⟨u, rfl, hu⟩, hb2⟩; have B2 := Lib.hid (hb0to B1.out (hb0to (drew_below w1) hb2)); have HU := Lib.hid hu; obtain ⟨r0, r1, r2, r3, r4, r5, r6, r7⟩ := (HB.out.of (B2.out.block _ HB.out.lt)).cells; clear hb2 hu))
  all_goals
    have hob : OBox (w2.alloc (.cells #[.slice L.Ak f.h.ks.length L.ck, .int .i64 f.h.fl, .slice L.Ap f.h.ps.length L.cp, .slice L.Ab f.h.bs.length L.cb, .slice Ap f.pk.length cp, .int .i64 f.day, .int .i64 f.nb, .slice Aq f.q.length cq, .slice none 0 0, .int .i64 (u : Int)] 97)) w2.heap.size ⟨L, Ap, cp, Aq, cq⟩ f (.slice none 0 0) u := World.alloc_heap_new w2 _
    have hb3 := hb0to B2.out (al_below w2 (.cells #[.slice L.Ak f.h.ks.length L.ck, .int .i64 f.h.fl, .slice L.Ap f.h.ps.length L.cp, .slice L.Ab f.h.bs.length L.cb, .slice Ap f.pk.length cp, .int .i64 f.day, .int .i64 f.nb, .slice Aq f.q.length cq, .slice none 0 0, .int .i64 (u : Int)] 97))
    obtain ⟨W3, hW3⟩ : ∃ W3, w2.alloc (.cells #[.slice L.Ak f.h.ks.length L.ck, .int .i64 f.h.fl, .slice L.Ap f.h.ps.length L.cp, .slice L.Ab f.h.bs.length L.cb, .slice Ap f.pk.length cp, .int .i64 f.day, .int .i64 f.nb, .slice Aq f.q.length cq, .slice none 0 0, .int .i64 (u : Int)] 97) = W3 := ⟨_, rfl⟩
    rw [hW3] at hob hb3
    have hbo1 : W0.heap.size ≤ w2.heap.size := B2.out.size
    have HOB := Lib.hid hob
    have HB3 := Lib.hid hb3
    have HW3 := Lib.hid hW3
    have r7' := (HB.out.of (HB3.out.block _ HB.out.lt)).cells.2.2.2.2.2.2.2
    clear hob hb3 hW3 r0 r1 r2 r3 r4 r5 r6 r7 c0 c1 c2 c3 c4 c5 c6 c7
    have e := HW3.out
    rw [e]
    clear e
    go_wp2_with (fail)
    clear r7'
    go_loopw [32] (fun i wr => ∃ k : Nat, k ≤ f.q.length ∧ i = .int .i64 k ∧ (∃ v ls, OBox wr w2.heap.size ⟨L, Ap, cp, Aq, cq⟩ f v u ∧ OwnsL wr (w2.heap.size + 1) v ls ∧ Hid (LotsOf (f.q.take k) ls)) ∧ Hid (Below W0.heap.size W0 wr)) (fun i _ => f.q.length - (intOf i).toNat)
    case atStart => exact ⟨0, Nat.zero_le _, rfl, ⟨_, [], HOB.out, ownsL_nil _ _, Lib.hid LotsOf.nil⟩, HB3⟩
    case round =>
      obtain ⟨k, hk, rfl, ⟨v, ls, hO, hL, hls⟩, hb⟩ := hrel
      by_cases hlt : k < f.q.length
      · obtain ⟨x, hx⟩ : ∃ x, f.q[k]? = some x := ⟨_, List.getElem?_eq_getElem hlt⟩
        obtain ⟨bk, ok, A', c', rfl, hbk, d1, d2, d3, hA', hI⟩ := HF.out.q.at_ hx
        have e1 := below_cell hb.out d1
        have e2 := below_cell hb.out d2
        have e3 := below_cell hb.out d3
        have hxm := List.mem_of_getElem? hx
        have hbl := HN.out.b x hxm
        have HIN := Lib.hid (HFO.out.bar x hxm)
        have hb4 := HFO.out.bl
        have HX := Lib.hid hx
        have HI := Lib.hid hI
        have HO := Lib.hid hO
        have HL := Lib.hid hL
        have hobl : w2.heap.size < wr.heap.size := hO.lt
        clear d1 d2 d3 hA' hI hxm hx hO hL
        obtain ⟨wo, rfl⟩ : ∃ wo : World, wo = wr := ⟨_, rfl⟩
        go_wp2_with (fail)
        go_loopw [44] (fun i wq => ∃ j : Nat, j ≤ x.bar.length ∧ i = .int .i64 j ∧ (∃ m, LBox wq (wo.heap.size + 1) x m ∧ Hid (MaskOf (x.bar.take j) m)) ∧ Hid (Below wo.heap.size wo wq)) (fun i _ => x.bar.length - (intOf i).toNat)
        case atStart => exact ⟨0, Nat.zero_le _, rfl, ⟨0, heap_new2 _ _ _, Lib.hid MaskOf.nil⟩, Lib.hid (hb0to (al_below _ _) (al_below _ _))⟩
        case round =>
          obtain ⟨j, hj, rfl, ⟨m, hM, hm⟩, hbq⟩ := hrel
          by_cases hjl : j < x.bar.length
          · obtain ⟨y, hy⟩ : ∃ y, x.bar[j]? = some y := ⟨_, List.getElem?_eq_getElem hjl⟩
            obtain ⟨b1, o1, rfl, b1lt, t1⟩ := HI.out.at_ hy
            have u1 := below_cell (hb0to hb.out hbq.out) t1
            obtain ⟨yn, rfl⟩ := Int.eq_ofNat_of_zero_le (HIN.out y (List.mem_of_getElem? hy)).1
            have hyn : yn < 4 := by have := (HIN.out _ (List.mem_of_getElem? hy)).2; omega
            obtain ⟨k0, k1, k2⟩ := hM.cells
            have k3 := hM.fz 1
            have HT := Lib.hid (show x.bar.take (j + 1) = x.bar.take j ++ [(yn : Int)] from (take_snoc_next hy).symm)
            have HSH := Lib.hid (one_shl yn (by omega))
            have HOR := Lib.hid (or_bits m hm.out.lt (1 <<< yn) (shl_lt yn hyn))
            have HMX := Lib.hid hM
            clear t1 hy hM
            go_wp2_with (fail)
            go_region
            all_goals
              go_wp2_with (fail)
              go_roundw
              case rel => exact ⟨j + 1, by omega, by go_num, ⟨m ||| (1 <<< yn), (by have := HMX.out.set (m ||| (1 <<< yn)); rw [← HOR.out, ← HSH.out] at this; exact this), Lib.hid (by rw [HT.out]; exact hm.out.snoc hyn)⟩, Lib.hid (Below.drew (hbq.out.setCell (by show wo.heap.size ≤ wo.heap.size + 1; omega) _))⟩
              case measure => simp [intOf]; omega
          · obtain rfl : j = x.bar.length := by omega
            have hm2 := hm.out
            rw [List.take_length] at hm2
            have HMM := Lib.hid hm2
            obtain ⟨k0, k1, k2⟩ := hM.cells
            have HOq := Lib.hid (HO.out.of (hbq.out.block _ hobl))
            obtain ⟨_, _, _, _, _, _, _, _, o8, _⟩ := HOq.out.cells
            have hLq := HL.out.below_ hbq.out (Nat.le_refl _)
            have HLq := Lib.hid hLq
            have o9 := frozen_of_heap HOq.out 8
            clear hm2 hm hLq hM
            go_wp2_with (fail)
            have HLA := Lib.hid (HLq.out.below_ (rows_below1 wr (.cells #[.int .i64 x.who, .int .i64 (m : Int), .int .i64 x.pay] 99)) (Nat.le_refl _))
            have hll : ls.length ≤ 1000 := by have := hls.out.len; rw [List.length_take] at this; omega
            have hwz : w2.heap.size + 1 ≤ wr.heap.size := by have := hbq.out.size; omega
            have hne2 : ¬ w2.heap.size = wr.heap.size := by omega
            have hlt2 : w2.heap.size < wr.heap.size := by omega
            go_region_law (refine step_appL rfl (.tmp 59) (.tmp 61) (by rfl) (w2.heap.size + 1) v ls (by rfl) HLA.out wr.heap.size 1 (x.who, m, x.pay) (by rfl) (by simp [go_sem]) (by simp [go_sem]) (by simp [go_sem]) hll (by simp; omega) ?_; intro v' w' hown' hb'; obtain ⟨A9, c9, rfl⟩ := hown'.slice; have hO' : OBox w' w2.heap.size ⟨L, Ap, cp, some ⟨bk, ok, none⟩, cq⟩ f v u := HOq.out.of ((hb'.block _ (Nat.lt_succ_self _)).trans (Below.heap_alloc _ _ _ HOq.out.lt)); have p8 := hO'.cells.2.2.2.2.2.2.2.2.1; have p9 := frozen_of_heap hO' 8)
            all_goals
              have hTK := (take_snoc_next HX.out).symm
              have hown2 : OwnsL w' (w2.heap.size + 1) (.slice A9 (ls.length + 1) c9) (ls ++ [(x.who, m, x.pay)]) := by have h := hown'; rw [List.length_append] at h; exact h
              go_wp2_with (fail)
              go_roundw
              case rel => exact ⟨k + 1, by omega, by go_num, ⟨_, _, hO'.set8 _, hown2.set_other (Nat.lt_succ_self _), Lib.hid (by rw [hTK]; exact hls.out.snoc HMM.out)⟩, Lib.hid (((hb0to (hb0to hb.out hbq.out) (rows_below1 wr (.cells #[.int .i64 x.who, .int .i64 (m : Int), .int .i64 x.pay] 99))).trans (hb'.mono (by omega))).setCell (by show W0.heap.size ≤ w2.heap.size; omega) _)⟩
              case measure => simp [intOf]; omega
      · obtain rfl : k = f.q.length := by omega
        have hls2 := hls.out
        rw [List.take_length] at hls2
        obtain ⟨A, c, rfl, hAt, hge⟩ := hL.lay hls2
        have HGE := Lib.hid hge
        have HAT := Lib.hid hAt
        have HOO := Lib.hid hO
        clear hls hls2 hAt hL hO hge
        go_wp2_with (fail)
        go_ret2
        exact ⟨⟨w2.heap.size, rfl, Nat.le_trans HBW.out.size hbo1, ⟨⟨A, c, u, HOO.out, HAT.out, ready_mask HFO.out.p HU.out⟩, fun A' c' u' hO' g eg => by have e := HOO.out.uniq hO'; cases e; have := HGE.out g eg; omega⟩⟩, hb0to HBW.out hb.out⟩

end Go.Proofs.YtmbcpmnigggbaabGreat
