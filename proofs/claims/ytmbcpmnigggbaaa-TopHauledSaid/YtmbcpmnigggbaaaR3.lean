import Derived.Test.YtmbcpmnigggbaaaUF
import Derived.Test.YtmbcpmnigggbaaaPL
import Derived.IntWalk
import Derived.Test.YtmbcpmnigggbaaaL3
import Derived.Laws.EntriesVeiled
import Derived.Deep.RegionHeld3
import Derived.Deep.QuietTactic
import Derived.ArgAppend
import Derived.Outline
import Derived.WalkMore
namespace Go.Proofs.Ytmbcpmnigggbaaa
open Go.RowKit

/-! A fair and its memory. -/
structure Fair where
  h : House
  pk : List Int
  day : Int
  nb : Int
  q : List Bid
/-- Where the slices of a fair lie. -/
structure FL where
  L : HL
  Ap : Option Addr
  cp : Nat
  Aq : Option Addr
  cq : Nat
abbrev FL.cells (F : FL) (f : Fair) : Array Value := #[.slice F.L.Ak f.h.ks.length F.L.ck, .int .i64 f.h.fl, .slice F.L.Ap f.h.ps.length F.L.cp, .slice F.L.Ab f.h.bs.length F.L.cb, .slice F.Ap f.pk.length F.cp, .int .i64 f.day, .int .i64 f.nb, .slice F.Aq f.q.length F.cq]
abbrev FL.enc (F : FL) (f : Fair) : Value := .agg #[.slice F.L.Ak f.h.ks.length F.L.ck, .int .i64 f.h.fl, .slice F.L.Ap f.h.ps.length F.L.cp, .slice F.L.Ab f.h.bs.length F.L.cb, .slice F.Ap f.pk.length F.cp, .int .i64 f.day, .int .i64 f.nb, .slice F.Aq f.q.length F.cq]
/-- The bids l lie at A. -/
def BidsAt (W : World) (B : Nat) (A : Option Addr) (l : List Bid) : Prop :=
  l = [] ∨ ∃ b off, A = some ⟨b, off, none⟩ ∧ b < B ∧ ∀ i x, l[i]? = some x → W.cell? ⟨b, off + i * 3, none⟩ = some (.int .i64 x.who) ∧ W.cell? ⟨b, off + i * 3 + 2, none⟩ = some (.int .i64 x.pay) ∧
    ∃ A' c', W.cell? ⟨b, off + i * 3 + 1, none⟩ = some (.slice A' x.bar.length c') ∧ (A' = none → c' = 0 ∧ x.bar = []) ∧ IntsAt W B A' x.bar
theorem BidsAt.keep {W W' : World} {B B' : Nat} {A : Option Addr} {l : List Bid} (h : BidsAt W B A l) (hB : B ≤ B') (hk : ∀ b o, b < B → W'.cell? ⟨b, o, none⟩ = W.cell? ⟨b, o, none⟩) : BidsAt W' B' A l := by
  rcases h with h | ⟨b, off, hA, hb, hc⟩
  · exact .inl h
  · refine .inr ⟨b, off, hA, by omega, fun i x hx => ?_⟩
    obtain ⟨h1, h2, A', c', h3, h4, h5⟩ := hc i x hx
    rw [hk _ _ hb, hk _ _ hb, hk _ _ hb]
    exact ⟨h1, h2, A', c', h3, h4, h5.keep hB hk⟩
theorem BidsAt.at_ {W : World} {B : Nat} {A : Option Addr} {l : List Bid} (h : BidsAt W B A l) {k : Nat} {x : Bid} (hx : l[k]? = some x) : ∃ b off A' c', A = some ⟨b, off, none⟩ ∧ b < B ∧
    W.cell? ⟨b, off + k * 3, none⟩ = some (.int .i64 x.who) ∧ W.cell? ⟨b, off + k * 3 + 1, none⟩ = some (.slice A' x.bar.length c') ∧ W.cell? ⟨b, off + k * 3 + 2, none⟩ = some (.int .i64 x.pay) ∧ (A' = none → c' = 0 ∧ x.bar = []) ∧ IntsAt W B A' x.bar := by
  rcases h with h | ⟨b, off, hA, hb, hc⟩
  · subst h; simp at hx
  · obtain ⟨h1, h2, A', c', h3, h4, h5⟩ := hc k x hx
    exact ⟨b, off, A', c', hA, hb, h1, h3, h2, h4, h5⟩
theorem BidsAt.drew {W : World} {B : Nat} {A : Option Addr} {l : List Bid} (h : BidsAt W B A l) : BidsAt W.drew B A l := h
structure FairAt (W : World) (B : Nat) (F : FL) (f : Fair) : Prop where
  h : HouseAt W B F.L f.h
  p : IntsAt W B F.Ap f.pk
  q : BidsAt W B F.Aq f.q
theorem FairAt.keep {W W' : World} {B B' : Nat} {F : FL} {f : Fair} (H : FairAt W B F f) (hB : B ≤ B') (hk : ∀ b o, b < B → W'.cell? ⟨b, o, none⟩ = W.cell? ⟨b, o, none⟩) : FairAt W' B' F f :=
  ⟨H.h.keep hB hk, H.p.keep hB hk, H.q.keep hB hk⟩
theorem FairAt.below {W W' : World} {F : FL} {f : Fair} (H : FairAt W W.heap.size F f) (hb : Below W.heap.size W W') : FairAt W' W'.heap.size F f :=
  H.keep hb.size fun _ _ hlt => hb.cell (p := ⟨_, _, none⟩) hlt
theorem FairAt.drew {W : World} {B : Nat} {F : FL} {f : Fair} (H : FairAt W B F f) : FairAt W.drew B F f := ⟨H.h.drew, H.p, H.q⟩
/-- The fair in a block of its own. -/
def FBox (W : World) (b : Nat) (F : FL) (f : Fair) : Prop := W.heap[b]? = some (.cells #[.slice F.L.Ak f.h.ks.length F.L.ck, .int .i64 f.h.fl, .slice F.L.Ap f.h.ps.length F.L.cp, .slice F.L.Ab f.h.bs.length F.L.cb, .slice F.Ap f.pk.length F.cp, .int .i64 f.day, .int .i64 f.nb, .slice F.Aq f.q.length F.cq] 62 (0, 0))
theorem FBox.cells {W : World} {b : Nat} {F : FL} {f : Fair} (hb : FBox W b F f) : W.cell? ⟨b, 0, none⟩ = some (.slice F.L.Ak f.h.ks.length F.L.ck) ∧ W.cell? ⟨b, 1, none⟩ = some (.int .i64 f.h.fl) ∧ W.cell? ⟨b, 2, none⟩ = some (.slice F.L.Ap f.h.ps.length F.L.cp) ∧ W.cell? ⟨b, 3, none⟩ = some (.slice F.L.Ab f.h.bs.length F.L.cb) ∧ W.cell? ⟨b, 4, none⟩ = some (.slice F.Ap f.pk.length F.cp) ∧ W.cell? ⟨b, 5, none⟩ = some (.int .i64 f.day) ∧ W.cell? ⟨b, 6, none⟩ = some (.int .i64 f.nb) ∧ W.cell? ⟨b, 7, none⟩ = some (.slice F.Aq f.q.length F.cq) := by
  simp [World.cell?, show W.heap[b]? = _ from hb]
theorem FBox.new (W : World) (F : FL) (f : Fair) : FBox (W.alloc (.cells #[.slice F.L.Ak f.h.ks.length F.L.ck, .int .i64 f.h.fl, .slice F.L.Ap f.h.ps.length F.L.cp, .slice F.L.Ab f.h.bs.length F.L.cb, .slice F.Ap f.pk.length F.cp, .int .i64 f.day, .int .i64 f.nb, .slice F.Aq f.q.length F.cq] 62)) W.heap.size F f := World.alloc_heap_new W _
theorem FBox.lt {W : World} {b : Nat} {F : FL} {f : Fair} (hb : FBox W b F f) : b < W.heap.size := (Array.getElem?_eq_some_iff.1 hb).1
theorem FBox.of {W W' : World} {b : Nat} {F : FL} {f : Fair} (hb : FBox W b F f) (e : W'.heap[b]? = W.heap[b]?) : FBox W' b F f := e.trans hb
theorem FBox.below {W W' : World} {b : Nat} {F : FL} {f : Fair} (hb : FBox W b F f) (h : Below W.heap.size W W') : FBox W' b F f := hb.of (h.block b hb.lt)
/-- A bid in a block of its own. -/
def BBox (W : World) (k : Nat) (A : Option Addr) (c : Nat) (b : Bid) : Prop := W.heap[k]? = some (.cells #[.int .i64 b.who, .slice A b.bar.length c, .int .i64 b.pay] 68 (0, 0))
theorem BBox.cells {W : World} {k : Nat} {A : Option Addr} {c : Nat} {b : Bid} (h : BBox W k A c b) : W.cell? ⟨k, 0, none⟩ = some (.int .i64 b.who) ∧ W.cell? ⟨k, 1, none⟩ = some (.slice A b.bar.length c) ∧ W.cell? ⟨k, 2, none⟩ = some (.int .i64 b.pay) := by
  simp [World.cell?, show W.heap[k]? = _ from h]
theorem BBox.new (W : World) (A : Option Addr) (c : Nat) (b : Bid) : BBox (W.alloc (.cells #[.int .i64 b.who, .slice A b.bar.length c, .int .i64 b.pay] 68)) W.heap.size A c b := World.alloc_heap_new W _
theorem BBox.lt {W : World} {k : Nat} {A : Option Addr} {c : Nat} {b : Bid} (h : BBox W k A c b) : k < W.heap.size := (Array.getElem?_eq_some_iff.1 h).1
theorem BBox.of {W W' : World} {k : Nat} {A : Option Addr} {c : Nat} {b : Bid} (h : BBox W k A c b) (e : W'.heap[k]? = W.heap[k]?) : BBox W' k A c b := e.trans h

/-! What is valid. -/
structure FN (f : Fair) : Prop where
  h : f.h.ks.length ≤ 1000 ∧ f.h.ps.length ≤ 1000 ∧ f.h.bs.length ≤ 1000
  p : f.pk.length ≤ 1000
  q : f.q.length ≤ 1000
  b : ∀ b ∈ f.q, b.bar.length ≤ 1000
def bidOK (f : Fair) (b : Bid) : Bool := inR b.who 0 (f.nb - 1) && (inR b.pay 0 99 && (decide (b.bar ≠ []) && riseB b.bar f.h.bs.length))
def packOK (f : Fair) : Bool := validH f.h && goodB f.h f.pk
def numsOK (f : Fair) : Bool := inR f.day 0 20 && (inR f.nb 0 4 && decide (f.q.length ≤ 8))
def validF (f : Fair) : Bool := packOK f && (numsOK f && f.q.all (bidOK f))
def ckF (f : Fair) : Int := if validF f then 0 else 90
theorem ckF_no {f : Fair} (h : validF f = false) : ckF f = 90 := by simp [ckF, h]
theorem ckF_yes {f : Fair} (h : validF f = true) : ckF f = 0 := by simp [ckF, h]
theorem bids_no {f : Fair} {k : Nat} {b : Bid} (h : f.q[k]? = some b) (hb : bidOK f b = false) : validF f = false := by
  have : f.q.all (bidOK f) = false := by rw [List.all_eq_false]; exact ⟨b, List.mem_of_getElem? h, by simp [hb]⟩
  simp [validF, this]
theorem bids_all {f : Fair} (h : ∀ k b, k < f.q.length → f.q[k]? = some b → bidOK f b = true) : f.q.all (bidOK f) = true := by
  rw [List.all_eq_true]
  intro b hb
  obtain ⟨k, hk⟩ := List.getElem?_of_mem hb
  exact h k b (List.getElem?_eq_some_iff.1 hk).1 hk
theorem swithin_any (n lo hi : Int) (w : World) : Calls Try.prog 110 #[.int .i64 n, .int .i64 lo, .int .i64 hi] w fun e w' => e = .returned (.bool (inR n lo hi)) ∧ w = w' := by
  cases h1 : decide (lo ≤ n)
  · have e1 : ¬ lo ≤ n := of_decide_eq_false h1
    have e2 : inR n lo hi = false := inR_false.2 (fun h => e1 h.1)
    rw [e2]
    go_enter Try.func110, Try.ntmps110
    go_wp2
    go_ret
    exact ⟨rfl, rfl⟩
  · have e1 : lo ≤ n := of_decide_eq_true h1
    cases h2 : decide (n ≤ hi)
    · have e3 : ¬ n ≤ hi := of_decide_eq_false h2
      have e2 : inR n lo hi = false := inR_false.2 (fun h => e3 h.2)
      rw [e2]
      go_enter Try.func110, Try.ntmps110
      go_wp2
      go_ret
      exact ⟨rfl, rfl⟩
    · have e3 : n ≤ hi := of_decide_eq_true h2
      have e2 : inR n lo hi = true := inR_true.2 ⟨e1, e3⟩
      rw [e2]
      go_enter Try.func110, Try.ntmps110
      go_wp2
      go_ret
      exact ⟨rfl, rfl⟩
example : (Try.prog.info? 189).map (·.size) = some 10 := by kernel_rfl
open Go.RowKit

/-! Check. -/
theorem good_no1 {f : Fair} (h : validH f.h = false) : goodRet f.h f.pk = (false, 80) := by simp [goodRet, h]
theorem good_is {f : Fair} (h : validH f.h = true) {x : Bool} (hg : goodB f.h f.pk = x) : goodRet f.h f.pk = (x, 0) := by simp [goodRet, h, hg]
theorem valid_no1 {f : Fair} (h : packOK f = false) : validF f = false := by simp [validF, h]
theorem valid_no2 {f : Fair} (h : numsOK f = false) : validF f = false := by simp [validF, h]
set_option maxRecDepth 100000 in
set_option maxHeartbeats 4000000 in
theorem scheck_any (F : FL) (f : Fair) (hn : FN f) (w : World) (hF : FairAt w w.heap.size F f) :
    Calls Try.prog 138 #[F.enc f] w fun e w' => e = .returned (.int .i64 (ckF f)) ∧ Below w.heap.size w w' := by
  have hbw := (Below.refl _ _).alloc (Nat.le_refl w.heap.size) (.cells #[.slice F.L.Ak f.h.ks.length F.L.ck, .int .i64 f.h.fl, .slice F.L.Ap f.h.ps.length F.L.cp, .slice F.L.Ab f.h.bs.length F.L.cb, .slice F.Ap f.pk.length F.cp, .int .i64 f.day, .int .i64 f.nb, .slice F.Aq f.q.length F.cq] 62)
  have HFA := Lib.hid (hF.below hbw)
  have HG := Lib.hid (Good_any F.L f.h hn.h f.pk hn.p F.Ap F.cp _ HFA.out.h HFA.out.p)
  have HB := Lib.hid (FBox.new w F f)
  have HBW := Lib.hid hbw
  have HN := Lib.hid hn
  have HF := Lib.hid hF
  clear hbw HFA hn hF
  cases hv : validH f.h
  · have h1 := HG.out
    rw [good_no1 hv] at h1
    have H1 := Lib.hid h1
    have hno : ckF f = 90 := ckF_no (valid_no1 (by simp [packOK, hv]))
    rw [hno]
    clear hv HG h1 hno
    go_enter Try.func138, Try.ntmps138
    go_wp2_with (go_at_call 181; refine H1.out.mono ?_; rintro e W1 ⟨rfl, hb1⟩; have HB1 := Lib.hid hb1; clear hb1)
    go_ret
    exact ⟨rfl, hb0to HBW.out HB1.out⟩
  cases hg : goodB f.h f.pk
  · have h1 := HG.out
    rw [good_is hv hg] at h1
    have H1 := Lib.hid h1
    have hno : ckF f = 90 := ckF_no (valid_no1 (by simp [packOK, hg]))
    rw [hno]
    clear hv HG h1 hno hg
    go_enter Try.func138, Try.ntmps138
    go_wp2_with (go_at_call 181; refine H1.out.mono ?_; rintro e W1 ⟨rfl, hb1⟩; have HB1 := Lib.hid hb1; clear hb1)
    go_ret
    exact ⟨rfl, hb0to HBW.out HB1.out⟩
  have h1 := HG.out
  rw [good_is hv hg] at h1
  have H1 := Lib.hid h1
  have HPK : Hid (packOK f = true) := Lib.hid (by simp [packOK, hv, hg])
  clear hv HG h1 hg
  cases h1 : inR f.day 0 20
  · have hno : ckF f = 90 := ckF_no (valid_no2 (by simp [numsOK, h1]))
    rw [hno]
    clear hno
    go_enter Try.func138, Try.ntmps138
    go_wp2_with (first
      | (go_at_call 181; refine H1.out.mono ?_; rintro e W1 ⟨rfl, hb1⟩; have HB1 := Lib.hid hb1; obtain ⟨g0, g1, g2, g3, g4, g5, g6, g7⟩ := (HB.out.below (by simpa using hb1)).cells; clear hb1 g0 g1 g2 g3 g4)
      | (go_at_call 110; refine (swithin_any _ _ _ _).mono ?_; rintro e w' ⟨rfl, rfl⟩))
    go_ret
    exact ⟨rfl, hb0to HBW.out HB1.out⟩
  cases h2 : inR f.nb 0 4
  · have hno : ckF f = 90 := ckF_no (valid_no2 (by simp [numsOK, h2]))
    rw [hno]
    clear hno
    go_enter Try.func138, Try.ntmps138
    go_wp2_with (first
      | (go_at_call 181; refine H1.out.mono ?_; rintro e W1 ⟨rfl, hb1⟩; have HB1 := Lib.hid hb1; obtain ⟨g0, g1, g2, g3, g4, g5, g6, g7⟩ := (HB.out.below (by simpa using hb1)).cells; clear hb1 g0 g1 g2 g3 g4)
      | (go_at_call 110; refine (swithin_any _ _ _ _).mono ?_; rintro e w' ⟨rfl, rfl⟩))
    go_ret
    exact ⟨rfl, hb0to HBW.out HB1.out⟩
  cases h3 : decide (f.q.length ≤ 8)
  · have h3' : ¬ f.q.length ≤ 8 := of_decide_eq_false h3
    have hno : ckF f = 90 := ckF_no (valid_no2 (by simp [numsOK, h3]))
    have HQ := Lib.hid HN.out.q
    rw [hno]
    have hq := HQ.out
    clear hno h3
    go_enter Try.func138, Try.ntmps138
    go_wp2_with (first
      | (go_at_call 181; refine H1.out.mono ?_; rintro e W1 ⟨rfl, hb1⟩; have HB1 := Lib.hid hb1; obtain ⟨g0, g1, g2, g3, g4, g5, g6, g7⟩ := (HB.out.below (by simpa using hb1)).cells; clear hb1 g0 g1 g2 g3 g4)
      | (go_at_call 110; refine (swithin_any _ _ _ _).mono ?_; rintro e w' ⟨rfl, rfl⟩))
    go_ret
    exact ⟨rfl, hb0to HBW.out HB1.out⟩
  have h3' : f.q.length ≤ 8 := of_decide_eq_true h3
  have HNU : Hid (numsOK f = true) := Lib.hid (by simp [numsOK, h1, h2, h3'])
  clear h3
  obtain ⟨L, Ap, cp, Aq, cq⟩ := F
  go_enter Try.func138, Try.ntmps138
  go_wp2_with (first
      | (go_at_call 181; refine H1.out.mono ?_; rintro e W1 ⟨rfl, hb1⟩; have HB1 := Lib.hid hb1; obtain ⟨g0, g1, g2, g3, g4, g5, g6, g7⟩ := (HB.out.below (by simpa using hb1)).cells; clear hb1 g0 g1 g2 g3 g4)
      | (go_at_call 110; refine (swithin_any _ _ _ _).mono ?_; rintro e w' ⟨rfl, rfl⟩))
  clear g5 g6 g7 h1 h2
  go_loopw [42] (fun i wr => ∃ k : Nat, k ≤ f.q.length ∧ i = .int .i64 k ∧ Hid (∀ j b, j < k → f.q[j]? = some b → bidOK f b = true) ∧ Below w.heap.size w wr ∧ FBox wr w.heap.size ⟨L, Ap, cp, Aq, cq⟩ f) (fun i _ => f.q.length - (intOf i).toNat)
  case atStart => exact ⟨0, Nat.zero_le _, rfl, Lib.hid (fun j x hj => by omega), hb0to HBW.out HB1.out, HB.out.below HB1.out⟩
  case round =>
    obtain ⟨k, hk, rfl, hok, hb, hB⟩ := hrel
    have hsz := hb.size
    by_cases hlt : k < f.q.length
    · obtain ⟨x, hx⟩ : ∃ x, f.q[k]? = some x := ⟨_, List.getElem?_eq_getElem hlt⟩
      obtain ⟨bk, ok, A', c', rfl, hbk, d1, d2, d3, hA', hI⟩ := HF.out.q.at_ hx
      have e1 := below_cell hb d1
      have e2 := below_cell hb d2
      have e3 := below_cell hb d3
      obtain ⟨g0, g1, g2, g3, g4, g5, g6, g7⟩ := hB.cells
      have hlt0 : w.heap.size < wr.heap.size := hB.lt
      have hne0 : ¬ w.heap.size = wr.heap.size := by omega
      have hx4 := HN.out.b x (List.mem_of_getElem? hx)
      have HX := Lib.hid hx
      have HI := Lib.hid hI
      have HAA := Lib.hid hA'
      have HB2 := Lib.hid hB
      have HNB : Hid (inR f.nb 0 4 = true) := Lib.hid (by have := HNU.out; simp only [numsOK, Bool.and_eq_true] at this; exact this.2.1)
      have hnb : IntKind.i64.wrap (f.nb - 1) = f.nb - 1 := by
        have := inR_true.1 HNB.out
        exact IntWalk.i64_in _ (by omega)
      clear hx hI hA' d1 d2 d3 g0 g1 g2 g4 g5 g7 hB
      cases h1 : inR x.who 0 (f.nb - 1)
      · have hno : Hid (bidOK f x = false) := Lib.hid (by simp [bidOK, h1])
        clear g3
        go_wp2_with (go_at_call 110; refine (swithin_any _ _ _ _).mono ?_; rintro e w' ⟨rfl, rfl⟩)
        go_ret
        exact ⟨by rw [ckF_no (bids_no HX.out hno.out)]; rfl, hb.alloc hsz _⟩
      cases h2 : inR x.pay 0 99
      · have hno : Hid (bidOK f x = false) := Lib.hid (by simp [bidOK, h2])
        clear g3
        go_wp2_with (go_at_call 110; refine (swithin_any _ _ _ _).mono ?_; rintro e w' ⟨rfl, rfl⟩)
        go_ret
        exact ⟨by rw [ckF_no (bids_no HX.out hno.out)]; rfl, hb.alloc hsz _⟩
      by_cases h3 : x.bar.length = 0
      · have hno : Hid (bidOK f x = false) := Lib.hid (by simp [bidOK, List.length_eq_zero_iff.1 h3])
        have h3' : ((x.bar.length : Int) == 0) = true := by simpa using h3
        clear g3
        go_wp2_with (go_at_call 110; refine (swithin_any _ _ _ _).mono ?_; rintro e w' ⟨rfl, rfl⟩)
        go_ret
        exact ⟨by rw [ckF_no (bids_no HX.out hno.out)]; rfl, hb.alloc hsz _⟩
      have h3' : ((x.bar.length : Int) == 0) = false := by simpa using h3
      have HP : Hid (inR x.who 0 (f.nb - 1) = true ∧ inR x.pay 0 99 = true ∧ x.bar ≠ []) := Lib.hid ⟨h1, h2, fun e => h3 (by rw [e]; rfl)⟩
      go_wp2_with (go_at_call 110; refine (swithin_any _ _ _ _).mono ?_; rintro e w' ⟨rfl, rfl⟩)
      clear h1 h2 h3' g3 g6
      have h4 : 0 < x.bar.length := by omega
      clear h3
      obtain ⟨wo, rfl⟩ : ∃ wo : World, wo = wr := ⟨_, rfl⟩
      have hbo := hb.alloc hsz (.cells #[.int .i64 x.who, .slice A' x.bar.length c', .int .i64 x.pay] 68)
      have hBo := HB2.out.of (Below.heap_alloc wo (.cells #[.int .i64 x.who, .slice A' x.bar.length c', .int .i64 x.pay] 68) _ HB2.out.lt)
      have HBO := Lib.hid hbo
      have HBBO := Lib.hid hBo
      clear hbo hBo
      go_loopw [68] (fun i wr => ∃ j : Nat, j ≤ x.bar.length ∧ i = .int .i64 j ∧ Hid (∀ m, m < j → riseOK x.bar f.h.bs.length m = true) ∧ Below w.heap.size w wr ∧ Below wo.heap.size wo wr ∧ FBox wr w.heap.size ⟨L, Ap, cp, some ⟨bk, ok, none⟩, cq⟩ f ∧ BBox wr wo.heap.size A' c' x) (fun i _ => x.bar.length - (intOf i).toNat)
      case atStart => exact ⟨0, Nat.zero_le _, rfl, Lib.hid (fun j hj => by omega), HBO.out, (Below.refl _ _).alloc (Nat.le_refl _) _, HBBO.out, BBox.new wo A' c' x⟩
      case round =>
        obtain ⟨j, hj, rfl, hrise, hb2, hb3, hB3, hX3⟩ := hrel
        have hsz2 := hb2.size
        have hsz3 := hb3.size
        have hbs := HN.out.h.2.2
        by_cases hjl : j < x.bar.length
        · obtain ⟨y, hy⟩ : ∃ y, x.bar[j]? = some y := ⟨_, List.getElem?_eq_getElem hjl⟩
          have hgy : x.bar.getD j 0 = y := by simp [List.getD, hy]
          obtain ⟨b1, o1, rfl, b1lt, c1⟩ := HI.out.at_ hy
          have u1 := below_cell hb2 c1
          obtain ⟨g0, g1, g2, g3, g4, g5, g6, g7⟩ := hB3.cells
          obtain ⟨k0, k1, k2⟩ := hX3.cells
          have hlt1 : w.heap.size < wr.heap.size := hB3.lt
          have hlt2 : wo.heap.size < wr.heap.size := hX3.lt
          clear g0 g1 g2 g4 g5 g6 g7 k0 k2 c1
          cases hr : inR y 0 ((f.h.bs.length : Int) - 1)
          · have hno : Hid (riseOK x.bar f.h.bs.length j = false) := Lib.hid (by rw [riseOK, hgy, hr]; rfl)
            have hbn : Hid (bidOK f x = false) := Lib.hid (by simp [bidOK, riseB_no hjl hno.out])
            clear hy hgy k1
            go_wp2_with (go_at_call 110; refine (swithin_any _ _ _ _).mono ?_; rintro e w' ⟨rfl, rfl⟩)
            go_ret
            exact ⟨by rw [ckF_no (bids_no HX.out hbn.out)]; rfl, hb2⟩
          rcases Nat.eq_zero_or_pos j with rfl | hj0
          · have hyes : Hid (riseOK x.bar f.h.bs.length 0 = true) := Lib.hid (by rw [riseOK, hgy, hr]; rfl)
            simp only [Nat.add_zero] at u1
            clear hy hgy k1
            go_wp2_with (go_at_call 110; refine (swithin_any _ _ _ _).mono ?_; rintro e w' ⟨rfl, rfl⟩)
            go_roundw
            case rel => exact ⟨1, by omega, by go_num, Lib.hid (fun j hj => by obtain rfl : j = 0 := (by omega); exact hyes.out), hb2, hb3, hB3, hX3⟩
            case measure => simp [intOf]; omega
          · obtain ⟨z, hz⟩ : ∃ z, x.bar[j - 1]? = some z := ⟨_, List.getElem?_eq_getElem (by omega)⟩
            have hgz : x.bar.getD (j - 1) 0 = z := by simp [List.getD, hz]
            obtain ⟨b1', o1', e', _, c2⟩ := HI.out.at_ hz
            cases e'
            have hd0 : decide (0 < j) = true := by simp; omega
            have ht3 : (1 : Int) ≤ (j : Int) := by omega
            have ht2 : (0 : Int) ≤ (j : Int) - 1 := by omega
            have ht4 : (j : Int) - 1 < x.bar.length := by omega
            have ec : IntKind.i64.wrap ((j : Int) - 1) = ((j - 1 : Nat) : Int) := by rw [IntWalk.i64_in _ (by omega)]; omega
            have u2 := below_cell hb2 c2
            have hk1 : ((j - 1 : Nat) : Int) < x.bar.length := by omega
            have hk2 : j - 1 < x.bar.length := by omega
            clear c2
            by_cases hyz : y ≤ z
            · have hdx : decide (y ≤ z) = true := by simpa using hyz
              have hno : Hid (riseOK x.bar f.h.bs.length j = false) := Lib.hid (by rw [riseOK, hgy, hgz, hr]; simp; omega)
              have hbn : Hid (bidOK f x = false) := Lib.hid (by simp [bidOK, riseB_no hjl hno.out])
              clear hy hgy hz hgz
              go_wp2_with (go_at_call 110; refine (swithin_any _ _ _ _).mono ?_; rintro e w' ⟨rfl, rfl⟩)
              go_ret
              exact ⟨by rw [ckF_no (bids_no HX.out hbn.out)]; rfl, hb2⟩
            · have hdx : decide (y ≤ z) = false := by simpa using hyz
              have hyes : Hid (riseOK x.bar f.h.bs.length j = true) := Lib.hid (by rw [riseOK, hgy, hgz, hr]; simp; omega)
              clear hy hgy hz hgz
              go_wp2_with (go_at_call 110; refine (swithin_any _ _ _ _).mono ?_; rintro e w' ⟨rfl, rfl⟩)
              go_roundw
              case rel => exact ⟨j + 1, by omega, by go_num, Lib.hid (fun m hm => by by_cases e : m = j; exact e ▸ hyes.out; exact hrise.out m (by omega)), hb2, hb3, hB3, hX3⟩
              case measure => simp [intOf]; omega
        · obtain rfl : j = x.bar.length := by omega
          have hbk : Hid (bidOK f x = true) := Lib.hid (by
            obtain ⟨q1, q2, q3⟩ := HP.out
            simp [bidOK, q1, q2, q3, riseB_yes hrise.out])
          clear hrise hjl hj hbs
          go_wp2
          go_roundw
          case rel => exact ⟨k + 1, by omega, by go_num, Lib.hid (fun m b hm hb' => by
            by_cases e : m = k
            · subst e
              have := HX.out.symm.trans hb'
              cases this
              exact hbk.out
            · exact hok.out m b (by omega) hb'), hb2, hB3⟩
          case measure => simp [intOf]; omega
    · obtain rfl : k = f.q.length := by omega
      have hall : Hid (f.q.all (bidOK f) = true) := Lib.hid (bids_all hok.out)
      clear hok hlt hk
      go_wp2
      go_ret
      exact ⟨by rw [ckF_yes (by rw [validF, HPK.out, HNU.out, hall.out]; rfl)]; rfl, hb⟩
end Go.Proofs.Ytmbcpmnigggbaaa
namespace Go.Proofs.Ytmbcpmnigggbaaa
open Go.RowKit

/-! Sets as bits. -/
theorem has_bit : ∀ m : Nat, m < 256 → ∀ i : Nat, i < 9 → (bits BinOp.and IntKind.i64 ((m : Int) / 2 ^ i) 1 == 1) = m.testBit i := by decide +kernel
theorem or_bits : ∀ m : Nat, m < 16 → ∀ i : Nat, i < 16 → bits BinOp.or IntKind.i64 (m : Int) (i : Int) = ((m ||| i : Nat) : Int) := by decide +kernel
theorem and_bits : ∀ m : Nat, m < 16 → ∀ i : Nat, i < 16 → bits BinOp.and IntKind.i64 (m : Int) (i : Int) = ((m &&& i : Nat) : Int) := by decide +kernel
theorem andnot_bits : ∀ m : Nat, m < 16 → ∀ i : Nat, i < 16 → bits BinOp.andNot IntKind.i64 (m : Int) (i : Int) = ((m &&& (15 - i) : Nat) : Int) := by decide +kernel
theorem has_end : ∀ m : Nat, m < 256 → ∀ i : Nat, i < 9 → ((m : Int) / 2 ^ i ≤ 0) → ∀ j : Nat, j < 8 → i ≤ j → m.testBit j = false := by decide +kernel
theorem has_more : ∀ m : Nat, m < 256 → ∀ i : Nat, i < 9 → (0 < (m : Int) / 2 ^ i) → i < 8 := by decide +kernel
set_option maxRecDepth 100000 in
theorem has_any (m i : Nat) (hm : m < 256) (hi : i < 9) (w : World) :
    Calls Try.prog 143 #[.int .i64 (m : Int), .int .i64 (i : Int)] w fun e w' => e = .returned (.bool (m.testBit i)) ∧ w = w' := by
  have h0 := has_bit m hm i hi
  go_enter Try.func143, Try.ntmps143
  go_wp2
  go_ret
  exact ⟨rfl, rfl⟩
/-- The numbers of a set. -/
def intsN (l : List Nat) : List Int := l.map fun i : Nat => (i : Int)
theorem intsN_app (l m : List Nat) : intsN (l ++ m) = intsN l ++ intsN m := by simp [intsN]
theorem intsN_len (l : List Nat) : (intsN l).length = l.length := by simp [intsN]
theorem intsN_at {l : List Nat} {k i : Nat} (h : l[k]? = some i) : (intsN l)[k]? = some (i : Int) := by simp [intsN, h]
theorem bits_end {m k : Nat} (h : ∀ j, j < 8 → k ≤ j → m.testBit j = false) (hk : k ≤ 8) : bitsL k m = bitsL 8 m := by
  have : ∀ d, k + d ≤ 8 → bitsL (k + d) m = bitsL k m := fun d => by
    induction d with
    | zero => intro _; rfl
    | succ d ih =>
      intro hd
      rw [show k + (d + 1) = (k + d) + 1 by omega, bits_succ, ih (by omega), h (k + d) (by omega) (by omega)]
      simp
  have := this (8 - k) (by omega)
  rw [show k + (8 - k) = 8 by omega] at this
  exact this.symm
set_option maxRecDepth 100000 in
set_option maxHeartbeats 4000000 in
theorem list_any (m : Nat) (hm : m < 256) (w : World) :
    Calls Try.prog 93 #[.int .i64 (m : Int)] w fun e w' => RowRet (intsN (bitsL 8 m)) w.heap.size w' e ∧ Below w.heap.size w w' := by
  go_enter Try.func93, Try.ntmps93
  go_wp2
  go_loopw [3, 4] (fun s i wr => ∃ k : Nat, k ≤ 8 ∧ i = .int .i64 k ∧ Ints wr w.heap.size s (intsN (bitsL k m)) ∧ Below w.heap.size w wr) (fun _ i _ => 9 - (intOf i).toNat)
  case atStart => exact ⟨0, by omega, rfl, by simpa [bitsL, intsN] using ints_nil w w.heap.size, Below.refl _ _⟩
  case round =>
    obtain ⟨k, hk, rfl, hown, hb⟩ := hrel
    have hsz := hb.size
    have hlen := bits_len k m
    rw [← intsN_len] at hlen
    by_cases hlt : 0 < (m : Int) / 2 ^ k
    · have hk8 := has_more m hm k (by omega) hlt
      have hd1 : decide (0 < (m : Int) / 2 ^ k) = true := by simpa using hlt
      cases hbit : m.testBit k
      · have HY : Hid (bitsL (k + 1) m = bitsL k m) := Lib.hid (by rw [bits_succ, hbit]; simp)
        clear hlt
        go_wp2_with (go_at_call 143; refine (has_any m k hm (by omega) _).mono ?_; rintro e w' ⟨rfl, rfl⟩)
        go_roundw
        case rel => exact ⟨k + 1, by omega, by go_num, by rw [HY.out]; exact hown, hb⟩
        case measure => simp [intOf]; omega
      · have HY : Hid (intsN (bitsL (k + 1) m) = intsN (bitsL k m) ++ [(k : Int)]) := Lib.hid (by rw [bits_succ, hbit, if_pos rfl, intsN_app]; rfl)
        clear hlt
        go_wp2_with (first
          | (refine wpl_app rfl (.tmp 14) (.tmp 16) rfl w.heap.size w.heap.size _ (intsN (bitsL k m)) k rfl (hown.alloc _) ⟨wr.heap.size, 0, none⟩ 1 rfl (by simp [go_sem]) (by omega) (by simp; omega) (Nat.le_refl _) ?_; intro v' w' hown' hb')
          | (go_at_call 143; refine (has_any m k hm (by omega) _).mono ?_; rintro e w' ⟨rfl, rfl⟩))
        go_roundw
        case rel => exact ⟨k + 1, by omega, by go_num, by rw [HY.out]; exact hown', hb.trans (((Below.refl _ _).alloc hsz _).trans hb')⟩
        case measure => simp [intOf]; omega
    · have hd1 : decide (0 < (m : Int) / 2 ^ k) = false := by simpa using hlt
      have HE := Lib.hid (bits_end (has_end m hm k (by omega) (by omega)) hk)
      clear hlt
      go_wp2
      go_ret
      exact ⟨⟨_, rfl, by rw [← HE.out]; exact hown⟩, hb⟩
open Go.RowKit

/-! What is ready. -/
def dOK (h : House) (pack : List Int) (day : Int) (b : Int) : Bool := decide ((caskOf (packedC h pack) b.toNat).d ≤ day)
theorem one_shl : ∀ i : Nat, i < 8 → wrap64 (2 ^ i) = ((1 <<< i : Nat) : Int) := by decide +kernel
theorem shl_lt : ∀ i : Nat, i < 4 → 1 <<< i < 16 := by decide +kernel
set_option maxRecDepth 100000 in
set_option maxHeartbeats 4000000 in
theorem ready_any (F : FL) (f : Fair) (hn : FN f) (hv : validH f.h = true) (pack : List Int) (hg : goodB f.h pack = true) (A : Option Addr) (c : Nat) (day : Int) (w : World) (hF : FairAt w w.heap.size F f) (hP : IntsAt w w.heap.size A pack) :
    Calls Try.prog 139 #[F.enc f, .slice A pack.length c, .int .i64 day] w fun e w' => (∃ u : Nat, e = .returned (.int .i64 u) ∧ MaskOf (pack.filter (dOK f.h pack day)) u) ∧ Below w.heap.size w w' := by
  have hpl := (goodB_parts hg).1
  have hpr := (goodB_parts hg).2.1
  have hb4 := (HOK.ofValid hv).bl
  have hps := (HOK.ofValid hv).pl
  have HRG := Lib.hid hpr
  have HV := Lib.hid hv
  have HG := Lib.hid hg
  have HN := Lib.hid hn
  have HF := Lib.hid hF
  have HP := Lib.hid hP
  have HB := Lib.hid (FBox.new w F f)
  have hp6 : pack.length ≤ 6 := by omega
  clear hn hF hP hpl hpr hv hg hps
  obtain ⟨L, Ap, cp, Aq, cq⟩ := F
  go_enter Try.func139, Try.ntmps139
  go_wp2
  go_loopw [6, 15] (fun s i wr => ∃ k : Nat, k ≤ pack.length ∧ i = .int .i64 k ∧ (∃ u : Nat, s = .int .i64 u ∧ MaskOf ((pack.take k).filter (dOK f.h pack day)) u) ∧ Below w.heap.size w wr ∧ FBox wr w.heap.size ⟨L, Ap, cp, Aq, cq⟩ f) (fun _ i _ => pack.length - (intOf i).toNat)
  case atStart => exact ⟨0, Nat.zero_le _, rfl, ⟨0, rfl, MaskOf.nil⟩, (Below.refl _ _).alloc (Nat.le_refl _) _, HB.out⟩
  case round =>
    obtain ⟨k, hk, rfl, ⟨u, rfl, hu⟩, hb, hB⟩ := hrel
    have hsz := hb.size
    by_cases hlt : k < pack.length
    · obtain ⟨x, hx⟩ : ∃ x, pack[k]? = some x := ⟨_, List.getElem?_eq_getElem hlt⟩
      obtain ⟨b1, o1, eA, b1lt, d1⟩ := HP.out.at_ hx
      subst eA
      have e1 := below_cell hb d1
      have hxr := HRG.out x (List.mem_of_getElem? hx)
      obtain ⟨xn, rfl⟩ := Int.eq_ofNat_of_zero_le hxr.1
      have hxn : xn < 4 := by omega
      obtain ⟨g0, g1, g2, g3, g4, g5, g6, g7⟩ := hB.cells
      have hlt0 : w.heap.size < wr.heap.size := hB.lt
      have hFW := HF.out.below hb
      have h1 := barrel_any L f.h HN.out.h pack (by omega) xn (some ⟨b1, o1, none⟩) c wr (hFW.h) (HP.out.keep hsz fun _ _ hlt => hb.cell (p := ⟨_, _, none⟩) hlt)
      have hbr : barrelRet f.h pack xn = ((caskOf (packedC f.h pack) xn).p, saltC f.h.fl (caskOf (packedC f.h pack) xn), (caskOf (packedC f.h pack) xn).d, 0) := by
        rw [barrelRet, if_neg (by simp [HV.out]), if_neg (by simp [HG.out, inR]; omega)]; rfl
      rw [hbr] at h1
      have H1 := Lib.hid h1
      have HXX := Lib.hid hx
      have HBR := Lib.hid hB
      have ht : Hid (pack.take (k + 1) = pack.take k ++ [(xn : Int)]) := Lib.hid (take_snoc_next hx).symm
      have HSH := Lib.hid (one_shl xn (by omega))
      have HOR := Lib.hid (or_bits u hu.lt (1 <<< xn) (shl_lt xn hxn))
      have HU := Lib.hid hu
      clear hx d1 hxr h1 hbr hFW g4 g5 g6 g7 hB hu
      cases hd : decide ((caskOf (packedC f.h pack) xn).d ≤ day)
      · have HNO : Hid (dOK f.h pack day xn = false) := Lib.hid (by simpa [dOK] using hd)
        go_wp2_with (go_at_call 182; refine H1.out.mono ?_; rintro e W1 ⟨rfl, hb1⟩; have HB1 := Lib.hid hb1; clear hb1)
        go_roundw
        case rel => exact ⟨k + 1, by omega, by go_num, ⟨u, rfl, by rw [ht.out, List.filter_append, List.filter_cons_of_neg (by simp [HNO.out])]; simpa using HU.out⟩, hb0to hb HB1.out, HBR.out.below HB1.out⟩
        case measure => simp [intOf]; omega
      · have HYES : Hid (dOK f.h pack day xn = true) := Lib.hid (by simpa [dOK] using hd)
        go_wp2_with (go_at_call 182; refine H1.out.mono ?_; rintro e W1 ⟨rfl, hb1⟩; have HB1 := Lib.hid hb1; clear hb1)
        go_roundw
        case rel => exact ⟨k + 1, by omega, by go_num, ⟨u ||| (1 <<< xn), congrArg _ (by rw [HSH.out, HOR.out]), by rw [ht.out, List.filter_append, List.filter_cons_of_pos HYES.out]; exact HU.out.snoc hxn⟩, hb0to hb HB1.out, HBR.out.below HB1.out⟩
        case measure => simp [intOf]; omega
    · obtain rfl : k = pack.length := by omega
      rw [List.take_length] at hu
      go_wp2
      go_ret
      exact ⟨⟨u, rfl, hu⟩, hb⟩
end Go.Proofs.Ytmbcpmnigggbaaa
namespace Go.Proofs.Ytmbcpmnigggbaaa
open Go.RowKit

/-! A law of an iterator that makes memory; words on blocks. -/
theorem set_other_heap {W : World} {b o k : Nat} {u : Value} (hk : k < W.heap.size) (hne : k ≠ b) : (W.setCell ⟨b, o, none⟩ u).heap[k]? = W.heap[k]? := ((KpB.refl (fun k => k = b) W.heap.size W).set o u (.inl rfl)).block k hk hne
theorem al_below (W : World) (o : Obj) : Below W.heap.size W (W.alloc o) := (Below.refl _ W).alloc (Nat.le_refl _) o
theorem cell_of_heap {W : World} {b o : Nat} {arr : Array Value} {t : TypeId} {v : Value} (h : W.heap[b]? = some (.cells arr t (0, 0))) (hv : arr[o]? = some v) : W.cell? ⟨b, o, none⟩ = some v := by
  unfold World.cell?
  simp only [h]
  exact hv
theorem frozen_of_heap {W : World} {b : Nat} {arr : Array Value} {t : TypeId} (h : W.heap[b]? = some (.cells arr t (0, 0))) (o : Nat) : W.frozen? ⟨b, o, none⟩ = false := by
  unfold World.frozen?
  simp only [h]
  simp
theorem heap_keep {W : World} {b : Nat} {o o' : Obj} (h : W.heap[b]? = some o) : (W.alloc o').heap[b]? = some o := (Below.heap_alloc _ _ _ (heap_lt h)).trans h
theorem heap_new1 (W : World) (o : Obj) : (W.alloc o).heap[W.heap.size]? = some o := World.alloc_heap_new W o
theorem heap_new2 (W : World) (o1 o2 : Obj) : ((W.alloc o1).alloc o2).heap[W.heap.size + 1]? = some o2 := by
  have := World.alloc_heap_new (W.alloc o1) o2; rwa [World.size_alloc] at this
theorem heap_new3 (W : World) (o1 o2 o3 : Obj) : (((W.alloc o1).alloc o2).alloc o3).heap[W.heap.size + 1 + 1]? = some o3 := by
  have := World.alloc_heap_new ((W.alloc o1).alloc o2) o3; rwa [World.size_alloc, World.size_alloc] at this
/-- **AN ITERATOR THAT MAKES MEMORY AND WRITES NOTHING ELDER, WHOSE YIELDS CAN BE SEEN**: 'Sees B x args X' tells what it hands over at a yield, and how that lies in memory (from B on). S: what the round may write of what lay in w₀. -/
def SeqMakes {α : Type} (F : Fence) (n : Nat) (P : Program) (g : Nat) (fb lb : Array Value) (S : Nat → Prop) (Sees : Nat → α → Array Value → World → Prop) (xs : List α) (w₀ : World) : Prop :=
  ∀ (l : Nat) (J Jx : List α → World → Prop) (W : World), Below w₀.heap.size w₀ W →
    (∀ s X Y, W.heap.size ≤ X.heap.size → J s X → Below X.heap.size X Y → J s Y) →
    (∀ s X Y, W.heap.size ≤ X.heap.size → Jx s X → Below X.heap.size X Y → Jx s Y) →
    (∀ pre x args X, W.heap.size ≤ X.heap.size → J pre X → Sees W.heap.size x args X → pre ++ [x] <+: xs →
      YieldAt F (n - 1) P l args X fun e X' => KpB (fun k => S k ∨ Seg w₀.heap.size W.heap.size k) X.heap.size X X' ∧
        ((e = .returned (.bool true) ∧ J (pre ++ [x]) X') ∨ (e = .returned (.bool false) ∧ Jx (pre ++ [x]) X'))) →
    J [] W →
    CallsIn F n P g (fb ++ #[.func (.yield l) #[] #[]] ++ lb) W fun e W' => (∃ v, e = .returned v) ∧ W.heap.size ≤ W'.heap.size ∧ (J xs W' ∨ ∃ pre, pre <+: xs ∧ Jx pre W')

/-- How the body of a round may be left. -/
def makesPost {α : Type} (S : Nat → Prop) (I : List α → World → Prop) (Ix : Code → List α → World → Prop) (xs : List α) (X : World) : Exit → Act → World → Prop
  | .normal, _, X' => KpB S X.heap.size X X' ∧ I xs X'
  | .ret, _, X' => KpB S X.heap.size X X' ∧ Ix .ret xs X'
  | .exit id, _, X' => KpB S X.heap.size X X' ∧ Ix (.exit id) xs X'
  | .goto t, _, X' => KpB S X.heap.size X X' ∧ Ix (.goto t) xs X'
  | .panic _, _, _ => False
  | .outgrown, _, _ => False

variable {F : Fence} {n : Nat} {P : Program}

theorem wpIn_rangeFunc_makes {α : Type} {g : Operand} {ps : Array Tmp} {assign body : Code} {Q : Exit → Act → World → Prop} {a : Act} {w : World}
    (hro : F.round = none) (h1 : 1 ≤ n) {gf : Nat} {fb lb : Array Value} (hg : a.eval g = .func (.func gf) fb lb) (hFg : F.fn gf) (eg : ∀ args w, (callFunc gf args).run P w = .ok (.enter gf args) w)
    {S : Nat → Prop} {Sees : Nat → α → Array Value → World → Prop} {xs : List α} {w0 : World} (hseq : SeqMakes F (n - 1) P gf fb lb S Sees xs w0) (hb0 : Below w0.heap.size w0 w) (hS : ∀ k, S k → k < w.heap.size)
    (hps : ∀ B x args X, Sees B x args X → args.size = ps.size)
    (hSees : ∀ B x args X Y, B ≤ X.heap.size → Sees B x args X → KpB (fun k => k < B) X.heap.size X Y → Sees B x args Y)
    (I : List α → World → Prop) (Ix : Code → List α → World → Prop)
    (hI : ∀ s X Y, w.heap.size + 2 ≤ X.heap.size → I s X → KpB (Seg w.heap.size (w.heap.size + 2)) X.heap.size X Y → I s Y)
    (hIx : ∀ c s X Y, w.heap.size + 2 ≤ X.heap.size → Ix c s X → KpB (Seg w.heap.size (w.heap.size + 2)) X.heap.size X Y → Ix c s Y)
    (h0 : ∀ X, w.heap.size + 2 ≤ X.heap.size → Below w.heap.size w X → I [] X)
    (Ax : α → Array Value → Act → World → Prop) (hAx : ∀ x args a' X Y, w.heap.size + 2 ≤ X.heap.size → Ax x args a' X → KpB (fun k => k < w.heap.size + 2) X.heap.size X Y → Ax x args a' Y)
    (hassign : ∀ (l : Nat) (x : α) (args : Array Value) (X : World) (K : Act → World → Prop), w.heap.size + 2 ≤ X.heap.size → Sees (w.heap.size + 2) x args X → (∀ a' X', (X' = X ∨ ∃ o, X' = X.alloc o) → Ax x args a' X' → K a' X') →
      assign.wpIn (F.inRound l) (n - 1 - 1) P (Exit.then K (fun _ _ _ => False)) { tmps := (ps.zip args).foldl (fun t (p, v) => t.setIfInBounds p v) a.tmps, defers := [] } X)
    (hbody : ∀ (l : Nat) (pre : List α) (x : α) (args : Array Value) (a' : Act) (X : World), w.heap.size + 2 ≤ X.heap.size → pre ++ [x] <+: xs → I pre X → Sees (w.heap.size + 2) x args X → Ax x args a' X →
      body.wpIn (F.inRound l) (n - 1 - 1) P (makesPost S I Ix (pre ++ [x]) X) a' X)
    (hdone : ∀ (X : World), w.heap.size + 2 ≤ X.heap.size → I xs X → X.heap[w.heap.size]? = some (.deferred (some [])) → Q .normal { a with defers := { target := .collected w.heap.size, args := #[] } :: a.defers } X)
    (hstop : ∀ (c : Code) (pre : List α) (X : World), w.heap.size + 2 ≤ X.heap.size → pre <+: xs → Ix c pre X → X.heap[w.heap.size]? = some (.deferred (some [])) →
      c.wpIn F n P Q { a with defers := { target := .collected w.heap.size, args := #[] } :: a.defers } X) :
    (Code.rangeFunc g ps assign body).wpIn F n P Q a w := by
  refine wpIn_rangeFunc ?_
  intro fn hfn
  rw [hro]
  obtain ⟨rec, hrec⟩ : ∃ rec : LoopState → Option Code → Loop, rec = fun st pe => { state := st, pending := pe, fn, tmps := a.tmps, params := ps, assign, body, defers := w.heap.size } := ⟨_, rfl⟩
  obtain ⟨W1, hW1⟩ : ∃ W1, (w.alloc (.deferred (some []))).alloc (.loop (rec .ready none)) = W1 := ⟨_, rfl⟩
  have hL1 : W1.heap[w.heap.size + 1]? = some (.loop (rec .ready none)) := by
    rw [← hW1]; have := World.alloc_heap_new (w.alloc (.deferred (some []))) (.loop (rec .ready none)); rwa [World.size_alloc] at this
  have hK1 : W1.heap[w.heap.size]? = some (.deferred (some [])) := by
    rw [← hW1]; exact (Below.heap_alloc _ _ _ (by simp)).trans (World.alloc_heap_new w _)
  have hb1w : Below w.heap.size w W1 := by
    rw [← hW1]; exact ((Below.refl _ w).alloc (Nat.le_refl _) _).alloc (by simp) _
  have hb1 : Below w0.heap.size w0 W1 := hb0.trans (hb1w.mono hb0.size)
  have hz1 : W1.heap.size = w.heap.size + 2 := by rw [← hW1]; simp
  refine ⟨w.heap.size + 1, [{ target := .collected w.heap.size, args := #[] }], W1, { target := .fn (.func gf) lb, args := fb ++ #[.func (.yield (w.heap.size + 1)) #[] #[]] }, W1, gf,
    fb ++ #[.func (.yield (w.heap.size + 1)) #[] #[]] ++ lb, W1, ?_, ?_, ?_, ?_, fun _ => h1, ?_⟩
  · rw [← hW1, hrec]; exact run_enterLoop_outer _ _ _ _ _
  · simp only [resolve, hg]
    simp [go_sem, Deferred.ofValue]
  · intro f' hf'; simp [Target.leads] at hf'; subst hf'; exact hFg
  · simp [invoke, go_sem, eg]
  · have hbk : ∀ {X Y : World}, Below X.heap.size X Y → KpB (Seg w.heap.size (w.heap.size + 2)) X.heap.size X Y := fun h => kpB_of_below h
    refine (hseq (w.heap.size + 1)
      (fun pre X => I pre X ∧ X.heap[w.heap.size + 1]? = some (.loop (rec .ready none)) ∧ X.heap[w.heap.size]? = some (.deferred (some [])))
      (fun pre X => ∃ c, Ix c pre X ∧ X.heap[w.heap.size + 1]? = some (.loop (rec .done (some c))) ∧ X.heap[w.heap.size]? = some (.deferred (some [])))
      W1 hb1
      (fun s X Y hX hs hk => ⟨hI s X Y (by omega) hs.1 (hbk hk), (hk.block _ (by omega)).trans hs.2.1, (hk.block _ (by omega)).trans hs.2.2⟩)
      (fun s X Y hX hs hk => by
        obtain ⟨c, hc, hl, hkk⟩ := hs
        exact ⟨c, hIx c s X Y (by omega) hc (hbk hk), (hk.block _ (by omega)).trans hl, (hk.block _ (by omega)).trans hkk⟩)
      ?_ ⟨h0 _ (by omega) hb1w, hL1, hK1⟩).mono ?_
    · -- one round
      rintro pre x args X hX ⟨hi, hl, hk⟩ hsee hpre
      rw [hz1] at hsee
      have hy := run_yield (P := P) (args := args) hl (by rw [hrec]; exact hps _ x args X hsee)
      rw [hrec] at hy
      refine ⟨fn, _, assign, body, hy, roundIn_of_wpIn hfn (hassign _ x args X _ (by omega) hsee ?_)⟩
      clear hy
      intro a' Xa hXa hax
      have hka : KpB (fun _ => False) X.heap.size X Xa := by
        rcases hXa with rfl | ⟨o, rfl⟩
        · exact KpB.refl _ _ _
        · exact (KpB.refl _ _ _).alloc _ (Nat.le_refl _)
      have hza : X.heap.size ≤ Xa.heap.size := hka.size
      have hla : Xa.heap[w.heap.size + 1]? = some (.loop (rec .ready none)) := (hka.block _ (by omega) (fun h => h)).trans hl
      have hkka : Xa.heap[w.heap.size]? = some (.deferred (some [])) := (hka.block _ (by omega) (fun h => h)).trans hk
      have hia : I pre Xa := hI pre X Xa (by omega) hi (hka.mono (Nat.le_refl _) fun _ _ h => h.elim)
      have hseea : Sees (w.heap.size + 2) x args Xa := hSees _ _ _ _ _ (by omega) hsee (hka.mono (Nat.le_refl _) fun _ _ h => h.elim)
      refine ⟨_, run_beginRound hla (by rw [hrec]), ?_⟩
      obtain ⟨Xb, hXb⟩ : ∃ Xb, Xa.putObj (w.heap.size + 1) (.loop { rec .ready none with state := .busy }) = Xb := ⟨_, rfl⟩
      have hlb : Xb.heap[w.heap.size + 1]? = some (.loop { rec .ready none with state := .busy }) := by rw [← hXb]; exact World.putObj_heap_same (by omega)
      have hkb : Xb.heap[w.heap.size]? = some (.deferred (some [])) := by rw [← hXb]; exact (World.putObj_heap_other (by omega)).trans hkka
      have hzb : Xb.heap.size = Xa.heap.size := by rw [← hXb]; simp
      have hab : KpB (fun k => k = w.heap.size + 1) Xa.heap.size Xa Xb := by rw [← hXb]; exact (KpB.refl _ _ _).put _ _ (.inl rfl)
      rw [hXb]
      have hib : I pre Xb := hI pre Xa Xb (by omega) hia (hab.mono (Nat.le_refl _) fun k _ h => ⟨by omega, by omega⟩)
      have hseeb : Sees (w.heap.size + 2) x args Xb := hSees _ _ _ _ _ (by omega) hseea (hab.mono (Nat.le_refl _) fun k _ h => (by have h' : k = w.heap.size + 1 := h; omega : k < w.heap.size + 2))
      have haxb : Ax x args a' Xb := hAx _ _ _ _ _ (by omega) hax (hab.mono (Nat.le_refl _) fun k _ h => (by have h' : k = w.heap.size + 1 := h; omega : k < w.heap.size + 2))
      refine wpIn_mono (hbody _ pre x args a' Xb (by omega) hpre hib hseeb haxb) ?_
      have hS' : ∀ {X3}, KpB S Xb.heap.size Xb X3 → ∀ (o : Obj), KpB (fun k => S k ∨ Seg w0.heap.size W1.heap.size k) X.heap.size X (X3.putObj (w.heap.size + 1) o) := fun {X3} h3 o => by
        have hw0 := hb0.size
        have hl' : Seg w0.heap.size W1.heap.size (w.heap.size + 1) := ⟨by omega, by omega⟩
        have k1 : KpB (fun k => S k ∨ Seg w0.heap.size W1.heap.size k) X.heap.size X Xa := hka.mono (by omega) fun _ _ h => h.elim
        have k2 : KpB (fun k => S k ∨ Seg w0.heap.size W1.heap.size k) X.heap.size Xa Xb := hab.mono (by omega) fun k _ h => by have h' : k = w.heap.size + 1 := h; subst h'; exact .inr hl'
        have k3 : KpB (fun k => S k ∨ Seg w0.heap.size W1.heap.size k) X.heap.size Xb X3 := h3.mono (by omega) fun _ _ h => .inl h
        exact ((k1.trans k2).trans k3).put _ _ (.inl (.inr hl'))
      have fin : ∀ (jump : Option Code) (X3 : World), KpB S Xb.heap.size Xb X3 →
          (Instr.endRound (w.heap.size + 1) jump).run P X3 = .ok (.bool jump.isNone) (X3.putObj (w.heap.size + 1) (.loop (rec (if jump.isNone then .ready else .done) jump))) ∧
          w.heap.size + 2 ≤ X3.heap.size ∧
          (X3.putObj (w.heap.size + 1) (.loop (rec (if jump.isNone then .ready else .done) jump))).heap[w.heap.size + 1]? = some (.loop (rec (if jump.isNone then .ready else .done) jump)) ∧
          (X3.putObj (w.heap.size + 1) (.loop (rec (if jump.isNone then .ready else .done) jump))).heap[w.heap.size]? = some (.deferred (some [])) ∧
          KpB (Seg w.heap.size (w.heap.size + 2)) X3.heap.size X3 (X3.putObj (w.heap.size + 1) (.loop (rec (if jump.isNone then .ready else .done) jump))) := fun jump X3 hk3 => by
        have hns : ¬ S (w.heap.size + 1) := fun h => by have := hS _ h; omega
        have hns' : ¬ S w.heap.size := fun h => by have := hS _ h; omega
        have hl3 := (hk3.block _ (by omega) hns).trans hlb
        have hk3' := (hk3.block _ (by omega) hns').trans hkb
        have hz3 := hk3.size
        have := run_endRound (P := P) jump hl3
        rw [hrec] at this ⊢
        exact ⟨this, by omega, World.putObj_heap_same (by omega), (World.putObj_heap_other (by omega)).trans hk3', (KpB.refl _ _ _).put _ _ (.inl ⟨by omega, by omega⟩)⟩
      rintro e a3 X3 hp
      cases e with
      | normal =>
        obtain ⟨hk3, hi3⟩ := hp
        obtain ⟨hr, hz3, hl4, hk4, hs4⟩ := fin none X3 hk3
        exact ⟨_, _, hr, hS' hk3 _, .inl ⟨rfl, hI _ _ _ hz3 hi3 hs4, hl4, hk4⟩⟩
      | ret =>
        obtain ⟨hk3, hi3⟩ := hp
        obtain ⟨hr, hz3, hl4, hk4, hs4⟩ := fin (some .ret) X3 hk3
        exact ⟨_, _, hr, hS' hk3 _, .inr ⟨rfl, .ret, hIx _ _ _ _ hz3 hi3 hs4, hl4, hk4⟩⟩
      | exit id =>
        obtain ⟨hk3, hi3⟩ := hp
        obtain ⟨hr, hz3, hl4, hk4, hs4⟩ := fin (some (.exit id)) X3 hk3
        exact ⟨_, _, hr, hS' hk3 _, .inr ⟨rfl, .exit id, hIx _ _ _ _ hz3 hi3 hs4, hl4, hk4⟩⟩
      | goto t =>
        obtain ⟨hk3, hi3⟩ := hp
        obtain ⟨hr, hz3, hl4, hk4, hs4⟩ := fin (some (.goto t)) X3 hk3
        exact ⟨_, _, hr, hS' hk3 _, .inr ⟨rfl, .goto t, hIx _ _ _ _ hz3 hi3 hs4, hl4, hk4⟩⟩
      | panic ch => exact hp.elim
      | outgrown => exact hp.elim
    · -- behind the iterator
      rintro e W2 ⟨⟨v, rfl⟩, hD2, (⟨hi, hl, hk⟩ | ⟨pre, hpre, c, hi, hl, hk⟩)⟩
      · refine ⟨none, _, by have := run_endLoop (P := P) hl (by rw [hrec]; simp); rw [hrec] at this; exact this, hdone _ (by simp; omega) (hI _ _ _ (by omega) hi ((KpB.refl _ _ _).put _ _ (.inl ⟨by omega, by omega⟩))) ((World.putObj_heap_other (by omega)).trans hk)⟩
      · refine ⟨some c, _, by have := run_endLoop (P := P) hl (by rw [hrec]; simp); rw [hrec] at this; exact this, hstop c pre _ (by simp; omega) hpre (hIx _ _ _ _ (by omega) hi ((KpB.refl _ _ _).put _ _ (.inl ⟨by omega, by omega⟩))) ((World.putObj_heap_other (by omega)).trans hk)⟩
end Go.Proofs.Ytmbcpmnigggbaaa
