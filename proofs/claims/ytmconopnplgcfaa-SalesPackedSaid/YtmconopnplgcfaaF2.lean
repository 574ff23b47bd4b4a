import Derived.Test.YtmconopnplgcfaaUF
import Derived.Test.YtmconopnplgcfaaPL
import Derived.IntWalk
namespace Go.Proofs.Ytmconopnplgcfaa
open Go.RowKit

/-! A fair and its memory. -/
structure Fair where
  h : House
  pk : List Int
  day : Int
  nb : Int
  q : List Bid
/-- Where the slices of a fair lie. -/
structure FL where
  L : HL
  Ap : Option Addr
  cp : Nat
  Aq : Option Addr
  cq : Nat
abbrev FL.cells (F : FL) (f : Fair) : Array Value := #[.slice F.L.Ak f.h.ks.length F.L.ck, .int .i64 f.h.fl, .slice F.L.Ap f.h.ps.length F.L.cp, .slice F.L.Ab f.h.bs.length F.L.cb, .slice F.Ap f.pk.length F.cp, .int .i64 f.day, .int .i64 f.nb, .slice F.Aq f.q.length F.cq]
abbrev FL.enc (F : FL) (f : Fair) : Value := .agg #[.slice F.L.Ak f.h.ks.length F.L.ck, .int .i64 f.h.fl, .slice F.L.Ap f.h.ps.length F.L.cp, .slice F.L.Ab f.h.bs.length F.L.cb, .slice F.Ap f.pk.length F.cp, .int .i64 f.day, .int .i64 f.nb, .slice F.Aq f.q.length F.cq]
/-- The bids l lie at A. -/
def BidsAt (W : World) (B : Nat) (A : Option Addr) (l : List Bid) : Prop :=
  l = [] ∨ ∃ b off, A = some ⟨b, off, none⟩ ∧ b < B ∧ ∀ i x, l[i]? = some x → W.cell? ⟨b, off + i * 3, none⟩ = some (.int .i64 x.who) ∧ W.cell? ⟨b, off + i * 3 + 2, none⟩ = some (.int .i64 x.pay) ∧
    ∃ A' c', W.cell? ⟨b, off + i * 3 + 1, none⟩ = some (.slice A' x.bar.length c') ∧ (A' = none → c' = 0 ∧ x.bar = []) ∧ IntsAt W B A' x.bar
theorem BidsAt.keep {W W' : World} {B B' : Nat} {A : Option Addr} {l : List Bid} (h : BidsAt W B A l) (hB : B ≤ B') (hk : ∀ b o, b < B → W'.cell? ⟨b, o, none⟩ = W.cell? ⟨b, o, none⟩) : BidsAt W' B' A l := by
  rcases h with h | ⟨b, off, hA, hb, hc⟩
  · exact .inl h
  · refine .inr ⟨b, off, hA, by omega, fun i x hx => ?_⟩
    obtain ⟨h1, h2, A', c', h3, h4, h5⟩ := hc i x hx
    rw [hk _ _ hb, hk _ _ hb, hk _ _ hb]
    exact ⟨h1, h2, A', c', h3, h4, h5.keep hB hk⟩
theorem BidsAt.at_ {W : World} {B : Nat} {A : Option Addr} {l : List Bid} (h : BidsAt W B A l) {k : Nat} {x : Bid} (hx : l[k]? = some x) : ∃ b off A' c', A = some ⟨b, off, none⟩ ∧ b < B ∧
    W.cell? ⟨b, off + k * 3, none⟩ = some (.int .i64 x.who) ∧ W.cell? ⟨b, off + k * 3 + 1, none⟩ = some (.slice A' x.bar.length c') ∧ W.cell? ⟨b, off + k * 3 + 2, none⟩ = some (.int .i64 x.pay) ∧ (A' = none → c' = 0 ∧ x.bar = []) ∧ IntsAt W B A' x.bar := by
  rcases h with h | ⟨b, off, hA, hb, hc⟩
  · subst h; simp at hx
  · obtain ⟨h1, h2, A', c', h3, h4, h5⟩ := hc k x hx
    exact ⟨b, off, A', c', hA, hb, h1, h3, h2, h4, h5⟩
theorem BidsAt.drew {W : World} {B : Nat} {A : Option Addr} {l : List Bid} (h : BidsAt W B A l) : BidsAt W.drew B A l := h
structure FairAt (W : World) (B : Nat) (F : FL) (f : Fair) : Prop where
  h : HouseAt W B F.L f.h
  p : IntsAt W B F.Ap f.pk
  q : BidsAt W B F.Aq f.q
theorem FairAt.keep {W W' : World} {B B' : Nat} {F : FL} {f : Fair} (H : FairAt W B F f) (hB : B ≤ B') (hk : ∀ b o, b < B → W'.cell? ⟨b, o, none⟩ = W.cell? ⟨b, o, none⟩) : FairAt W' B' F f :=
  ⟨H.h.keep hB hk, H.p.keep hB hk, H.q.keep hB hk⟩
theorem FairAt.below {W W' : World} {F : FL} {f : Fair} (H : FairAt W W.heap.size F f) (hb : Below W.heap.size W W') : FairAt W' W'.heap.size F f :=
  H.keep hb.size fun _ _ hlt => hb.cell (p := ⟨_, _, none⟩) hlt
theorem FairAt.drew {W : World} {B : Nat} {F : FL} {f : Fair} (H : FairAt W B F f) : FairAt W.drew B F f := ⟨H.h.drew, H.p, H.q⟩
/-- The fair in a block of its own. -/
def FBox (W : World) (b : Nat) (F : FL) (f : Fair) : Prop := W.heap[b]? = some (.cells #[.slice F.L.Ak f.h.ks.length F.L.ck, .int .i64 f.h.fl, .slice F.L.Ap f.h.ps.length F.L.cp, .slice F.L.Ab f.h.bs.length F.L.cb, .slice F.Ap f.pk.length F.cp, .int .i64 f.day, .int .i64 f.nb, .slice F.Aq f.q.length F.cq] 29 (0, 0))
theorem FBox.cells {W : World} {b : Nat} {F : FL} {f : Fair} (hb : FBox W b F f) : W.cell? ⟨b, 0, none⟩ = some (.slice F.L.Ak f.h.ks.length F.L.ck) ∧ W.cell? ⟨b, 1, none⟩ = some (.int .i64 f.h.fl) ∧ W.cell? ⟨b, 2, none⟩ = some (.slice F.L.Ap f.h.ps.length F.L.cp) ∧ W.cell? ⟨b, 3, none⟩ = some (.slice F.L.Ab f.h.bs.length F.L.cb) ∧ W.cell? ⟨b, 4, none⟩ = some (.slice F.Ap f.pk.length F.cp) ∧ W.cell? ⟨b, 5, none⟩ = some (.int .i64 f.day) ∧ W.cell? ⟨b, 6, none⟩ = some (.int .i64 f.nb) ∧ W.cell? ⟨b, 7, none⟩ = some (.slice F.Aq f.q.length F.cq) := by
  simp [World.cell?, show W.heap[b]? = _ from hb]
theorem FBox.new (W : World) (F : FL) (f : Fair) : FBox (W.alloc (.cells #[.slice F.L.Ak f.h.ks.length F.L.ck, .int .i64 f.h.fl, .slice F.L.Ap f.h.ps.length F.L.cp, .slice F.L.Ab f.h.bs.length F.L.cb, .slice F.Ap f.pk.length F.cp, .int .i64 f.day, .int .i64 f.nb, .slice F.Aq f.q.length F.cq] 29)) W.heap.size F f := World.alloc_heap_new W _
theorem FBox.lt {W : World} {b : Nat} {F : FL} {f : Fair} (hb : FBox W b F f) : b < W.heap.size := (Array.getElem?_eq_some_iff.1 hb).1
theorem FBox.of {W W' : World} {b : Nat} {F : FL} {f : Fair} (hb : FBox W b F f) (e : W'.heap[b]? = W.heap[b]?) : FBox W' b F f := e.trans hb
theorem FBox.below {W W' : World} {b : Nat} {F : FL} {f : Fair} (hb : FBox W b F f) (h : Below W.heap.size W W') : FBox W' b F f := hb.of (h.block b hb.lt)
/-- A bid in a block of its own. -/
def BBox (W : World) (k : Nat) (A : Option Addr) (c : Nat) (b : Bid) : Prop := W.heap[k]? = some (.cells #[.int .i64 b.who, .slice A b.bar.length c, .int .i64 b.pay] 38 (0, 0))
theorem BBox.cells {W : World} {k : Nat} {A : Option Addr} {c : Nat} {b : Bid} (h : BBox W k A c b) : W.cell? ⟨k, 0, none⟩ = some (.int .i64 b.who) ∧ W.cell? ⟨k, 1, none⟩ = some (.slice A b.bar.length c) ∧ W.cell? ⟨k, 2, none⟩ = some (.int .i64 b.pay) := by
  simp [World.cell?, show W.heap[k]? = _ from h]
theorem BBox.new (W : World) (A : Option Addr) (c : Nat) (b : Bid) : BBox (W.alloc (.cells #[.int .i64 b.who, .slice A b.bar.length c, .int .i64 b.pay] 38)) W.heap.size A c b := World.alloc_heap_new W _
theorem BBox.lt {W : World} {k : Nat} {A : Option Addr} {c : Nat} {b : Bid} (h : BBox W k A c b) : k < W.heap.size := (Array.getElem?_eq_some_iff.1 h).1
theorem BBox.of {W W' : World} {k : Nat} {A : Option Addr} {c : Nat} {b : Bid} (h : BBox W k A c b) (e : W'.heap[k]? = W.heap[k]?) : BBox W' k A c b := e.trans h

/-! What is valid. -/
structure FN (f : Fair) : Prop where
  h : f.h.ks.length ≤ 1000 ∧ f.h.ps.length ≤ 1000 ∧ f.h.bs.length ≤ 1000
  p : f.pk.length ≤ 1000
  q : f.q.length ≤ 1000
  b : ∀ b ∈ f.q, b.bar.length ≤ 1000
def bidOK (f : Fair) (b : Bid) : Bool := inR b.who 0 (f.nb - 1) && (inR b.pay 0 99 && (decide (b.bar ≠ []) && riseB b.bar f.h.bs.length))
def packOK (f : Fair) : Bool := validH f.h && goodB f.h f.pk
def numsOK (f : Fair) : Bool := inR f.day 0 20 && (inR f.nb 0 4 && decide (f.q.length ≤ 8))
def validF (f : Fair) : Bool := packOK f && (numsOK f && f.q.all (bidOK f))
def ckF (f : Fair) : Int := if validF f then 0 else 90
theorem ckF_no {f : Fair} (h : validF f = false) : ckF f = 90 := by simp [ckF, h]
theorem ckF_yes {f : Fair} (h : validF f = true) : ckF f = 0 := by simp [ckF, h]
theorem ckF_iff {f : Fair} : ckF f = 0 ↔ validF f = true := by
  cases h : validF f
  · simp [ckF_no h]
  · simp [ckF_yes h]
theorem bids_no {f : Fair} {k : Nat} {b : Bid} (h : f.q[k]? = some b) (hb : bidOK f b = false) : validF f = false := by
  have : f.q.all (bidOK f) = false := by rw [List.all_eq_false]; exact ⟨b, List.mem_of_getElem? h, by simp [hb]⟩
  simp [validF, this]
theorem bids_all {f : Fair} (h : ∀ k b, k < f.q.length → f.q[k]? = some b → bidOK f b = true) : f.q.all (bidOK f) = true := by
  rw [List.all_eq_true]
  intro b hb
  obtain ⟨k, hk⟩ := List.getElem?_of_mem hb
  exact h k b (List.getElem?_eq_some_iff.1 hk).1 hk
theorem swithin_any (n lo hi : Int) (w : World) : Calls Try.prog 67 #[.int .i64 n, .int .i64 lo, .int .i64 hi] w fun e w' => e = .returned (.bool (inR n lo hi)) ∧ w = w' := by
  cases h1 : decide (lo ≤ n)
  · have e1 : ¬ lo ≤ n := of_decide_eq_false h1
    have e2 : inR n lo hi = false := inR_false.2 (fun h => e1 h.1)
    rw [e2]
    go_enter Try.func67, Try.ntmps67
    go_wp2
    go_ret
    exact ⟨rfl, rfl⟩
  · have e1 : lo ≤ n := of_decide_eq_true h1
    cases h2 : decide (n ≤ hi)
    · have e3 : ¬ n ≤ hi := of_decide_eq_false h2
      have e2 : inR n lo hi = false := inR_false.2 (fun h => e3 h.2)
      rw [e2]
      go_enter Try.func67, Try.ntmps67
      go_wp2
      go_ret
      exact ⟨rfl, rfl⟩
    · have e3 : n ≤ hi := of_decide_eq_true h2
      have e2 : inR n lo hi = true := inR_true.2 ⟨e1, e3⟩
      rw [e2]
      go_enter Try.func67, Try.ntmps67
      go_wp2
      go_ret
      exact ⟨rfl, rfl⟩
example : (Try.prog.info? 71).map (·.size) = some 10 := by kernel_rfl
end Go.Proofs.Ytmconopnplgcfaa
namespace Go.Proofs.Ytmconopnplgcfaa
open Go.RowKit

/-! Check. -/
theorem good_no1 {f : Fair} (h : validH f.h = false) : goodRet f.h f.pk = (false, 80) := by simp [goodRet, h]
theorem good_is {f : Fair} (h : validH f.h = true) {x : Bool} (hg : goodB f.h f.pk = x) : goodRet f.h f.pk = (x, 0) := by simp [goodRet, h, hg]
theorem valid_no1 {f : Fair} (h : packOK f = false) : validF f = false := by simp [validF, h]
theorem valid_no2 {f : Fair} (h : numsOK f = false) : validF f = false := by simp [validF, h]
set_option maxRecDepth 100000 in
set_option maxHeartbeats 4000000 in
theorem scheck_any (F : FL) (f : Fair) (hn : FN f) (w : World) (hF : FairAt w w.heap.size F f) :
    Calls Try.prog 47 #[F.enc f] w fun e w' => e = .returned (.int .i64 (ckF f)) ∧ Below w.heap.size w w' := by
  have hbw := (Below.refl _ _).alloc (Nat.le_refl w.heap.size) (.cells #[.slice F.L.Ak f.h.ks.length F.L.ck, .int .i64 f.h.fl, .slice F.L.Ap f.h.ps.length F.L.cp, .slice F.L.Ab f.h.bs.length F.L.cb, .slice F.Ap f.pk.length F.cp, .int .i64 f.day, .int .i64 f.nb, .slice F.Aq f.q.length F.cq] 29)
  have HFA := Lib.hid (hF.below hbw)
  have HG := Lib.hid (Good_any F.L f.h hn.h f.pk hn.p F.Ap F.cp _ HFA.out.h HFA.out.p)
  have HB := Lib.hid (FBox.new w F f)
  have HBW := Lib.hid hbw
  have HN := Lib.hid hn
  have HF := Lib.hid hF
  clear hbw HFA hn hF
  cases hv : validH f.h
  · have h1 := HG.out
    rw [good_no1 hv] at h1
    have H1 := Lib.hid h1
    have hno : ckF f = 90 := ckF_no (valid_no1 (by simp [packOK, hv]))
    rw [hno]
    clear hv HG h1 hno
    go_enter Try.func47, Try.ntmps47
    go_wp2_with (go_at_call 86; refine H1.out.mono ?_; rintro e W1 ⟨rfl, hb1⟩; have HB1 := Lib.hid hb1; clear hb1)
    go_ret
    exact ⟨rfl, hb0to HBW.out HB1.out⟩
  cases hg : goodB f.h f.pk
  · have h1 := HG.out
    rw [good_is hv hg] at h1
    have H1 := Lib.hid h1
    have hno : ckF f = 90 := ckF_no (valid_no1 (by simp [packOK, hg]))
    rw [hno]
    clear hv HG h1 hno hg
    go_enter Try.func47, Try.ntmps47
    go_wp2_with (go_at_call 86; refine H1.out.mono ?_; rintro e W1 ⟨rfl, hb1⟩; have HB1 := Lib.hid hb1; clear hb1)
    go_ret
    exact ⟨rfl, hb0to HBW.out HB1.out⟩
  have h1 := HG.out
  rw [good_is hv hg] at h1
  have H1 := Lib.hid h1
  have HPK : Hid (packOK f = true) := Lib.hid (by simp [packOK, hv, hg])
  clear hv HG h1 hg
  cases h1 : inR f.day 0 20
  · have hno : ckF f = 90 := ckF_no (valid_no2 (by simp [numsOK, h1]))
    rw [hno]
    clear hno
    go_enter Try.func47, Try.ntmps47
    go_wp2_with (first
      | (go_at_call 86; refine H1.out.mono ?_; rintro e W1 ⟨rfl, hb1⟩; have HB1 := Lib.hid hb1; obtain ⟨g0, g1, g2, g3, g4, g5, g6, g7⟩ := (HB.out.below (by simpa using hb1)).cells; clear hb1 g0 g1 g2 g3 g4)
      | (go_at_call 67; refine (swithin_any _ _ _ _).mono ?_; rintro e w' ⟨rfl, rfl⟩))
    go_ret
    exact ⟨rfl, hb0to HBW.out HB1.out⟩
  cases h2 : inR f.nb 0 4
  · have hno : ckF f = 90 := ckF_no (valid_no2 (by simp [numsOK, h2]))
    rw [hno]
    clear hno
    go_enter Try.func47, Try.ntmps47
    go_wp2_with (first
      | (go_at_call 86; refine H1.out.mono ?_; rintro e W1 ⟨rfl, hb1⟩; have HB1 := Lib.hid hb1; obtain ⟨g0, g1, g2, g3, g4, g5, g6, g7⟩ := (HB.out.below (by simpa using hb1)).cells; clear hb1 g0 g1 g2 g3 g4)
      | (go_at_call 67; refine (swithin_any _ _ _ _).mono ?_; rintro e w' ⟨rfl, rfl⟩))
    go_ret
    exact ⟨rfl, hb0to HBW.out HB1.out⟩
  cases h3 : decide (f.q.length ≤ 8)
  · have h3' : ¬ f.q.length ≤ 8 := of_decide_eq_false h3
    have hno : ckF f = 90 := ckF_no (valid_no2 (by simp [numsOK, h3]))
    have HQ := Lib.hid HN.out.q
    rw [hno]
    have hq := HQ.out
    clear hno h3
    go_enter Try.func47, Try.ntmps47
    go_wp2_with (first
      | (go_at_call 86; refine H1.out.mono ?_; rintro e W1 ⟨rfl, hb1⟩; have HB1 := Lib.hid hb1; obtain ⟨g0, g1, g2, g3, g4, g5, g6, g7⟩ := (HB.out.below (by simpa using hb1)).cells; clear hb1 g0 g1 g2 g3 g4)
      | (go_at_call 67; refine (swithin_any _ _ _ _).mono ?_; rintro e w' ⟨rfl, rfl⟩))
    go_ret
    exact ⟨rfl, hb0to HBW.out HB1.out⟩
  have h3' : f.q.length ≤ 8 := of_decide_eq_true h3
  have HNU : Hid (numsOK f = true) := Lib.hid (by simp [numsOK, h1, h2, h3'])
  clear h3
  obtain ⟨L, Ap, cp, Aq, cq⟩ := F
  go_enter Try.func47, Try.ntmps47
  go_wp2_with (first
      | (go_at_call 86; refine H1.out.mono ?_; rintro e W1 ⟨rfl, hb1⟩; have HB1 := Lib.hid hb1; obtain ⟨g0, g1, g2, g3, g4, g5, g6, g7⟩ := (HB.out.below (by simpa using hb1)).cells; clear hb1 g0 g1 g2 g3 g4)
      | (go_at_call 67; refine (swithin_any _ _ _ _).mono ?_; rintro e w' ⟨rfl, rfl⟩))
  clear g5 g6 g7 h1 h2
  go_loopw [42] (fun i wr => ∃ k : Nat, k ≤ f.q.length ∧ i = .int .i64 k ∧ Hid (∀ j b, j < k → f.q[j]? = some b → bidOK f b = true) ∧ Below w.heap.size w wr ∧ FBox wr w.heap.size ⟨L, Ap, cp, Aq, cq⟩ f) (fun i _ => f.q.length - (intOf i).toNat)
  case atStart => exact ⟨0, Nat.zero_le _, rfl, Lib.hid (fun j x hj => by omega), hb0to HBW.out HB1.out, HB.out.below HB1.out⟩
  case round =>
    obtain ⟨k, hk, rfl, hok, hb, hB⟩ := hrel
    have hsz := hb.size
    by_cases hlt : k < f.q.length
    · obtain ⟨x, hx⟩ : ∃ x, f.q[k]? = some x := ⟨_, List.getElem?_eq_getElem hlt⟩
      obtain ⟨bk, ok, A', c', rfl, hbk, d1, d2, d3, hA', hI⟩ := HF.out.q.at_ hx
      have e1 := below_cell hb d1
      have e2 := below_cell hb d2
      have e3 := below_cell hb d3
      obtain ⟨g0, g1, g2, g3, g4, g5, g6, g7⟩ := hB.cells
      have hlt0 : w.heap.size < wr.heap.size := hB.lt
      have hne0 : ¬ w.heap.size = wr.heap.size := by omega
      have hx4 := HN.out.b x (List.mem_of_getElem? hx)
      have HX := Lib.hid hx
      have HI := Lib.hid hI
      have HAA := Lib.hid hA'
      have HB2 := Lib.hid hB
      have HNB : Hid (inR f.nb 0 4 = true) := Lib.hid (by have := HNU.out; simp only [numsOK, Bool.and_eq_true] at this; exact this.2.1)
      have hnb : IntKind.i64.wrap (f.nb - 1) = f.nb - 1 := by
        have := inR_true.1 HNB.out
        exact IntWalk.i64_in _ (by omega)
      clear hx hI hA' d1 d2 d3 g0 g1 g2 g4 g5 g7 hB
      cases h1 : inR x.who 0 (f.nb - 1)
      · have hno : Hid (bidOK f x = false) := Lib.hid (by simp [bidOK, h1])
        clear g3
        go_wp2_with (go_at_call 67; refine (swithin_any _ _ _ _).mono ?_; rintro e w' ⟨rfl, rfl⟩)
        go_ret
        exact ⟨by rw [ckF_no (bids_no HX.out hno.out)]; rfl, hb.alloc hsz _⟩
      cases h2 : inR x.pay 0 99
      · have hno : Hid (bidOK f x = false) := Lib.hid (by simp [bidOK, h2])
        clear g3
        go_wp2_with (go_at_call 67; refine (swithin_any _ _ _ _).mono ?_; rintro e w' ⟨rfl, rfl⟩)
        go_ret
        exact ⟨by rw [ckF_no (bids_no HX.out hno.out)]; rfl, hb.alloc hsz _⟩
      by_cases h3 : x.bar.length = 0
      · have hno : Hid (bidOK f x = false) := Lib.hid (by simp [bidOK, List.length_eq_zero_iff.1 h3])
        have h3' : ((x.bar.length : Int) == 0) = true := by simpa using h3
        clear g3
        go_wp2_with (go_at_call 67; refine (swithin_any _ _ _ _).mono ?_; rintro e w' ⟨rfl, rfl⟩)
        go_ret
        exact ⟨by rw [ckF_no (bids_no HX.out hno.out)]; rfl, hb.alloc hsz _⟩
      have h3' : ((x.bar.length : Int) == 0) = false := by simpa using h3
      have HP : Hid (inR x.who 0 (f.nb - 1) = true ∧ inR x.pay 0 99 = true ∧ x.bar ≠ []) := Lib.hid ⟨h1, h2, fun e => h3 (by rw [e]; rfl)⟩
      go_wp2_with (go_at_call 67; refine (swithin_any _ _ _ _).mono ?_; rintro e w' ⟨rfl, rfl⟩)
      clear h1 h2 h3' g3 g6
      have h4 : 0 < x.bar.length := by omega
      clear h3
      obtain ⟨wo, rfl⟩ : ∃ wo : World, wo = wr := ⟨_, rfl⟩
      have hbo := hb.alloc hsz (.cells #[.int .i64 x.who, .slice A' x.bar.length c', .int .i64 x.pay] 38)
      have hBo := HB2.out.of (Below.heap_alloc wo (.cells #[.int .i64 x.who, .slice A' x.bar.length c', .int .i64 x.pay] 38) _ HB2.out.lt)
      have HBO := Lib.hid hbo
      have HBBO := Lib.hid hBo
      clear hbo hBo
      go_loopw [68] (fun i wr => ∃ j : Nat, j ≤ x.bar.length ∧ i = .int .i64 j ∧ Hid (∀ m, m < j → riseOK x.bar f.h.bs.length m = true) ∧ Below w.heap.size w wr ∧ Below wo.heap.size wo wr ∧ FBox wr w.heap.size ⟨L, Ap, cp, some ⟨bk, ok, none⟩, cq⟩ f ∧ BBox wr wo.heap.size A' c' x) (fun i _ => x.bar.length - (intOf i).toNat)
      case atStart => exact ⟨0, Nat.zero_le _, rfl, Lib.hid (fun j hj => by omega), HBO.out, (Below.refl _ _).alloc (Nat.le_refl _) _, HBBO.out, BBox.new wo A' c' x⟩
      case round =>
        obtain ⟨j, hj, rfl, hrise, hb2, hb3, hB3, hX3⟩ := hrel
        have hsz2 := hb2.size
        have hsz3 := hb3.size
        have hbs := HN.out.h.2.2
        by_cases hjl : j < x.bar.length
        · obtain ⟨y, hy⟩ : ∃ y, x.bar[j]? = some y := ⟨_, List.getElem?_eq_getElem hjl⟩
          have hgy : x.bar.getD j 0 = y := by simp [List.getD, hy]
          obtain ⟨b1, o1, rfl, b1lt, c1⟩ := HI.out.at_ hy
          have u1 := below_cell hb2 c1
          obtain ⟨g0, g1, g2, g3, g4, g5, g6, g7⟩ := hB3.cells
          obtain ⟨k0, k1, k2⟩ := hX3.cells
          have hlt1 : w.heap.size < wr.heap.size := hB3.lt
          have hlt2 : wo.heap.size < wr.heap.size := hX3.lt
          clear g0 g1 g2 g4 g5 g6 g7 k0 k2 c1
          cases hr : inR y 0 ((f.h.bs.length : Int) - 1)
          · have hno : Hid (riseOK x.bar f.h.bs.length j = false) := Lib.hid (by rw [riseOK, hgy, hr]; rfl)
            have hbn : Hid (bidOK f x = false) := Lib.hid (by simp [bidOK, riseB_no hjl hno.out])
            clear hy hgy k1
            go_wp2_with (go_at_call 67; refine (swithin_any _ _ _ _).mono ?_; rintro e w' ⟨rfl, rfl⟩)
            go_ret
            exact ⟨by rw [ckF_no (bids_no HX.out hbn.out)]; rfl, hb2⟩
          rcases Nat.eq_zero_or_pos j with rfl | hj0
          · have hyes : Hid (riseOK x.bar f.h.bs.length 0 = true) := Lib.hid (by rw [riseOK, hgy, hr]; rfl)
            simp only [Nat.add_zero] at u1
            clear hy hgy k1
            go_wp2_with (go_at_call 67; refine (swithin_any _ _ _ _).mono ?_; rintro e w' ⟨rfl, rfl⟩)
            go_roundw
            case rel => exact ⟨1, by omega, by go_num, Lib.hid (fun j hj => by obtain rfl : j = 0 := (by omega); exact hyes.out), hb2, hb3, hB3, hX3⟩
            case measure => simp [intOf]; omega
          · obtain ⟨z, hz⟩ : ∃ z, x.bar[j - 1]? = some z := ⟨_, List.getElem?_eq_getElem (by omega)⟩
            have hgz : x.bar.getD (j - 1) 0 = z := by simp [List.getD, hz]
            obtain ⟨b1', o1', e', _, c2⟩ := HI.out.at_ hz
            cases e'
            have hd0 : decide (0 < j) = true := by simp; omega
            have ht3 : (1 : Int) ≤ (j : Int) := by omega
            have ht2 : (0 : Int) ≤ (j : Int) - 1 := by omega
            have ht4 : (j : Int) - 1 < x.bar.length := by omega
            have ec : IntKind.i64.wrap ((j : Int) - 1) = ((j - 1 : Nat) : Int) := by rw [IntWalk.i64_in _ (by omega)]; omega
            have u2 := below_cell hb2 c2
            have hk1 : ((j - 1 : Nat) : Int) < x.bar.length := by omega
            have hk2 : j - 1 < x.bar.length := by omega
            clear c2
            by_cases hyz : y ≤ z
            · have hdx : decide (y ≤ z) = true := by simpa using hyz
              have hno : Hid (riseOK x.bar f.h.bs.length j = false) := Lib.hid (by rw [riseOK, hgy, hgz, hr]; simp; omega)
              have hbn : Hid (bidOK f x = false) := Lib.hid (by simp [bidOK, riseB_no hjl hno.out])
              clear hy hgy hz hgz
              go_wp2_with (go_at_call 67; refine (swithin_any _ _ _ _).mono ?_; rintro e w' ⟨rfl, rfl⟩)
              go_ret
              exact ⟨by rw [ckF_no (bids_no HX.out hbn.out)]; rfl, hb2⟩
            · have hdx : decide (y ≤ z) = false := by simpa using hyz
              have hyes : Hid (riseOK x.bar f.h.bs.length j = true) := Lib.hid (by rw [riseOK, hgy, hgz, hr]; simp; omega)
              clear hy hgy hz hgz
              go_wp2_with (go_at_call 67; refine (swithin_any _ _ _ _).mono ?_; rintro e w' ⟨rfl, rfl⟩)
              go_roundw
              case rel => exact ⟨j + 1, by omega, by go_num, Lib.hid (fun m hm => by by_cases e : m = j; exact e ▸ hyes.out; exact hrise.out m (by omega)), hb2, hb3, hB3, hX3⟩
              case measure => simp [intOf]; omega
        · obtain rfl : j = x.bar.length := by omega
          have hbk : Hid (bidOK f x = true) := Lib.hid (by
            obtain ⟨q1, q2, q3⟩ := HP.out
            simp [bidOK, q1, q2, q3, riseB_yes hrise.out])
          clear hrise hjl hj hbs
          go_wp2
          go_roundw
          case rel => exact ⟨k + 1, by omega, by go_num, Lib.hid (fun m b hm hb' => by
            by_cases e : m = k
            · subst e
              have := HX.out.symm.trans hb'
              cases this
              exact hbk.out
            · exact hok.out m b (by omega) hb'), hb2, hB3⟩
          case measure => simp [intOf]; omega
    · obtain rfl : k = f.q.length := by omega
      have hall : Hid (f.q.all (bidOK f) = true) := Lib.hid (bids_all hok.out)
      clear hok hlt hk
      go_wp2
      go_ret
      exact ⟨by rw [ckF_yes (by rw [validF, HPK.out, HNU.out, hall.out]; rfl)]; rfl, hb⟩
end Go.Proofs.Ytmconopnplgcfaa
