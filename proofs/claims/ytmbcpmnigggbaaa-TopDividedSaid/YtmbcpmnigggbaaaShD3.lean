import Derived.Test.YtmbcpmnigggbaaaShF8
import Derived.Test.YtmbcpmnigggbaaaShC7
import Derived.Test.YtmbcpmnigggbaaaRS
import Derived.Test.YtmbcpmnigggbaaaFW
import Derived.Test.YtmbcpmnigggbaaaRows
import Derived.WalkKit
import Derived.ProofKit
import Derived.OpenShut
import Derived.Carry
import Derived.Deep.Slices
import Derived.Deep.Fields
import Derived.ChangeSame
import Derived.Lib.SmallJoins
import Derived.ChangeSlices
namespace Go.Proofs.Ytmbcpmnigggbaaa.Sh
open Go.RowKit

def getsL (ns : List Node) (p : Int) : List Int := if penceE ns p = 0 then gotsS ns p else []
def keepsL (ns : List Node) (p : Int) : List Int := if penceE ns p = 0 then keptsS ns p else []
theorem gets_all (A : Option Addr) (c : Nat) (ns : List Node) (p : Int) (hn : ns.length ≤ 1000) (w : World) (hN : Nodes w w.heap.size A ns) (L : List Int) (hL : getsL ns p = L) (E : Int) (hE : penceE ns p = E) :
    Calls Try.prog 112 #[.agg #[.slice A ns.length c], .int .i64 p] w fun e w' => ∃ B d, e = .returned (.tuple #[.slice B L.length d, .int .i64 E]) ∧ IntsAt w' w'.heap.size B L ∧ Below w.heap.size w w' := by
  subst hL; subst hE
  by_cases hz : penceE ns p = 0
  · refine (getsAll_ok A c ns p hn w hN hz).mono ?_
    rintro e w' ⟨b, rfl, _, hr, hb⟩
    have e1 : getsL ns p = gotsS ns p := if_pos hz
    rw [e1, hz, gotsS_len]
    exact ⟨_, _, rfl, row_ints hr, hb⟩
  · refine (getsAll_no A c ns p hn w hN hz).mono ?_
    rintro e w' ⟨rfl, hb⟩
    have e1 : getsL ns p = [] := if_neg hz
    rw [e1]
    exact ⟨none, 0, rfl, intsAt_nil, hb⟩
theorem keeps_all (A : Option Addr) (c : Nat) (ns : List Node) (p : Int) (hn : ns.length ≤ 1000) (w : World) (hN : Nodes w w.heap.size A ns) (L : List Int) (hL : keepsL ns p = L) (E : Int) (hE : penceE ns p = E) :
    Calls Try.prog 43 #[.agg #[.slice A ns.length c], .int .i64 p] w fun e w' => ∃ B d, e = .returned (.tuple #[.slice B L.length d, .int .i64 E]) ∧ IntsAt w' w'.heap.size B L ∧ Below w.heap.size w w' := by
  subst hL; subst hE
  by_cases hz : penceE ns p = 0
  · refine (keepsAll_ok A c ns p hn w hN hz).mono ?_
    rintro e w' ⟨b, rfl, _, hr, hb⟩
    have e1 : keepsL ns p = keptsS ns p := if_pos hz
    rw [e1, hz, keptsS_len]
    exact ⟨_, _, rfl, row_ints hr, hb⟩
  · refine (keepsAll_no A c ns p hn w hN hz).mono ?_
    rintro e w' ⟨rfl, hb⟩
    have e1 : keepsL ns p = [] := if_neg hz
    rw [e1]
    exact ⟨none, 0, rfl, intsAt_nil, hb⟩
open Go.RowKit

end Go.Proofs.Ytmbcpmnigggbaaa.Sh
namespace Go.Proofs.Ytmbcpmnigggbaaa
open Go.RowKit
theorem isPence_is (n : Int) (w : World) (b : Bool) (hb : Sh.inR n 0 400 = b) : Calls Try.prog 42 #[.int .i64 n] w fun e w' => e = .returned (.bool b) ∧ w = w' := by
  go_enter Try.func42, Try.ntmps42
  go_wp2_with (go_at_call 106; refine (Sh.within2_is _ _ _ _ b hb).mono ?_; rintro e w' ⟨rfl, rfl⟩)
  go_ret
  exact ⟨rfl, rfl⟩
theorem Sh.kept_bd {ns : List Sh.Node} (h : Sh.GoodC ns) {p : Int} (hp : 0 ≤ p) {k : Nat} (hk : k < ns.length) : 0 ≤ Sh.keptS ns p k ∧ Sh.keptS ns p k ≤ p := by
  have h1 := Sh.keptSum_bd h hp (k := k) (by omega)
  have h2 := Sh.keptSum_bd h hp (k := k + 1) (by omega)
  have h3 := Sh.kept_once h hp hk
  rw [Sh.keptSum_succ] at h2
  exact ⟨h3.2.1, by omega⟩
theorem Sh.kepts_at {ns : List Sh.Node} {p : Int} {k : Nat} (hk : k < ns.length) : (Sh.keptsS ns p)[k]? = some (Sh.keptS ns p k) := by simp [Sh.keptsS, hk]
theorem sold_ok {ns : List Sh.Node} {f : Fair} {n : Int} (hk : Sh.ckE ns = 0) (hq : paidRet f = (n, 0)) : soldRet ns f = (Sh.keptsS ns n, 0) := by unfold soldRet; rw [hq, if_pos hk, if_pos rfl]
theorem sold_no {ns : List Sh.Node} {f : Fair} {n er : Int} (hk : Sh.ckE ns = 0) (hq : paidRet f = (n, er)) (he : er ≠ 0) : soldRet ns f = ([], er) := by unfold soldRet; rw [hq, if_pos hk, if_neg he]
/-- Sold, where the custom is valid and the fair can be asked. -/
theorem Sold_ok (A : Option Addr) (c : Nat) (ns : List Sh.Node) (hn : ns.length ≤ 1000) (hk : Sh.ckE ns = 0) (F : FL) (f : Fair) (hfn : FN f) {n : Int} (hq : paidRet f = (n, 0)) (w : World) (hN : Sh.Nodes w w.heap.size A ns) (hF : FairAt w w.heap.size F f) :
    Calls Try.prog 41 #[.agg #[.slice A ns.length c], F.enc f] w fun e w' => (∃ A7 c7, e = .returned (.tuple #[.slice A7 ns.length c7, .int .i64 0]) ∧ IntsAt w' w'.heap.size A7 (Sh.keptsS ns n)) ∧ Below w.heap.size w w' := by
  refine (Sold_any A c ns hn F f hfn w hN hF).mono ?_
  rintro e w' ⟨⟨A7, c7, rfl, hI⟩, hb⟩
  rw [sold_ok hk hq] at hI ⊢
  have hl : (Sh.keptsS ns n).length = ns.length := by simp [Sh.keptsS]
  exact ⟨⟨A7, c7, by rw [hl], hI⟩, hb⟩
theorem Sold_no (A : Option Addr) (c : Nat) (ns : List Sh.Node) (hn : ns.length ≤ 1000) (hk : Sh.ckE ns = 0) (F : FL) (f : Fair) (hfn : FN f) {n er : Int} (hq : paidRet f = (n, er)) (he : er ≠ 0) (w : World) (hN : Sh.Nodes w w.heap.size A ns) (hF : FairAt w w.heap.size F f) :
    Calls Try.prog 41 #[.agg #[.slice A ns.length c], F.enc f] w fun e w' => (∃ A7 c7, e = .returned (.tuple #[.slice A7 0 c7, .int .i64 er]) ∧ True) ∧ Below w.heap.size w w' := by
  refine (Sold_any A c ns hn F f hfn w hN hF).mono ?_
  rintro e w' ⟨⟨A7, c7, rfl, hI⟩, hb⟩
  rw [sold_no hk hq he]
  exact ⟨⟨A7, c7, rfl, trivial⟩, hb⟩
theorem Keeps_ok (A : Option Addr) (c : Nat) (ns : List Sh.Node) (hn : ns.length ≤ 1000) (hk : Sh.ckE ns = 0) {n : Int} (h0 : 0 ≤ n) (h4 : n ≤ 400) (w : World) (hN : Sh.Nodes w w.heap.size A ns) :
    Calls Try.prog 43 #[.agg #[.slice A ns.length c], .int .i64 n] w fun e w' => (∃ A7 c7, e = .returned (.tuple #[.slice A7 ns.length c7, .int .i64 0]) ∧ IntsAt w' w'.heap.size A7 (Sh.keptsS ns n)) ∧ Below w.heap.size w w' := by
  refine (Sh.keeps_all A c ns n hn w hN (Sh.keptsS ns n) (if_pos (Sh.pence_zero hk h0 h4)) 0 (Sh.pence_zero hk h0 h4)).mono ?_
  rintro e w' ⟨B, d, rfl, hI, hb⟩
  have hl : (Sh.keptsS ns n).length = ns.length := by simp [Sh.keptsS]
  exact ⟨⟨B, d, by rw [hl], hI⟩, hb⟩
theorem SameK (A1 A2 : Option Addr) (c1 c2 : Nat) (l : List Int) (N : Nat) (hl : l.length = N) (hN : N ≤ 1000) (w : World) (h1 : IntsAt w w.heap.size A1 l) (h2 : IntsAt w w.heap.size A2 l) :
    Calls Try.prog 44 #[.slice A1 N c1, .slice A2 N c2] w fun e w' => e = .returned (.bool true) ∧ Below w.heap.size w w' := by
  subst hl
  exact Sh.sameInts_is A1 A2 c1 c2 l hN w h1 h2
set_option maxRecDepth 100000 in
set_option maxHeartbeats 4000000 in
theorem sales_law (A : Option Addr) (c : Nat) (ns : List Sh.Node) (hn : ns.length ≤ 9223372036854775807) (F : FL) (f : Fair) (hok : FLOK F f) (w : World) (hN : Sh.Nodes w w.heap.size A ns) (hF : FairAt w w.heap.size F f) :
    Calls Try.prog 6 #[.agg #[.slice A ns.length c], F.enc f] w fun e w' => e = .returned (.bool true) ∧ Below w.heap.size w w' := by
  obtain ⟨W0, hW0⟩ : ∃ W0, (w.alloc (.cells #[.slice A ns.length c] 76)).alloc (.cells #[.slice F.L.Ak f.h.ks.length F.L.ck, .int .i64 f.h.fl, .slice F.L.Ap f.h.ps.length F.L.cp, .slice F.L.Ab f.h.bs.length F.L.cb, .slice F.Ap f.pk.length F.cp, .int .i64 f.day, .int .i64 f.nb, .slice F.Aq f.q.length F.cq] 62) = W0 := ⟨_, rfl⟩
  have hbw : Below w.heap.size w W0 := by rw [← hW0]; exact hb0to (al_below _ _) (al_below _ _)
  have hx0 : FBox W0 (w.heap.size + 1) F f := by rw [← hW0]; exact heap_new2 _ _ _
  have hy0 : W0.heap[w.heap.size]? = some (.cells #[.slice A ns.length c] 76) := by rw [← hW0]; exact heap_keep (heap_new1 _ _)
  have HW0 := Lib.hid hW0
  have HBW := Lib.hid hbw
  have M := Lib.hid (SIn.mk (Sh.Nodes.lt hN hbw) hy0 (hF.below hbw) hx0)
  have B := Lib.hid (Below.refl W0.heap.size W0)
  obtain ⟨r0, r1, r2, r3, r4, r5, r6, r7⟩ := hx0.cells
  have k0 := cell_of_heap (o := 0) hy0 rfl
  clear hW0 hbw hx0 hy0 hN hF
  have HF5 := Lib.hid (fun W hW => farF_any F f W hW)
  cases hv : Sh.validB ns
  · have HR := Lib.hid (fun W hW => Sh.ready_is A c ns hn W hW false hv)
    clear hv hok hn
    obtain ⟨L, Ap, cp, Aq, cq⟩ := F
    go_enter Try.func6, Try.ntmps6
    go_upto_region 1 with (fail)
    have e := HW0.out
    rw [e]
    clear e
    go_wp2_with (first
      | (go_at_call 36; refine (HR.out _ M.out.N).mono ?_; rintro e wn ⟨rfl, hb⟩; have MN := Lib.hid (M.out.next hb); have BN := Lib.hid (hb0to B.out hb); have M := MN; have B := BN; clear MN BN; skip; obtain ⟨r0, r1, r2, r3, r4, r5, r6, r7⟩ := M.out.x.cells; have k0 := cell_of_heap (o := 0) M.out.bx rfl; clear hb)
      | (go_at_call 38; refine (Sh.works_any _).mono ?_; rintro e wn ⟨rfl, hb⟩; have MN := Lib.hid (M.out.next hb); have BN := Lib.hid (hb0to B.out hb); have M := MN; have B := BN; clear MN BN; skip; obtain ⟨r0, r1, r2, r3, r4, r5, r6, r7⟩ := M.out.x.cells; have k0 := cell_of_heap (o := 0) M.out.bx rfl; clear hb))
    go_ret
    exact ⟨rfl, hb0to HBW.out B.out⟩
  · have HR := Lib.hid (fun W hW => Sh.ready_is A c ns hn W hW true hv)
    have hk := Sh.ckE_yes hv
    have hl8 := Sh.validB_len hv
    have hn4 : ns.length ≤ 1000 := by omega
    cases hh : farF f
    · rw [hh] at HF5
      have hfn := hugeF_fn (farF_no hh).1
      have HC8 := Lib.hid (fun W hW => copy_line F f hfn hok W hW)
      obtain ⟨n, er, hq⟩ : ∃ n er, paidRet f = (n, er) := ⟨_, _, rfl⟩
      have H39 := Lib.hid (fun G W hG => Paid_any G f hfn W hG)
      rw [hq] at H39
      have T39 := Lib.hid True.intro
      have T40 := Lib.hid True.intro
      by_cases he : er = 0
      · subst he
        have hp : 0 ≤ n ∧ n ≤ 400 := by
          by_cases ha : askF f true = 0
          · have h := paid_small (FOK.of (askF_ok ha).1)
            have e1 : paidRet f = (paidTo f.q (rdF f) f.nb.toNat, 0) := numRF_ok ha
            rw [hq] at e1
            injection e1 with e1 e2
            omega
          · have e1 : paidRet f = (0, askF f true) := numRF_no rfl ha
            rw [hq] at e1
            injection e1 with e1 e2
            exact absurd e2.symm ha
        have hg := Sh.good_of hv
        have H41 := Lib.hid (fun G W hN hG => Sold_ok A c ns hn4 hk G f hfn hq W hN hG)
        have H43 := Lib.hid (fun W hN => Keeps_ok A c ns hn4 hk hp.1 hp.2 W hN)
        have H42 := Lib.hid (fun W => isPence_is n W true (Sh.inR_true.2 hp))
        have HBD := Lib.hid (fun k (hk : k < ns.length) => Sh.kept_bd hg hp.1 hk)
        have HSA := Lib.hid (Sh.keptSum_all hg hp.1)
        have HSB := Lib.hid (fun k (hk : k ≤ ns.length) => Sh.keptSum_bd hg hp.1 hk)
        have HLK := Lib.hid (show (Sh.keptsS ns n).length ≤ 1000 by simp [Sh.keptsS]; omega)
        have HLE := Lib.hid (show (Sh.keptsS ns n).length = ns.length by simp [Sh.keptsS])
        have hp0 := hp.1
        have hp4 := hp.2
        have T41 := Lib.hid True.intro
        have h1 := hg.l1
        clear hv hh hfn hok hq hp hk hn hg
        obtain ⟨L, Ap, cp, Aq, cq⟩ := F
        go_enter Try.func6, Try.ntmps6
        go_upto_region 1 with (fail)
        have e := HW0.out
        rw [e]
        clear e
        go_upto_region 4 with (first
          | (go_at_call 36; refine (HR.out _ M.out.N).mono ?_; rintro e wn ⟨rfl, hb⟩; have MN := Lib.hid (M.out.next hb); have BN := Lib.hid (hb0to B.out hb); have M := MN; have B := BN; clear MN BN; skip; obtain ⟨r0, r1, r2, r3, r4, r5, r6, r7⟩ := M.out.x.cells; have k0 := cell_of_heap (o := 0) M.out.bx rfl; clear hb)
          | (go_at_call 37; refine (HF5.out _ M.out.H).mono ?_; rintro e wn ⟨rfl, hb⟩; have MN := Lib.hid (M.out.next hb); have BN := Lib.hid (hb0to B.out hb); have M := MN; have B := BN; clear MN BN; skip; obtain ⟨r0, r1, r2, r3, r4, r5, r6, r7⟩ := M.out.x.cells; have k0 := cell_of_heap (o := 0) M.out.bx rfl; clear hb)
          | (have tk := T39.out; clear T39 tk; go_at_call 39; refine (H39.out ⟨⟨j1, j2, j3, j4, j5, j6⟩, j7, j8, j9, j10⟩ _ CF.out).mono ?_; rintro e wn ⟨rfl, hb⟩; have MN := Lib.hid (M.out.next hb); have BN := Lib.hid (hb0to B.out hb); have M := MN; have B := BN; clear MN BN; clear CF; obtain ⟨r0, r1, r2, r3, r4, r5, r6, r7⟩ := M.out.x.cells; have k0 := cell_of_heap (o := 0) M.out.bx rfl; clear hb)
          | (have tk := T40.out; clear T40 tk; go_at_call 40; refine (HC8.out _ M.out.H).mono ?_; rintro e wn ⟨⟨⟨⟨j1, j2, j3, j4, j5, j6⟩, j7, j8, j9, j10⟩, rfl, hcf, hq⟩, hb⟩; have MN := Lib.hid (M.out.next hb); have BN := Lib.hid (hb0to B.out hb); have M := MN; have B := BN; clear MN BN; have CF := Lib.hid (CopRet.fair hcf hq).1; clear hcf hq; obtain ⟨r0, r1, r2, r3, r4, r5, r6, r7⟩ := M.out.x.cells; have k0 := cell_of_heap (o := 0) M.out.bx rfl; clear hb))
        go_region_held3 (fun w' => w'.cell? ⟨w.heap.size + 1, 0, none⟩ = some (.slice L.Ak f.h.ks.length L.ck) ∧ w'.cell? ⟨w.heap.size + 1, 1, none⟩ = some (.int .i64 f.h.fl) ∧ w'.cell? ⟨w.heap.size + 1, 2, none⟩ = some (.slice L.Ap f.h.ps.length L.cp) ∧ w'.cell? ⟨w.heap.size + 1, 3, none⟩ = some (.slice L.Ab f.h.bs.length L.cb) ∧ w'.cell? ⟨w.heap.size + 1, 4, none⟩ = some (.slice Ap f.pk.length cp) ∧ w'.cell? ⟨w.heap.size + 1, 5, none⟩ = some (.int .i64 f.day) ∧ w'.cell? ⟨w.heap.size + 1, 6, none⟩ = some (.int .i64 f.nb) ∧ w'.cell? ⟨w.heap.size + 1, 7, none⟩ = some (.slice Aq f.q.length cq) ∧ w'.cell? ⟨w.heap.size, 0, none⟩ = some (.slice A ns.length c)) (first | go_keep) (first
          | (go_at_call 41; refine (H41.out ⟨⟨j1, j2, j3, j4, j5, j6⟩, j7, j8, j9, j10⟩ _ M5.out.N CF5.out).mono ?_; rintro e w6 ⟨⟨A7, c7, rfl, hv7⟩, hb⟩; have M6 := Lib.hid (M5.out.next hb); have B6 := Lib.hid (hb0to B5.out hb); have V6 := Lib.hid hv7; clear hv7; obtain ⟨r0, r1, r2, r3, r4, r5, r6, r7⟩ := M6.out.x.cells; have k0 := cell_of_heap (o := 0) M6.out.bx rfl; clear hb)
          | (go_at_call 40; refine (HC8.out _ (M.out.H.below (drew_below _))).mono ?_; rintro e w5 ⟨⟨⟨⟨j1, j2, j3, j4, j5, j6⟩, j7, j8, j9, j10⟩, rfl, hcf, hq⟩, hb⟩; have hbX := hb0to (drew_below wn) hb; have M5 := Lib.hid (M.out.next hbX); have B5 := Lib.hid (hb0to B.out hbX); have CF5 := Lib.hid (CopRet.fair hcf hq).1; obtain ⟨r0, r1, r2, r3, r4, r5, r6, r7⟩ := M5.out.x.cells; have k0 := cell_of_heap (o := 0) M5.out.bx rfl; clear hcf hq hb hbX))
        go_upto_region 12 with (first
          | (go_at_call 42; refine (H42.out _).mono ?_; rintro e w7 ⟨rfl, rfl⟩)
          | (go_at_call 43; refine (H43.out _ M6.out.N).mono ?_; rintro e w8 ⟨⟨A8, c8, rfl, hv8⟩, hb⟩; have B8 := Lib.hid (hb0to B6.out hb); have V8 := Lib.hid (ints_later V6.out hb); have K8 := Lib.hid hv8; clear hv8 hb r0 r1 r2 r3 r4 r5 r6 r7 k0))
        go_wp2
        go_loopw [12, 11] (fun i x wr => ∃ k : Nat, k ≤ ns.length ∧ i = .int .i64 k ∧ (∃ y : Int, x = .int .i64 y ∧ Hid (y = Sh.keptSum ns n k)) ∧ w8 = wr) (fun i _ _ => ns.length - (intOf i).toNat)
        case atStart => exact ⟨0, Nat.zero_le _, rfl, ⟨0, rfl, Lib.hid rfl⟩, rfl⟩
        case round =>
          obtain ⟨k, hk, rfl, ⟨y, rfl, hy⟩, rfl⟩ := hrel
          by_cases hlt : k < ns.length
          · obtain ⟨b1, o1, rfl, _, d1⟩ := IntsAt.at_ V8.out (Sh.kepts_at hlt)
            have hbd := HBD.out k hlt
            have hs0 := HSB.out k (Nat.le_of_lt hlt)
            have hs1 := HSB.out (k + 1) hlt
            have HSS := Lib.hid (Sh.keptSum_succ ns n k)
            have H28 := Lib.hid (fun W => Sh.within1_is (Sh.keptS ns n k) 0 n W true (Sh.inR_true.2 hbd))
            generalize Sh.keptS ns n k = v at d1 hbd HSS H28
            have hyv := hy.out
            rw [HSS.out] at hs1
            have hyb : 0 ≤ y ∧ y ≤ 400 := by omega
            have HN1 := Lib.hid (show y + v = Sh.keptSum ns n (k + 1) by rw [HSS.out]; omega)
            clear hs0 hs1 hyv
            go_wp2_with (go_at_call 28; refine (H28.out _).mono ?_; rintro e w' ⟨rfl, rfl⟩)
            go_roundw
            case rel => exact ⟨k + 1, by omega, by go_num, ⟨y + v, by go_num, HN1⟩, by trivial⟩
            case measure => simp [intOf]; omega
          · obtain rfl : k = ns.length := by omega
            obtain rfl : y = n := hy.out.trans HSA.out
            have HS44 := Lib.hid (SameK A8 A7 c8 c7 _ ns.length HLE.out hn4 w8 K8.out V8.out)
            go_wp2_with (first
              | (go_at_call 44; refine HS44.out.mono ?_; rintro e w9 ⟨rfl, hb⟩; have B9 := Lib.hid (hb0to B8.out hb); clear hb)
              | (go_at_call 38; refine (Sh.works_any _).mono ?_; rintro e wz ⟨rfl, hb⟩; have BZ := Lib.hid (hb0to B9.out hb); clear hb))
            go_ret
            exact ⟨rfl, hb0to HBW.out BZ.out⟩
      · have H41 := Lib.hid (fun G W hN hG => Sold_no A c ns hn4 hk G f hfn hq he W hN hG)
        have hd : (er != 0) = true := bne_iff_ne.2 he
        clear hv hh hfn hok hq hk hn hl8
        obtain ⟨L, Ap, cp, Aq, cq⟩ := F
        go_enter Try.func6, Try.ntmps6
        go_upto_region 1 with (fail)
        have e := HW0.out
        rw [e]
        clear e
        go_upto_region 4 with (first
          | (go_at_call 36; refine (HR.out _ M.out.N).mono ?_; rintro e wn ⟨rfl, hb⟩; have MN := Lib.hid (M.out.next hb); have BN := Lib.hid (hb0to B.out hb); have M := MN; have B := BN; clear MN BN; skip; obtain ⟨r0, r1, r2, r3, r4, r5, r6, r7⟩ := M.out.x.cells; have k0 := cell_of_heap (o := 0) M.out.bx rfl; clear hb)
          | (go_at_call 37; refine (HF5.out _ M.out.H).mono ?_; rintro e wn ⟨rfl, hb⟩; have MN := Lib.hid (M.out.next hb); have BN := Lib.hid (hb0to B.out hb); have M := MN; have B := BN; clear MN BN; skip; obtain ⟨r0, r1, r2, r3, r4, r5, r6, r7⟩ := M.out.x.cells; have k0 := cell_of_heap (o := 0) M.out.bx rfl; clear hb)
          | (have tk := T39.out; clear T39 tk; go_at_call 39; refine (H39.out ⟨⟨j1, j2, j3, j4, j5, j6⟩, j7, j8, j9, j10⟩ _ CF.out).mono ?_; rintro e wn ⟨rfl, hb⟩; have MN := Lib.hid (M.out.next hb); have BN := Lib.hid (hb0to B.out hb); have M := MN; have B := BN; clear MN BN; clear CF; obtain ⟨r0, r1, r2, r3, r4, r5, r6, r7⟩ := M.out.x.cells; have k0 := cell_of_heap (o := 0) M.out.bx rfl; clear hb)
          | (have tk := T40.out; clear T40 tk; go_at_call 40; refine (HC8.out _ M.out.H).mono ?_; rintro e wn ⟨⟨⟨⟨j1, j2, j3, j4, j5, j6⟩, j7, j8, j9, j10⟩, rfl, hcf, hq⟩, hb⟩; have MN := Lib.hid (M.out.next hb); have BN := Lib.hid (hb0to B.out hb); have M := MN; have B := BN; clear MN BN; have CF := Lib.hid (CopRet.fair hcf hq).1; clear hcf hq; obtain ⟨r0, r1, r2, r3, r4, r5, r6, r7⟩ := M.out.x.cells; have k0 := cell_of_heap (o := 0) M.out.bx rfl; clear hb))
        go_region_held3 (fun w' => w'.cell? ⟨w.heap.size + 1, 0, none⟩ = some (.slice L.Ak f.h.ks.length L.ck) ∧ w'.cell? ⟨w.heap.size + 1, 1, none⟩ = some (.int .i64 f.h.fl) ∧ w'.cell? ⟨w.heap.size + 1, 2, none⟩ = some (.slice L.Ap f.h.ps.length L.cp) ∧ w'.cell? ⟨w.heap.size + 1, 3, none⟩ = some (.slice L.Ab f.h.bs.length L.cb) ∧ w'.cell? ⟨w.heap.size + 1, 4, none⟩ = some (.slice Ap f.pk.length cp) ∧ w'.cell? ⟨w.heap.size + 1, 5, none⟩ = some (.int .i64 f.day) ∧ w'.cell? ⟨w.heap.size + 1, 6, none⟩ = some (.int .i64 f.nb) ∧ w'.cell? ⟨w.heap.size + 1, 7, none⟩ = some (.slice Aq f.q.length cq) ∧ w'.cell? ⟨w.heap.size, 0, none⟩ = some (.slice A ns.length c)) (first | go_keep) (first
          | (go_at_call 41; refine (H41.out ⟨⟨j1, j2, j3, j4, j5, j6⟩, j7, j8, j9, j10⟩ _ M5.out.N CF5.out).mono ?_; rintro e w6 ⟨⟨A7, c7, rfl, hv7⟩, hb⟩; have M6 := Lib.hid (M5.out.next hb); have B6 := Lib.hid (hb0to B5.out hb); clear hv7; obtain ⟨r0, r1, r2, r3, r4, r5, r6, r7⟩ := M6.out.x.cells; have k0 := cell_of_heap (o := 0) M6.out.bx rfl; clear hb)
          | (go_at_call 40; refine (HC8.out _ (M.out.H.below (drew_below _))).mono ?_; rintro e w5 ⟨⟨⟨⟨j1, j2, j3, j4, j5, j6⟩, j7, j8, j9, j10⟩, rfl, hcf, hq⟩, hb⟩; have hbX := hb0to (drew_below wn) hb; have M5 := Lib.hid (M.out.next hbX); have B5 := Lib.hid (hb0to B.out hbX); have CF5 := Lib.hid (CopRet.fair hcf hq).1; obtain ⟨r0, r1, r2, r3, r4, r5, r6, r7⟩ := M5.out.x.cells; have k0 := cell_of_heap (o := 0) M5.out.bx rfl; clear hcf hq hb hbX))
        go_wp2_with (first
          | (go_at_call 38; refine (Sh.works_any _).mono ?_; rintro e wz ⟨rfl, hb⟩; have BZ := Lib.hid (hb0to B6.out hb); clear hb))
        go_ret
        exact ⟨rfl, hb0to HBW.out BZ.out⟩
    · rw [hh] at HF5
      clear hv hok hn hh
      obtain ⟨L, Ap, cp, Aq, cq⟩ := F
      go_enter Try.func6, Try.ntmps6
      go_upto_region 1 with (fail)
      have e := HW0.out
      rw [e]
      clear e
      go_wp2_with (first
        | (go_at_call 36; refine (HR.out _ M.out.N).mono ?_; rintro e wn ⟨rfl, hb⟩; have MN := Lib.hid (M.out.next hb); have BN := Lib.hid (hb0to B.out hb); have M := MN; have B := BN; clear MN BN; skip; obtain ⟨r0, r1, r2, r3, r4, r5, r6, r7⟩ := M.out.x.cells; have k0 := cell_of_heap (o := 0) M.out.bx rfl; clear hb)
        | (go_at_call 37; refine (HF5.out _ M.out.H).mono ?_; rintro e wn ⟨rfl, hb⟩; have MN := Lib.hid (M.out.next hb); have BN := Lib.hid (hb0to B.out hb); have M := MN; have B := BN; clear MN BN; skip; obtain ⟨r0, r1, r2, r3, r4, r5, r6, r7⟩ := M.out.x.cells; have k0 := cell_of_heap (o := 0) M.out.bx rfl; clear hb)
        | (go_at_call 38; refine (Sh.works_any _).mono ?_; rintro e wn ⟨rfl, hb⟩; have MN := Lib.hid (M.out.next hb); have BN := Lib.hid (hb0to B.out hb); have M := MN; have B := BN; clear MN BN; skip; obtain ⟨r0, r1, r2, r3, r4, r5, r6, r7⟩ := M.out.x.cells; have k0 := cell_of_heap (o := 0) M.out.bx rfl; clear hb))
      go_ret
      exact ⟨rfl, hb0to HBW.out B.out⟩

end Go.Proofs.Ytmbcpmnigggbaaa
namespace Go.Proofs.Ytmbcpmnigggbaaa.Sh
open Go.Joins Go.ChangeShapes Go.WideShapes Go.ChangeAt Go.RowKit Go.Deep

section
variable {H : Type} {enc : TypeId × Value → H} {P : Program} {w : World} {base : Nat} {spare : Nat → Bool} {held : Bool}
theorem open_slice_fields {t e : TypeId} {fs : Array Field} {fuel : Nat} {cs : List Value} {x : DataW H × List MemPlace} (ht : P.underlying t = some (.slice e)) (he : P.underlying e = some (.struct fs))
    (hone : oneCellFields P fs = true) (hC : P.cellsOf e = fs.size) (h : DataW.trod enc P w base spare held fuel t cs = some x) :
    (cs = [.slice none 0 0] ∧ x = (.nil, [])) ∨
    ∃ (a : Addr) (len cap m : Nat) (D : Nat → DataW H) (Pl : Nat → List MemPlace), cs = [.slice (some a) len cap] ∧ base ≤ a.block ∧ len ≤ cap ∧ cap ≤ maxLen ∧ m = (if spare a.block then cap else len) ∧
      x = (.slice ((List.range len).map D) ((List.range (m - len)).map fun j => D (len + j)), MemPlace.row a (m * fs.size) ++ (List.range m).flatMap Pl) ∧
      ∀ i, i < m → ∃ (ys : List (DataW H × List MemPlace)) (n : Nat), D i = .agg (ys.map (·.1)) ∧ Pl i = ys.flatMap (·.2) ∧ ys.length = fs.size ∧
        ∀ (j : Nat) (f : Field), fs[j]? = some f → ∃ (v : Value) (y : DataW H × List MemPlace), w.cell? (a.add (i * fs.size + j)) = some v ∧ ys[j]? = some y ∧ DataW.trod enc P w base spare held n f.type [v] = some y := by
  rcases open_slice ht h with h0 | ⟨a, len, cap, m, n, D, Pl, hcs, hb, hl, hm, hmm, hx, hi⟩
  · exact .inl h0
  · refine .inr ⟨a, len, cap, m, D, Pl, hcs, hb, hl, hm, hmm, by rw [hC] at hx; exact hx, fun i him => ?_⟩
    obtain ⟨cs', hc, ht'⟩ := hi i him
    rw [hC] at hc
    obtain ⟨ys, n', hn', hy, hlen, hyl, hf⟩ := DataW.trod_struct he ht'
    obtain ⟨_, hcl, hat⟩ := World.cells?_some hc
    simp only [Prod.mk.injEq] at hy
    refine ⟨ys, n', hy.1, hy.2, hyl, fun j f hj => ?_⟩
    obtain ⟨ho, hk⟩ := hone_of hone j f hj
    have hjl : j < fs.size := (Array.getElem?_eq_some_iff.1 hj).1
    have hcell := hat j hjl
    have hv : cs'[j]? = some (cs'[j]'(by omega)) := List.getElem?_eq_getElem (by omega)
    have h1 := hf j f hj
    rw [ho, hk] at h1
    have hone' : (cs'.drop j).take 1 = [cs'[j]'(by omega)] := by
      rw [List.drop_eq_getElem_cons (by omega)]
      rfl
    rw [hone'] at h1
    have hys : ys[j]? = some (ys[j]'(by omega)) := List.getElem?_eq_getElem (by omega)
    refine ⟨_, _, ?_, hys, h1.trans hys⟩
    rw [← Go.Deep.add_add, hcell, hv]
theorem open_agg1 {r : Reach} {b0 : Nat} {t : TypeId} {f0 : Field} {v : Value} {d : DataW H} {p : List MemPlace} (hs : P.underlying t = some (.struct #[f0])) (hone : oneCellFields P #[f0] = true) (hC : P.cellsOf t = 1)
    (hv : Value.okWide P w r b0 t v) (h : DataW.Trod enc P w base spare held t v d p) :
    ∃ (v0 : Value) (y0 : DataW H × List MemPlace) (n : Nat), v = .agg #[v0] ∧ d = .agg [y0.1] ∧ p = y0.2 ∧ DataW.trod enc P w base spare held n f0.type [v0] = some y0 := by
  obtain ⟨cs, rfl, hsz⟩ := okWide_struct hs hv
  obtain ⟨l⟩ := cs
  match l, hsz.trans hC with
  | [c0], _ =>
    obtain ⟨fuel, hf⟩ := h
    obtain ⟨xs, n, _, hx, _, hlen, hg⟩ := DataW.trod_struct hs hf
    obtain ⟨o0, k0⟩ := hone_of hone 0 f0 rfl
    match xs, hlen with
    | [y0], _ =>
      simp only [Prod.mk.injEq] at hx
      exact ⟨c0, y0, n, rfl, by simpa using hx.1, by simpa using hx.2, by simpa [Value.cells, o0, k0] using hg 0 f0 rfl⟩

end

theorem list_of {α : Type} {Q : Nat → α → Prop} : ∀ (n : Nat), (∀ i, i < n → ∃ x, Q i x) → ∃ l : List α, l.length = n ∧ ∀ i x, l[i]? = some x → Q i x
  | 0, _ => ⟨[], rfl, fun i x h => by simp at h⟩
  | n + 1, h => by
    obtain ⟨l, hl, hq⟩ := list_of n (fun i hi => h i (by omega))
    obtain ⟨x, hx⟩ := h n (by omega)
    refine ⟨l ++ [x], by simp [hl], fun i y hy => ?_⟩
    by_cases hi : i < n
    · rw [List.getElem?_append_left (by omega)] at hy; exact hq i y hy
    · have hil := (List.getElem?_eq_some_iff.1 hy).1
      rw [List.length_append, List.length_singleton] at hil
      obtain rfl : i = n := by omega
      rw [List.getElem?_append_right (by omega), hl] at hy
      simp at hy
      subst hy
      exact hx
theorem spot_none {W : World} {a : Addr} {v : Value} (h : W.cell? a = some v) : a.spot = none := by
  unfold World.cell? at h
  split at h
  · cases hs : a.spot with
    | none => rfl
    | some s => simp [hs] at h
  · cases h
section
variable {H : Type} {enc : TypeId × Value → H} {W : World} {spare : Nat → Bool} {held : Bool}
/-- A list of structs of three numbers that came in. -/
theorem open_nodes {t e : TypeId} {f0 f1 f2 : Field} {n : Nat} {v0 : Value} {y0 : DataW H × List MemPlace} (hsp : ∀ b, spare b = true) (ht : Try.prog.underlying t = some (.slice e)) (he : Try.prog.underlying e = some (.struct #[f0, f1, f2])) (h3 : f0.type = 3 ∧ f1.type = 3 ∧ f2.type = 3)
    (hone : oneCellFields Try.prog #[f0, f1, f2] = true) (hC : Try.prog.cellsOf e = 3) (h : DataW.trod enc Try.prog W 0 spare held n t [v0] = some y0) :
    ∃ (A : Option Addr) (c : Nat) (ns : List Node), v0 = .slice A ns.length c ∧ (A = none → c = 0 ∧ ns = []) ∧ ns.length ≤ 9223372036854775807 ∧ Nodes W W.heap.size A ns := by
  rcases open_slice_fields ht he hone hC h with ⟨e1, _⟩ | ⟨a, len, cap, m, D, Pl, hcs, hb, hl, hm, hmm, hx, hi⟩
  · simp only [List.cons.injEq, and_true] at e1
    exact ⟨none, 0, [], e1, fun _ => ⟨rfl, rfl⟩, by simp, .inl rfl⟩
  · simp only [List.cons.injEq, and_true] at hcs
    rw [hsp, if_pos rfl] at hmm
    subst hmm
    obtain ⟨ns, hnl, hq⟩ := list_of (Q := fun i (x : Node) => W.cell? (a.add (i * 3)) = some (.int .i64 x.u) ∧ W.cell? (a.add (i * 3 + 1)) = some (.int .i64 x.w) ∧ W.cell? (a.add (i * 3 + 2)) = some (.int .i64 x.f)) len (fun i hil => by
      obtain ⟨ys, n', _, _, _, hf⟩ := hi i (by omega)
      obtain ⟨u0, z0, k0, _, t0⟩ := hf 0 f0 rfl
      obtain ⟨u1, z1, k1, _, t1⟩ := hf 1 f1 rfl
      obtain ⟨u2, z2, k2, _, t2⟩ := hf 2 f2 rfl
      rw [h3.1] at t0
      rw [h3.2.1] at t1
      rw [h3.2.2] at t2
      obtain ⟨i0, e0, _⟩ := DataW.trod_int Try.underlying3 t0
      obtain ⟨i1, e1, _⟩ := DataW.trod_int Try.underlying3 t1
      obtain ⟨i2, e2, _⟩ := DataW.trod_int Try.underlying3 t2
      simp only [List.cons.injEq, and_true] at e0 e1 e2
      subst e0 e1 e2
      exact ⟨⟨i0, i1, i2⟩, k0, k1, k2⟩)
    refine ⟨some a, _, ns, by rw [hnl]; exact hcs, fun h => (by cases h), by unfold maxLen at hm; omega, ?_⟩
    by_cases h0 : ns = []
    · exact .inl h0
    · have hlen : 0 < ns.length := List.length_pos_iff.2 h0
      have hx0 : ns[0]? = some ns[0] := List.getElem?_eq_getElem hlen
      have hs := (hq 0 _ hx0).1
      have hs1 := spot_none hs
      have hlt := cell_lt hs
      obtain ⟨b, off, sp⟩ := a
      have hb2 : ((⟨b, off, sp⟩ : Addr).add (0 * 3)) = ⟨b, off, sp⟩ := by simp [Addr.add]
      rw [hb2] at hs1 hlt
      simp only at hs1 hlt
      subst hs1
      refine .inr ⟨b, off, rfl, hlt, fun i x hx => ?_⟩
      have := hq i x hx
      rw [addr_add, addr_add, addr_add] at this
      exact this
set_option maxRecDepth 100000 in
/-- A custom that came in. -/
theorem open_custom {r : Reach} {b0 : Nat} {v : Value} {d : DataW H} {p : List MemPlace} (hsp : ∀ b, spare b = true) (hv : Value.okWide Try.prog W r b0 76 v) (h : DataW.Trod enc Try.prog W 0 spare held 76 v d p) :
    ∃ (A : Option Addr) (c : Nat) (ns : List Node), v = .agg #[.slice A ns.length c] ∧ (A = none → c = 0 ∧ ns = []) ∧ ns.length ≤ 9223372036854775807 ∧ Nodes W W.heap.size A ns := by
  obtain ⟨v0, y0, n, rfl, _, _, h0⟩ := open_agg1 Try.underlying76 (by kernel_rfl) (by kernel_rfl) hv h
  obtain ⟨A, c, ns, rfl, h1, h2, h3⟩ := open_nodes hsp Try.underlying74 Try.underlying158 ⟨rfl, rfl, rfl⟩ (by kernel_rfl) (by kernel_rfl) h0
  exact ⟨A, c, ns, rfl, h1, h2, h3⟩
end
open Go.Joins Go.ChangeShapes Go.WideShapes Go.ChangeAt Go.RowKit Go.Deep
section
variable {H : Type} {enc : TypeId × Value → H} {W : World} {spare : Nat → Bool} {held : Bool}
end
open Go.Joins Go.ChangeShapes Go.WideShapes Go.ChangeAt Go.RowKit Go.Deep
section
variable {H : Type} {enc : TypeId × Value → H} {W : World} {spare : Nat → Bool} {held : Bool}
end
end Go.Proofs.Ytmbcpmnigggbaaa.Sh
