import Derived.Test.YtmbcpmnigggbaaaS1
import Derived.RangeFuncBox
import Derived.Test.YtmbcpmnigggbaaaRS
import Derived.Test.YtmbcpmnigggbaaaO1
namespace Go.Proofs.Ytmbcpmnigggbaaa.Sh
/-! The plain law that each is paid once. -/
theorem split_got {ns : List Node} (h : GoodC ns) (P : Int) (n : Nat) : (splitL (gotS ns P n) (kidL ns n)).1 = (kidsN ns n).map (gotS ns P) := by
  have hl : (splitL (gotS ns P n) (kidL ns n)).1.length = (kidsN ns n).length := by rw [splitL_len, kidL_len]
  refine ext_getD (by rw [hl, List.length_map]) (fun j hj => ?_)
  rw [hl] at hj
  obtain ⟨x, hx, hxl, _⟩ := kid_at hj
  have hm := mem_kids.1 (List.mem_of_getElem? hx)
  have hg := gotS_up h P hxl hm.2.1
  have hu : (nodeAt ns x).u.toNat = n := by omega
  rw [hu] at hg
  have hlk := look_at (kidsN ns n) (splitL (gotS ns P n) (kidL ns n)).1 j x (kids_nodup ns n) hx hl
  rw [List.getElem?_map, hx]
  change _ = gotS ns P x
  rw [hg]
  exact hlk.symm
theorem take_sum_bd : ∀ (l : List Int), (∀ v ∈ l, 0 ≤ v) → ∀ j, 0 ≤ (l.take j).sum ∧ (l.take j).sum ≤ l.sum
  | [], _, j => by simp
  | x :: xs, h, 0 => by
    have := take_sum_bd xs (fun v hv => h v (by simp [hv])) 0
    have := h x (by simp)
    simp at *
    omega
  | x :: xs, h, j + 1 => by
    have := take_sum_bd xs (fun v hv => h v (by simp [hv])) j
    have := h x (by simp)
    simp only [List.take_succ_cons, List.sum_cons]
    omega
theorem gots_nonneg {ns : List Node} (h : GoodC ns) {P : Int} (hP : 0 ≤ P) (n : Nat) : ∀ v ∈ (kidsN ns n).map (gotS ns P), 0 ≤ v := fun v hv => by
  obtain ⟨x, hx, rfl⟩ := List.mem_map.1 hv
  exact (gotS_bd h hP x (mem_kids.1 hx).1).1
theorem kept_once {ns : List Node} (h : GoodC ns) {P : Int} (hP : 0 ≤ P) {n : Nat} (hn : n < ns.length) :
    ((kidsN ns n).map (gotS ns P)).sum + keptS ns P n = gotS ns P n ∧ 0 ≤ keptS ns P n ∧ keptS ns P n ≤ P := by
  have hb := gotS_bd h hP n hn
  have h1 := splitL_sum (gotS ns P n) (kidL ns n) hb.1 (kidW h n) (kidF h n)
  have h2 := (splitL_nonneg (gotS ns P n) (kidL ns n) hb.1 (kidW h n) (kidF h n)).2
  rw [split_got h] at h1
  have h3 := (take_sum_bd _ (gots_nonneg h hP n) 0).2
  simp only [List.take_zero, List.sum_nil] at h3
  change ((kidsN ns n).map (gotS ns P)).sum + keptS ns P n = gotS ns P n at h1
  change 0 ≤ keptS ns P n at h2
  omega
def keptSum (ns : List Node) (P : Int) (k : Nat) : Int := ((List.range k).map (keptS ns P)).sum
theorem keptSum_succ (ns : List Node) (P : Int) (k : Nat) : keptSum ns P (k + 1) = keptSum ns P k + keptS ns P k := by simp [keptSum, List.range_succ]
theorem ind_sum (u : Nat) (v : Int) : ∀ N, ((List.range N).map (fun i => if i = u then v else 0)).sum = if u < N then v else 0
  | 0 => by simp
  | N + 1 => by
    rw [List.range_succ, List.map_append, List.sum_append, ind_sum u v N]
    simp only [List.map_cons, List.map_nil, List.sum_cons, List.sum_nil]
    split <;> split <;> split <;> omega
theorem map_sum_add (f g : Nat → Int) : ∀ l : List Nat, (l.map (fun i => f i + g i)).sum = (l.map f).sum + (l.map g).sum
  | [] => by simp
  | x :: xs => by have := map_sum_add f g xs; simp only [List.map_cons, List.sum_cons]; omega
/-- Whoever lies below somebody, counted at each Up, is counted once. -/
theorem kid_sums {ns : List Node} (h : GoodC ns) (g : Nat → Int) : ∀ j, j ≤ ns.length →
    ((List.range ns.length).map (fun i => (((List.range j).filter (isKid ns i)).map g).sum)).sum + (if 0 < j then g 0 else 0) = ((List.range j).map g).sum
  | 0, _ => by
    have : ∀ l : List Nat, (l.map (fun _ => (0 : Int))).sum = 0 := fun l => by induction l with | nil => rfl | cons a t ih => simpa using ih
    simpa using this (List.range ns.length)
  | j + 1, hj => by
    have ih := kid_sums h g j (by omega)
    have e : ∀ i, (((List.range (j + 1)).filter (isKid ns i)).map g).sum = (((List.range j).filter (isKid ns i)).map g).sum + (if i = upN ns j then (if 0 < j then g j else 0) else 0) := fun i => by
      rw [List.range_succ, List.filter_append, List.map_append, List.sum_append]
      congr 1
      by_cases h0 : 0 < j
      · have hu := h.upN (by omega) h0
        have hk : isKid ns i j = decide (i = upN ns j) := by
          unfold isKid upN
          rw [Bool.eq_iff_iff]
          simp only [Bool.and_eq_true, decide_eq_true_eq]
          omega
        by_cases hi : i = upN ns j
        · have hk' : isKid ns i j = true := by rw [hk]; exact decide_eq_true hi
          rw [if_pos hi, if_pos h0]
          simp [hk']
        · have hk' : isKid ns i j = false := by rw [hk]; exact decide_eq_false hi
          rw [if_neg hi]
          simp [hk']
      · simp [isKid, h0]
    have e2 : ((List.range ns.length).map (fun i => (((List.range (j + 1)).filter (isKid ns i)).map g).sum)).sum = ((List.range ns.length).map (fun i => (((List.range j).filter (isKid ns i)).map g).sum)).sum + (if 0 < j then g j else 0) := by
      rw [List.map_congr_left (fun i _ => e i), map_sum_add, ind_sum]
      have hul : upN ns j < ns.length := by
        by_cases h0 : 0 < j
        · have := h.upN (show j < ns.length by omega) h0; unfold upN; omega
        · obtain rfl : j = 0 := by omega
          have := h.top _ (GoodC.at_ (by omega))
          unfold upN
          omega
      rw [if_pos hul]
    rw [e2, List.range_succ, List.map_append, List.sum_append, ← ih]
    simp only [List.map_cons, List.map_nil, List.sum_cons, List.sum_nil]
    by_cases h0 : 0 < j
    · rw [if_pos h0, if_pos h0, if_pos (by omega)]; omega
    · obtain rfl : j = 0 := by omega
      simp
theorem keptSum_all {ns : List Node} (h : GoodC ns) {P : Int} (hP : 0 ≤ P) : keptSum ns P ns.length = P := by
  have h1 := kid_sums h (gotS ns P) ns.length (Nat.le_refl _)
  rw [if_pos (by have := h.l1; omega)] at h1
  have e : (List.range ns.length).map (gotS ns P) = (List.range ns.length).map (fun i => ((kidsN ns i).map (gotS ns P)).sum + keptS ns P i) :=
    List.map_congr_left (fun i hi => ((kept_once h hP (List.mem_range.1 hi)).1).symm)
  rw [e, map_sum_add] at h1
  have e0 : gotS ns P 0 = P := gotS_zero ns P
  rw [e0] at h1
  unfold keptSum
  change _ + P = ((List.range ns.length).map (fun i => (((List.range ns.length).filter (isKid ns i)).map (gotS ns P)).sum)).sum + _ at h1
  omega
theorem keptSum_bd {ns : List Node} (h : GoodC ns) {P : Int} (hP : 0 ≤ P) {k : Nat} (hk : k ≤ ns.length) : 0 ≤ keptSum ns P k ∧ keptSum ns P k ≤ P := by
  have ha := keptSum_all h hP
  have := take_sum_bd ((List.range ns.length).map (keptS ns P)) (fun v hv => by
    obtain ⟨i, hi, rfl⟩ := List.mem_map.1 hv
    exact (kept_once h hP (List.mem_range.1 hi)).2.1) k
  rw [← List.map_take, List.take_range, Nat.min_eq_left hk] at this
  unfold keptSum at *
  omega
end Go.Proofs.Ytmbcpmnigggbaaa.Sh
namespace Go.Proofs.Ytmbcpmnigggbaaa.Sh
open Go.RowKit

open Go.RowKit

open Go.RowKit

open Go.RowKit

end Go.Proofs.Ytmbcpmnigggbaaa.Sh
namespace Go.Proofs.Ytmbcpmnigggbaaa.Sh
open Go.RowKit

theorem isFirst_is (A : Option Addr) (c : Nat) (ns : List Node) (m : Nat) (hg : GoodC ns) (hm : m < ns.length) (w : World) (hN : Nodes w w.heap.size A ns) (b : Bool) (hb : isFirstB ns m = b) :
    Calls Try.prog 51 #[.agg #[.slice A ns.length c], .int .i64 m] w fun e w' => e = .returned (.bool b) ∧ Below w.heap.size w w' := by
  rw [← hb]; exact isFirst_any A c ns m hg hm w hN

end Go.Proofs.Ytmbcpmnigggbaaa.Sh
namespace Go.Proofs.Ytmbcpmnigggbaaa.Sh
open Go.RowKit

/-- The law's memory, with a copy of the custom in a box of its own. -/
structure EnvF (w : World) (A : Option Addr) (c : Nat) (ns : List Node) (t : Nat) (A' : Option Addr) (c' : Nat) (W : World) : Prop where
  e : Env w A c ns W
  b : Boxed W t 76 (.slice A' ns.length c')
  hN : Nodes W W.heap.size A' ns
theorem EnvF.next {w : World} {A : Option Addr} {c : Nat} {ns : List Node} {t : Nat} {A' : Option Addr} {c' : Nat} {W W' : World} (h : EnvF w A c ns t A' c' W) (hb : Below W.heap.size W W') : EnvF w A c ns t A' c' W' :=
  ⟨h.e.next hb, boxed_ext hb h.b, Nodes.lt h.hN hb⟩
theorem EnvF.alloc {w : World} {A : Option Addr} {c : Nat} {ns : List Node} {t : Nat} {A' : Option Addr} {c' : Nat} {W : World} (h : EnvF w A c ns t A' c' W) (o : Obj) : EnvF w A c ns t A' c' (W.alloc o) := h.next ((Below.refl _ W).alloc (Nat.le_refl _) o)
end Go.Proofs.Ytmbcpmnigggbaaa.Sh
namespace Go.Proofs.Ytmbcpmnigggbaaa.Sh
open Go.RowKit

def getsL (ns : List Node) (p : Int) : List Int := if penceE ns p = 0 then gotsS ns p else []
def keepsL (ns : List Node) (p : Int) : List Int := if penceE ns p = 0 then keptsS ns p else []
theorem gets_all (A : Option Addr) (c : Nat) (ns : List Node) (p : Int) (hn : ns.length ≤ 1000) (w : World) (hN : Nodes w w.heap.size A ns) (L : List Int) (hL : getsL ns p = L) (E : Int) (hE : penceE ns p = E) :
    Calls Try.prog 112 #[.agg #[.slice A ns.length c], .int .i64 p] w fun e w' => ∃ B d, e = .returned (.tuple #[.slice B L.length d, .int .i64 E]) ∧ IntsAt w' w'.heap.size B L ∧ Below w.heap.size w w' := by
  subst hL; subst hE
  by_cases hz : penceE ns p = 0
  · refine (getsAll_ok A c ns p hn w hN hz).mono ?_
    rintro e w' ⟨b, rfl, _, hr, hb⟩
    have e1 : getsL ns p = gotsS ns p := if_pos hz
    rw [e1, hz, gotsS_len]
    exact ⟨_, _, rfl, row_ints hr, hb⟩
  · refine (getsAll_no A c ns p hn w hN hz).mono ?_
    rintro e w' ⟨rfl, hb⟩
    have e1 : getsL ns p = [] := if_neg hz
    rw [e1]
    exact ⟨none, 0, rfl, intsAt_nil, hb⟩
theorem keeps_all (A : Option Addr) (c : Nat) (ns : List Node) (p : Int) (hn : ns.length ≤ 1000) (w : World) (hN : Nodes w w.heap.size A ns) (L : List Int) (hL : keepsL ns p = L) (E : Int) (hE : penceE ns p = E) :
    Calls Try.prog 43 #[.agg #[.slice A ns.length c], .int .i64 p] w fun e w' => ∃ B d, e = .returned (.tuple #[.slice B L.length d, .int .i64 E]) ∧ IntsAt w' w'.heap.size B L ∧ Below w.heap.size w w' := by
  subst hL; subst hE
  by_cases hz : penceE ns p = 0
  · refine (keepsAll_ok A c ns p hn w hN hz).mono ?_
    rintro e w' ⟨b, rfl, _, hr, hb⟩
    have e1 : keepsL ns p = keptsS ns p := if_pos hz
    rw [e1, hz, keptsS_len]
    exact ⟨_, _, rfl, row_ints hr, hb⟩
  · refine (keepsAll_no A c ns p hn w hN hz).mono ?_
    rintro e w' ⟨rfl, hb⟩
    have e1 : keepsL ns p = [] := if_neg hz
    rw [e1]
    exact ⟨none, 0, rfl, intsAt_nil, hb⟩
open Go.RowKit

end Go.Proofs.Ytmbcpmnigggbaaa.Sh
namespace Go.Proofs.Ytmbcpmnigggbaaa
open Go.RowKit
theorem isPence_is (n : Int) (w : World) (b : Bool) (hb : Sh.inR n 0 400 = b) : Calls Try.prog 42 #[.int .i64 n] w fun e w' => e = .returned (.bool b) ∧ w = w' := by
  go_enter Try.func42, Try.ntmps42
  go_wp2_with (go_at_call 106; refine (Sh.within2_is _ _ _ _ b hb).mono ?_; rintro e w' ⟨rfl, rfl⟩)
  go_ret
  exact ⟨rfl, rfl⟩
theorem Sh.kept_bd {ns : List Sh.Node} (h : Sh.GoodC ns) {p : Int} (hp : 0 ≤ p) {k : Nat} (hk : k < ns.length) : 0 ≤ Sh.keptS ns p k ∧ Sh.keptS ns p k ≤ p := by
  have h1 := Sh.keptSum_bd h hp (k := k) (by omega)
  have h2 := Sh.keptSum_bd h hp (k := k + 1) (by omega)
  have h3 := Sh.kept_once h hp hk
  rw [Sh.keptSum_succ] at h2
  exact ⟨h3.2.1, by omega⟩
theorem Sh.kepts_at {ns : List Sh.Node} {p : Int} {k : Nat} (hk : k < ns.length) : (Sh.keptsS ns p)[k]? = some (Sh.keptS ns p k) := by simp [Sh.keptsS, hk]
theorem sold_ok {ns : List Sh.Node} {f : Fair} {n : Int} (hk : Sh.ckE ns = 0) (hq : paidRet f = (n, 0)) : soldRet ns f = (Sh.keptsS ns n, 0) := by unfold soldRet; rw [hq, if_pos hk, if_pos rfl]
theorem sold_no {ns : List Sh.Node} {f : Fair} {n er : Int} (hk : Sh.ckE ns = 0) (hq : paidRet f = (n, er)) (he : er ≠ 0) : soldRet ns f = ([], er) := by unfold soldRet; rw [hq, if_pos hk, if_neg he]
/-- Sold, where the custom is valid and the fair can be asked. -/
theorem Sold_ok (A : Option Addr) (c : Nat) (ns : List Sh.Node) (hn : ns.length ≤ 1000) (hk : Sh.ckE ns = 0) (F : FL) (f : Fair) (hfn : FN f) {n : Int} (hq : paidRet f = (n, 0)) (w : World) (hN : Sh.Nodes w w.heap.size A ns) (hF : FairAt w w.heap.size F f) :
    Calls Try.prog 41 #[.agg #[.slice A ns.length c], F.enc f] w fun e w' => (∃ A7 c7, e = .returned (.tuple #[.slice A7 ns.length c7, .int .i64 0]) ∧ IntsAt w' w'.heap.size A7 (Sh.keptsS ns n)) ∧ Below w.heap.size w w' := by
  refine (Sold_any A c ns hn F f hfn w hN hF).mono ?_
  rintro e w' ⟨⟨A7, c7, rfl, hI⟩, hb⟩
  rw [sold_ok hk hq] at hI ⊢
  have hl : (Sh.keptsS ns n).length = ns.length := by simp [Sh.keptsS]
  exact ⟨⟨A7, c7, by rw [hl], hI⟩, hb⟩
theorem Sold_no (A : Option Addr) (c : Nat) (ns : List Sh.Node) (hn : ns.length ≤ 1000) (hk : Sh.ckE ns = 0) (F : FL) (f : Fair) (hfn : FN f) {n er : Int} (hq : paidRet f = (n, er)) (he : er ≠ 0) (w : World) (hN : Sh.Nodes w w.heap.size A ns) (hF : FairAt w w.heap.size F f) :
    Calls Try.prog 41 #[.agg #[.slice A ns.length c], F.enc f] w fun e w' => (∃ A7 c7, e = .returned (.tuple #[.slice A7 0 c7, .int .i64 er]) ∧ True) ∧ Below w.heap.size w w' := by
  refine (Sold_any A c ns hn F f hfn w hN hF).mono ?_
  rintro e w' ⟨⟨A7, c7, rfl, hI⟩, hb⟩
  rw [sold_no hk hq he]
  exact ⟨⟨A7, c7, rfl, trivial⟩, hb⟩
theorem Keeps_ok (A : Option Addr) (c : Nat) (ns : List Sh.Node) (hn : ns.length ≤ 1000) (hk : Sh.ckE ns = 0) {n : Int} (h0 : 0 ≤ n) (h4 : n ≤ 400) (w : World) (hN : Sh.Nodes w w.heap.size A ns) :
    Calls Try.prog 43 #[.agg #[.slice A ns.length c], .int .i64 n] w fun e w' => (∃ A7 c7, e = .returned (.tuple #[.slice A7 ns.length c7, .int .i64 0]) ∧ IntsAt w' w'.heap.size A7 (Sh.keptsS ns n)) ∧ Below w.heap.size w w' := by
  refine (Sh.keeps_all A c ns n hn w hN (Sh.keptsS ns n) (if_pos (Sh.pence_zero hk h0 h4)) 0 (Sh.pence_zero hk h0 h4)).mono ?_
  rintro e w' ⟨B, d, rfl, hI, hb⟩
  have hl : (Sh.keptsS ns n).length = ns.length := by simp [Sh.keptsS]
  exact ⟨⟨B, d, by rw [hl], hI⟩, hb⟩
theorem SameK (A1 A2 : Option Addr) (c1 c2 : Nat) (l : List Int) (N : Nat) (hl : l.length = N) (hN : N ≤ 1000) (w : World) (h1 : IntsAt w w.heap.size A1 l) (h2 : IntsAt w w.heap.size A2 l) :
    Calls Try.prog 44 #[.slice A1 N c1, .slice A2 N c2] w fun e w' => e = .returned (.bool true) ∧ Below w.heap.size w w' := by
  subst hl
  exact Sh.sameInts_is A1 A2 c1 c2 l hN w h1 h2
set_option maxRecDepth 100000 in
set_option maxHeartbeats 4000000 in
theorem sales_law (A : Option Addr) (c : Nat) (ns : List Sh.Node) (hn : ns.length ≤ 9223372036854775807) (F : FL) (f : Fair) (hok : FLOK F f) (w : World) (hN : Sh.Nodes w w.heap.size A ns) (hF : FairAt w w.heap.size F f) :
    Calls Try.prog 6 #[.agg #[.slice A ns.length c], F.enc f] w fun e w' => e = .returned (.bool true) ∧ Below w.heap.size w w' := by
  obtain ⟨W0, hW0⟩ : ∃ W0, (w.alloc (.cells #[.slice A ns.length c] 76)).alloc (.cells #[.slice F.L.Ak f.h.ks.length F.L.ck, .int .i64 f.h.fl, .slice F.L.Ap f.h.ps.length F.L.cp, .slice F.L.Ab f.h.bs.length F.L.cb, .slice F.Ap f.pk.length F.cp, .int .i64 f.day, .int .i64 f.nb, .slice F.Aq f.q.length F.cq] 62) = W0 := ⟨_, rfl⟩
  have hbw : Below w.heap.size w W0 := by rw [← hW0]; exact hb0to (al_below _ _) (al_below _ _)
  have hx0 : FBox W0 (w.heap.size + 1) F f := by rw [← hW0]; exact heap_new2 _ _ _
  have hy0 : W0.heap[w.heap.size]? = some (.cells #[.slice A ns.length c] 76) := by rw [← hW0]; exact heap_keep (heap_new1 _ _)
  have HW0 := Lib.hid hW0
  have HBW := Lib.hid hbw
  have M := Lib.hid (SIn.mk (Sh.Nodes.lt hN hbw) hy0 (hF.below hbw) hx0)
  have B := Lib.hid (Below.refl W0.heap.size W0)
  obtain ⟨r0, r1, r2, r3, r4, r5, r6, r7⟩ := hx0.cells
  have k0 := cell_of_heap (o := 0) hy0 rfl
  clear hW0 hbw hx0 hy0 hN hF
  have HF5 := Lib.hid (fun W hW => farF_any F f W hW)
  cases hv : Sh.validB ns
  · have HR := Lib.hid (fun W hW => Sh.ready_is A c ns hn W hW false hv)
    clear hv hok hn
    obtain ⟨L, Ap, cp, Aq, cq⟩ := F
    go_enter Try.func6, Try.ntmps6
    go_upto_region 1 with (fail)
    have e := HW0.out
    rw [e]
    clear e
    go_wp2_with (first
      | (go_at_call 36; refine (HR.out _ M.out.N).mono ?_; rintro e wn ⟨rfl, hb⟩; have MN := Lib.hid (M.out.next hb); have BN := Lib.hid (hb0to B.out hb); have M := MN; have B := BN; clear MN BN; skip; obtain ⟨r0, r1, r2, r3, r4, r5, r6, r7⟩ := M.out.x.cells; have k0 := cell_of_heap (o := 0) M.out.bx rfl; clear hb)
      | (go_at_call 38; refine (Sh.works_any _).mono ?_; rintro e wn ⟨rfl, hb⟩; have MN := Lib.hid (M.out.next hb); have BN := Lib.hid (hb0to B.out hb); have M := MN; have B := BN; clear MN BN; skip; obtain ⟨r0, r1, r2, r3, r4, r5, r6, r7⟩ := M.out.x.cells; have k0 := cell_of_heap (o := 0) M.out.bx rfl; clear hb))
    go_ret
    exact ⟨rfl, hb0to HBW.out B.out⟩
  · have HR := Lib.hid (fun W hW => Sh.ready_is A c ns hn W hW true hv)
    have hk := Sh.ckE_yes hv
    have hl8 := Sh.validB_len hv
    have hn4 : ns.length ≤ 1000 := by omega
    cases hh : farF f
    · rw [hh] at HF5
      have hfn := hugeF_fn (farF_no hh).1
      have HC8 := Lib.hid (fun W hW => copy_line F f hfn hok W hW)
      obtain ⟨n, er, hq⟩ : ∃ n er, paidRet f = (n, er) := ⟨_, _, rfl⟩
      have H39 := Lib.hid (fun G W hG => Paid_any G f hfn W hG)
      rw [hq] at H39
      have T39 := Lib.hid True.intro
      have T40 := Lib.hid True.intro
      by_cases he : er = 0
      · subst he
        have hp : 0 ≤ n ∧ n ≤ 400 := by
          by_cases ha : askF f true = 0
          · have h := paid_small (FOK.of (askF_ok ha).1)
            have e1 : paidRet f = (paidTo f.q (rdF f) f.nb.toNat, 0) := numRF_ok ha
            rw [hq] at e1
            injection e1 with e1 e2
            omega
          · have e1 : paidRet f = (0, askF f true) := numRF_no rfl ha
            rw [hq] at e1
            injection e1 with e1 e2
            exact absurd e2.symm ha
        have hg := Sh.good_of hv
        have H41 := Lib.hid (fun G W hN hG => Sold_ok A c ns hn4 hk G f hfn hq W hN hG)
        have H43 := Lib.hid (fun W hN => Keeps_ok A c ns hn4 hk hp.1 hp.2 W hN)
        have H42 := Lib.hid (fun W => isPence_is n W true (Sh.inR_true.2 hp))
        have HBD := Lib.hid (fun k (hk : k < ns.length) => Sh.kept_bd hg hp.1 hk)
        have HSA := Lib.hid (Sh.keptSum_all hg hp.1)
        have HSB := Lib.hid (fun k (hk : k ≤ ns.length) => Sh.keptSum_bd hg hp.1 hk)
        have HLK := Lib.hid (show (Sh.keptsS ns n).length ≤ 1000 by simp [Sh.keptsS]; omega)
        have HLE := Lib.hid (show (Sh.keptsS ns n).length = ns.length by simp [Sh.keptsS])
        have hp0 := hp.1
        have hp4 := hp.2
        have T41 := Lib.hid True.intro
        have h1 := hg.l1
        clear hv hh hfn hok hq hp hk hn hg
        obtain ⟨L, Ap, cp, Aq, cq⟩ := F
        go_enter Try.func6, Try.ntmps6
        go_upto_region 1 with (fail)
        have e := HW0.out
        rw [e]
        clear e
        go_upto_region 4 with (first
          | (go_at_call 36; refine (HR.out _ M.out.N).mono ?_; rintro e wn ⟨rfl, hb⟩; have MN := Lib.hid (M.out.next hb); have BN := Lib.hid (hb0to B.out hb); have M := MN; have B := BN; clear MN BN; skip; obtain ⟨r0, r1, r2, r3, r4, r5, r6, r7⟩ := M.out.x.cells; have k0 := cell_of_heap (o := 0) M.out.bx rfl; clear hb)
          | (go_at_call 37; refine (HF5.out _ M.out.H).mono ?_; rintro e wn ⟨rfl, hb⟩; have MN := Lib.hid (M.out.next hb); have BN := Lib.hid (hb0to B.out hb); have M := MN; have B := BN; clear MN BN; skip; obtain ⟨r0, r1, r2, r3, r4, r5, r6, r7⟩ := M.out.x.cells; have k0 := cell_of_heap (o := 0) M.out.bx rfl; clear hb)
          | (have tk := T39.out; clear T39 tk; go_at_call 39; refine (H39.out ⟨⟨j1, j2, j3, j4, j5, j6⟩, j7, j8, j9, j10⟩ _ CF.out).mono ?_; rintro e wn ⟨rfl, hb⟩; have MN := Lib.hid (M.out.next hb); have BN := Lib.hid (hb0to B.out hb); have M := MN; have B := BN; clear MN BN; clear CF; obtain ⟨r0, r1, r2, r3, r4, r5, r6, r7⟩ := M.out.x.cells; have k0 := cell_of_heap (o := 0) M.out.bx rfl; clear hb)
          | (have tk := T40.out; clear T40 tk; go_at_call 40; refine (HC8.out _ M.out.H).mono ?_; rintro e wn ⟨⟨⟨⟨j1, j2, j3, j4, j5, j6⟩, j7, j8, j9, j10⟩, rfl, hcf, hq⟩, hb⟩; have MN := Lib.hid (M.out.next hb); have BN := Lib.hid (hb0to B.out hb); have M := MN; have B := BN; clear MN BN; have CF := Lib.hid (CopRet.fair hcf hq).1; clear hcf hq; obtain ⟨r0, r1, r2, r3, r4, r5, r6, r7⟩ := M.out.x.cells; have k0 := cell_of_heap (o := 0) M.out.bx rfl; clear hb))
        go_region_held3 (fun w' => w'.cell? ⟨w.heap.size + 1, 0, none⟩ = some (.slice L.Ak f.h.ks.length L.ck) ∧ w'.cell? ⟨w.heap.size + 1, 1, none⟩ = some (.int .i64 f.h.fl) ∧ w'.cell? ⟨w.heap.size + 1, 2, none⟩ = some (.slice L.Ap f.h.ps.length L.cp) ∧ w'.cell? ⟨w.heap.size + 1, 3, none⟩ = some (.slice L.Ab f.h.bs.length L.cb) ∧ w'.cell? ⟨w.heap.size + 1, 4, none⟩ = some (.slice Ap f.pk.length cp) ∧ w'.cell? ⟨w.heap.size + 1, 5, none⟩ = some (.int .i64 f.day) ∧ w'.cell? ⟨w.heap.size + 1, 6, none⟩ = some (.int .i64 f.nb) ∧ w'.cell? ⟨w.heap.size + 1, 7, none⟩ = some (.slice Aq f.q.length cq) ∧ w'.cell? ⟨w.heap.size, 0, none⟩ = some (.slice A ns.length c)) (first | go_keep) (first
          | (go_at_call 41; refine (H41.out ⟨⟨j1, j2, j3, j4, j5, j6⟩, j7, j8, j9, j10⟩ _ M5.out.N CF5.out).mono ?_; rintro e w6 ⟨⟨A7, c7, rfl, hv7⟩, hb⟩; have M6 := Lib.hid (M5.out.next hb); have B6 := Lib.hid (hb0to B5.out hb); have V6 := Lib.hid hv7; clear hv7; obtain ⟨r0, r1, r2, r3, r4, r5, r6, r7⟩ := M6.out.x.cells; have k0 := cell_of_heap (o := 0) M6.out.bx rfl; clear hb)
          | (go_at_call 40; refine (HC8.out _ (M.out.H.below (drew_below _))).mono ?_; rintro e w5 ⟨⟨⟨⟨j1, j2, j3, j4, j5, j6⟩, j7, j8, j9, j10⟩, rfl, hcf, hq⟩, hb⟩; have hbX := hb0to (drew_below wn) hb; have M5 := Lib.hid (M.out.next hbX); have B5 := Lib.hid (hb0to B.out hbX); have CF5 := Lib.hid (CopRet.fair hcf hq).1; obtain ⟨r0, r1, r2, r3, r4, r5, r6, r7⟩ := M5.out.x.cells; have k0 := cell_of_heap (o := 0) M5.out.bx rfl; clear hcf hq hb hbX))
        go_upto_region 12 with (first
          | (go_at_call 42; refine (H42.out _).mono ?_; rintro e w7 ⟨rfl, rfl⟩)
          | (go_at_call 43; refine (H43.out _ M6.out.N).mono ?_; rintro e w8 ⟨⟨A8, c8, rfl, hv8⟩, hb⟩; have B8 := Lib.hid (hb0to B6.out hb); have V8 := Lib.hid (ints_later V6.out hb); have K8 := Lib.hid hv8; clear hv8 hb r0 r1 r2 r3 r4 r5 r6 r7 k0))
        go_wp2
        go_loopw [12, 11] (fun i x wr => ∃ k : Nat, k ≤ ns.length ∧ i = .int .i64 k ∧ (∃ y : Int, x = .int .i64 y ∧ Hid (y = Sh.keptSum ns n k)) ∧ w8 = wr) (fun i _ _ => ns.length - (intOf i).toNat)
        case atStart => exact ⟨0, Nat.zero_le _, rfl, ⟨0, rfl, Lib.hid rfl⟩, rfl⟩
        case round =>
          obtain ⟨k, hk, rfl, ⟨y, rfl, hy⟩, rfl⟩ := hrel
          by_cases hlt : k < ns.length
          · obtain ⟨b1, o1, rfl, _, d1⟩ := IntsAt.at_ V8.out (Sh.kepts_at hlt)
            have hbd := HBD.out k hlt
            have hs0 := HSB.out k (Nat.le_of_lt hlt)
            have hs1 := HSB.out (k + 1) hlt
            have HSS := Lib.hid (Sh.keptSum_succ ns n k)
            have H28 := Lib.hid (fun W => Sh.within1_is (Sh.keptS ns n k) 0 n W true (Sh.inR_true.2 hbd))
            generalize Sh.keptS ns n k = v at d1 hbd HSS H28
            have hyv := hy.out
            rw [HSS.out] at hs1
            have hyb : 0 ≤ y ∧ y ≤ 400 := by omega
            have HN1 := Lib.hid (show y + v = Sh.keptSum ns n (k + 1) by rw [HSS.out]; omega)
            clear hs0 hs1 hyv
            go_wp2_with (go_at_call 28; refine (H28.out _).mono ?_; rintro e w' ⟨rfl, rfl⟩)
            go_roundw
            case rel => exact ⟨k + 1, by omega, by go_num, ⟨y + v, by go_num, HN1⟩, by trivial⟩
            case measure => simp [intOf]; omega
          · obtain rfl : k = ns.length := by omega
            obtain rfl : y = n := hy.out.trans HSA.out
            have HS44 := Lib.hid (SameK A8 A7 c8 c7 _ ns.length HLE.out hn4 w8 K8.out V8.out)
            go_wp2_with (first
              | (go_at_call 44; refine HS44.out.mono ?_; rintro e w9 ⟨rfl, hb⟩; have B9 := Lib.hid (hb0to B8.out hb); clear hb)
              | (go_at_call 38; refine (Sh.works_any _).mono ?_; rintro e wz ⟨rfl, hb⟩; have BZ := Lib.hid (hb0to B9.out hb); clear hb))
            go_ret
            exact ⟨rfl, hb0to HBW.out BZ.out⟩
      · have H41 := Lib.hid (fun G W hN hG => Sold_no A c ns hn4 hk G f hfn hq he W hN hG)
        have hd : (er != 0) = true := bne_iff_ne.2 he
        clear hv hh hfn hok hq hk hn hl8
        obtain ⟨L, Ap, cp, Aq, cq⟩ := F
        go_enter Try.func6, Try.ntmps6
        go_upto_region 1 with (fail)
        have e := HW0.out
        rw [e]
        clear e
        go_upto_region 4 with (first
          | (go_at_call 36; refine (HR.out _ M.out.N).mono ?_; rintro e wn ⟨rfl, hb⟩; have MN := Lib.hid (M.out.next hb); have BN := Lib.hid (hb0to B.out hb); have M := MN; have B := BN; clear MN BN; skip; obtain ⟨r0, r1, r2, r3, r4, r5, r6, r7⟩ := M.out.x.cells; have k0 := cell_of_heap (o := 0) M.out.bx rfl; clear hb)
          | (go_at_call 37; refine (HF5.out _ M.out.H).mono ?_; rintro e wn ⟨rfl, hb⟩; have MN := Lib.hid (M.out.next hb); have BN := Lib.hid (hb0to B.out hb); have M := MN; have B := BN; clear MN BN; skip; obtain ⟨r0, r1, r2, r3, r4, r5, r6, r7⟩ := M.out.x.cells; have k0 := cell_of_heap (o := 0) M.out.bx rfl; clear hb)
          | (have tk := T39.out; clear T39 tk; go_at_call 39; refine (H39.out ⟨⟨j1, j2, j3, j4, j5, j6⟩, j7, j8, j9, j10⟩ _ CF.out).mono ?_; rintro e wn ⟨rfl, hb⟩; have MN := Lib.hid (M.out.next hb); have BN := Lib.hid (hb0to B.out hb); have M := MN; have B := BN; clear MN BN; clear CF; obtain ⟨r0, r1, r2, r3, r4, r5, r6, r7⟩ := M.out.x.cells; have k0 := cell_of_heap (o := 0) M.out.bx rfl; clear hb)
          | (have tk := T40.out; clear T40 tk; go_at_call 40; refine (HC8.out _ M.out.H).mono ?_; rintro e wn ⟨⟨⟨⟨j1, j2, j3, j4, j5, j6⟩, j7, j8, j9, j10⟩, rfl, hcf, hq⟩, hb⟩; have MN := Lib.hid (M.out.next hb); have BN := Lib.hid (hb0to B.out hb); have M := MN; have B := BN; clear MN BN; have CF := Lib.hid (CopRet.fair hcf hq).1; clear hcf hq; obtain ⟨r0, r1, r2, r3, r4, r5, r6, r7⟩ := M.out.x.cells; have k0 := cell_of_heap (o := 0) M.out.bx rfl; clear hb))
        go_region_held3 (fun w' => w'.cell? ⟨w.heap.size + 1, 0, none⟩ = some (.slice L.Ak f.h.ks.length L.ck) ∧ w'.cell? ⟨w.heap.size + 1, 1, none⟩ = some (.int .i64 f.h.fl) ∧ w'.cell? ⟨w.heap.size + 1, 2, none⟩ = some (.slice L.Ap f.h.ps.length L.cp) ∧ w'.cell? ⟨w.heap.size + 1, 3, none⟩ = some (.slice L.Ab f.h.bs.length L.cb) ∧ w'.cell? ⟨w.heap.size + 1, 4, none⟩ = some (.slice Ap f.pk.length cp) ∧ w'.cell? ⟨w.heap.size + 1, 5, none⟩ = some (.int .i64 f.day) ∧ w'.cell? ⟨w.heap.size + 1, 6, none⟩ = some (.int .i64 f.nb) ∧ w'.cell? ⟨w.heap.size + 1, 7, none⟩ = some (.slice Aq f.q.length cq) ∧ w'.cell? ⟨w.heap.size, 0, none⟩ = some (.slice A ns.length c)) (first | go_keep) (first
          | (go_at_call 41; refine (H41.out ⟨⟨j1, j2, j3, j4, j5, j6⟩, j7, j8, j9, j10⟩ _ M5.out.N CF5.out).mono ?_; rintro e w6 ⟨⟨A7, c7, rfl, hv7⟩, hb⟩; have M6 := Lib.hid (M5.out.next hb); have B6 := Lib.hid (hb0to B5.out hb); clear hv7; obtain ⟨r0, r1, r2, r3, r4, r5, r6, r7⟩ := M6.out.x.cells; have k0 := cell_of_heap (o := 0) M6.out.bx rfl; clear hb)
          | (go_at_call 40; refine (HC8.out _ (M.out.H.below (drew_below _))).mono ?_; rintro e w5 ⟨⟨⟨⟨j1, j2, j3, j4, j5, j6⟩, j7, j8, j9, j10⟩, rfl, hcf, hq⟩, hb⟩; have hbX := hb0to (drew_below wn) hb; have M5 := Lib.hid (M.out.next hbX); have B5 := Lib.hid (hb0to B.out hbX); have CF5 := Lib.hid (CopRet.fair hcf hq).1; obtain ⟨r0, r1, r2, r3, r4, r5, r6, r7⟩ := M5.out.x.cells; have k0 := cell_of_heap (o := 0) M5.out.bx rfl; clear hcf hq hb hbX))
        go_wp2_with (first
          | (go_at_call 38; refine (Sh.works_any _).mono ?_; rintro e wz ⟨rfl, hb⟩; have BZ := Lib.hid (hb0to B6.out hb); clear hb))
        go_ret
        exact ⟨rfl, hb0to HBW.out BZ.out⟩
    · rw [hh] at HF5
      clear hv hok hn hh
      obtain ⟨L, Ap, cp, Aq, cq⟩ := F
      go_enter Try.func6, Try.ntmps6
      go_upto_region 1 with (fail)
      have e := HW0.out
      rw [e]
      clear e
      go_wp2_with (first
        | (go_at_call 36; refine (HR.out _ M.out.N).mono ?_; rintro e wn ⟨rfl, hb⟩; have MN := Lib.hid (M.out.next hb); have BN := Lib.hid (hb0to B.out hb); have M := MN; have B := BN; clear MN BN; skip; obtain ⟨r0, r1, r2, r3, r4, r5, r6, r7⟩ := M.out.x.cells; have k0 := cell_of_heap (o := 0) M.out.bx rfl; clear hb)
        | (go_at_call 37; refine (HF5.out _ M.out.H).mono ?_; rintro e wn ⟨rfl, hb⟩; have MN := Lib.hid (M.out.next hb); have BN := Lib.hid (hb0to B.out hb); have M := MN; have B := BN; clear MN BN; skip; obtain ⟨r0, r1, r2, r3, r4, r5, r6, r7⟩ := M.out.x.cells; have k0 := cell_of_heap (o := 0) M.out.bx rfl; clear hb)
        | (go_at_call 38; refine (Sh.works_any _).mono ?_; rintro e wn ⟨rfl, hb⟩; have MN := Lib.hid (M.out.next hb); have BN := Lib.hid (hb0to B.out hb); have M := MN; have B := BN; clear MN BN; skip; obtain ⟨r0, r1, r2, r3, r4, r5, r6, r7⟩ := M.out.x.cells; have k0 := cell_of_heap (o := 0) M.out.bx rfl; clear hb))
      go_ret
      exact ⟨rfl, hb0to HBW.out B.out⟩

end Go.Proofs.Ytmbcpmnigggbaaa
