import Derived.Test.YtmbcpmnigggbaaaH1
import Derived.Test.YtmbcpmnigggbaaaH3
namespace Go.Proofs.Ytmbcpmnigggbaaa
open Go.RowKit
/-- A fair with so many barrels, each with one part, and so many buyers, and no bids yet. -/
def emptyF (P : Nat) (nb : Int) : Fair := ⟨⟨[(0, 0)], 0, List.replicate P (0, 0), List.replicate P 0⟩, intsN (List.range P), 0, nb, []⟩
set_option maxRecDepth 100000 in
set_option maxHeartbeats 4000000 in
theorem emptyFair_any (P : Nat) (hP : P ≤ 900) (nb : Int) (w : World) :
    Calls Try.prog 30 #[.int .i64 P, .int .i64 nb] w fun e w' => (∃ L A c, e = .returned (FL.enc ⟨L, A, c, none, 0⟩ (emptyF P nb)) ∧ CopF w' w.heap.size ⟨L, A, c, none, 0⟩ (emptyF P nb)) ∧ Below w.heap.size w w' := by
  have M0 := Lib.hid (EIn.new w nb)
  go_enter Try.func30, Try.ntmps30
  go_wp2
  go_loopw [6] (fun i wr => ∃ (k : Nat) (Ap : Option Addr) (cp : Nat) (Ab : Option Addr) (cb : Nat) (Aq : Option Addr) (cq : Nat), k ≤ P ∧ i = .int .i64 k ∧ Hid (EIn w nb Ap cp Ab cb Aq cq (List.replicate k (0, 0)) (List.replicate k 0) (intsN (List.range k)) wr)) (fun i _ => P - (intOf i).toNat)
  case atStart => exact ⟨0, none, 0, none, 0, none, 0, Nat.zero_le _, rfl, M0⟩
  case round =>
    obtain ⟨k, Ap, cp, Ab, cb, Aq, cq, hk, rfl, M⟩ := hrel
    have hx := M.out.x
    simp only [List.length_replicate, intsN_len, List.length_range] at hx
    have c0 : wr.cell? ⟨w.heap.size + 2, 0, none⟩ = some (.slice (some ⟨w.heap.size + 1, 0, none⟩) 1 1) := cell_of_heap (o := 0) hx rfl
    have c1 : wr.cell? ⟨w.heap.size + 2, 1, none⟩ = some (.int .i64 0) := cell_of_heap (o := 1) hx rfl
    have c2 : wr.cell? ⟨w.heap.size + 2, 2, none⟩ = some (.slice Ap k cp) := cell_of_heap (o := 2) hx rfl
    have c3 : wr.cell? ⟨w.heap.size + 2, 3, none⟩ = some (.slice Ab k cb) := cell_of_heap (o := 3) hx rfl
    have c4 : wr.cell? ⟨w.heap.size + 2, 4, none⟩ = some (.slice Aq k cq) := cell_of_heap (o := 4) hx rfl
    have c5 : wr.cell? ⟨w.heap.size + 2, 5, none⟩ = some (.int .i64 0) := cell_of_heap (o := 5) hx rfl
    have c6 : wr.cell? ⟨w.heap.size + 2, 6, none⟩ = some (.int .i64 nb) := cell_of_heap (o := 6) hx rfl
    have c7 : wr.cell? ⟨w.heap.size + 2, 7, none⟩ = some (.slice none 0 0) := cell_of_heap (o := 7) hx rfl
    have cf := frozen_of_heap hx
    by_cases hlt : k < P
    · clear hx
      have HB0 := Lib.hid (show Ints (wr.alloc (.cells #[.int .i64 0] 3)) w.heap.size (.slice Ab k cb) (List.replicate k 0) by
        have h := (M.out.alloc (.cells #[.int .i64 0] 3)).bs
        rwa [List.length_replicate] at h)
      go_upto_region 6 with (refine wpl_appD (by rfl) _ _ (by rfl) w.heap.size w.heap.size _ (List.replicate k 0) 0 (by rfl) HB0.out ⟨wr.heap.size, 0, none⟩ 1 (by rfl) (by simp [go_sem]) (by simp; omega) (by have := M.out.B.size; simp; omega) (Nat.le_refl _) ?_; intro v1 w1 h1 hb hg hw; obtain ⟨hx1, A1, d1, e1, M1⟩ := (M.out.alloc (.cells #[.int .i64 0] 3)).addB h1 hb (by rw [List.length_replicate]; exact hg) (by rw [List.length_replicate]; exact hw); simp only [List.length_replicate, intsN_len, List.length_range] at e1 M1 hx1; subst e1; have HM := Lib.hid M1; have g3 := cell_of_heap (o := 3) hx1 rfl; have gf := frozen_of_heap hx1; clear h1 hb hg hw M1 hx1)
      obtain ⟨W2, hW2⟩ : ∃ x, w1.setCell ⟨w.heap.size + 2, 3, none⟩ (.slice A1 (k + 1) d1) = x := ⟨_, rfl⟩
      have M2 := HM.out
      rw [hW2] at M2 ⊢
      have HM2 := Lib.hid M2
      have hx := M2.x
      simp only [List.length_replicate, intsN_len, List.length_range] at hx
      simp only [List.length_append, List.length_replicate, List.length_singleton] at hx
      clear c0 c1 c2 c3 c4 c5 c6 c7 cf g3 gf M2 HM HB0 hW2
      have c0 : W2.cell? ⟨w.heap.size + 2, 0, none⟩ = some (.slice (some ⟨w.heap.size + 1, 0, none⟩) 1 1) := cell_of_heap (o := 0) hx rfl
      have c1 : W2.cell? ⟨w.heap.size + 2, 1, none⟩ = some (.int .i64 0) := cell_of_heap (o := 1) hx rfl
      have c2 : W2.cell? ⟨w.heap.size + 2, 2, none⟩ = some (.slice Ap k cp) := cell_of_heap (o := 2) hx rfl
      have c3 : W2.cell? ⟨w.heap.size + 2, 3, none⟩ = some (.slice A1 (k + 1) d1) := cell_of_heap (o := 3) hx rfl
      have c4 : W2.cell? ⟨w.heap.size + 2, 4, none⟩ = some (.slice Aq k cq) := cell_of_heap (o := 4) hx rfl
      have c5 : W2.cell? ⟨w.heap.size + 2, 5, none⟩ = some (.int .i64 0) := cell_of_heap (o := 5) hx rfl
      have c6 : W2.cell? ⟨w.heap.size + 2, 6, none⟩ = some (.int .i64 nb) := cell_of_heap (o := 6) hx rfl
      have c7 : W2.cell? ⟨w.heap.size + 2, 7, none⟩ = some (.slice none 0 0) := cell_of_heap (o := 7) hx rfl
      have cf := frozen_of_heap hx
      have HP0 := Lib.hid (show OwnsP (W2.alloc (.cells #[.int .i64 0, .int .i64 0] 97)) 97 w.heap.size (.slice Ap k cp) (List.replicate k (0, 0)) by
        have h := (HM2.out.alloc (.cells #[.int .i64 0, .int .i64 0] 97)).ps
        rwa [List.length_replicate] at h)
      clear hx
      go_upto_region 7 with (refine wpl_appP (by rfl) _ _ (by rfl) w.heap.size _ (List.replicate k (0, 0)) (0, 0) (by rfl) HP0.out W2.heap.size 1 (by rfl) (by simp [go_sem]) (by simp [go_sem]) (by simp; omega) (by have := HM2.out.B.size; simp; omega) ?_; intro v1 w3 h1 hb hk; obtain ⟨hx1, A2, d2, e1, M1⟩ := (HM2.out.alloc (.cells #[.int .i64 0, .int .i64 0] 97)).addP h1 hb hk; simp only [List.length_replicate, intsN_len, List.length_range] at e1 M1 hx1; subst e1; have HM3 := Lib.hid M1; have g3 := cell_of_heap (o := 2) hx1 rfl; have gf := frozen_of_heap hx1; clear h1 hb hk M1 hx1)
      obtain ⟨W4, hW4⟩ : ∃ x, w3.setCell ⟨w.heap.size + 2, 2, none⟩ (.slice A2 (k + 1) d2) = x := ⟨_, rfl⟩
      have M4 := HM3.out
      rw [hW4] at M4 ⊢
      have HM4 := Lib.hid M4
      have hx := M4.x
      simp only [List.length_append, List.length_replicate, List.length_singleton, intsN_len, List.length_range] at hx
      clear c0 c1 c2 c3 c4 c5 c6 c7 cf g3 gf M4 HM3 HP0 hW4
      have c0 : W4.cell? ⟨w.heap.size + 2, 0, none⟩ = some (.slice (some ⟨w.heap.size + 1, 0, none⟩) 1 1) := cell_of_heap (o := 0) hx rfl
      have c1 : W4.cell? ⟨w.heap.size + 2, 1, none⟩ = some (.int .i64 0) := cell_of_heap (o := 1) hx rfl
      have c2 : W4.cell? ⟨w.heap.size + 2, 2, none⟩ = some (.slice A2 (k + 1) d2) := cell_of_heap (o := 2) hx rfl
      have c3 : W4.cell? ⟨w.heap.size + 2, 3, none⟩ = some (.slice A1 (k + 1) d1) := cell_of_heap (o := 3) hx rfl
      have c4 : W4.cell? ⟨w.heap.size + 2, 4, none⟩ = some (.slice Aq k cq) := cell_of_heap (o := 4) hx rfl
      have c5 : W4.cell? ⟨w.heap.size + 2, 5, none⟩ = some (.int .i64 0) := cell_of_heap (o := 5) hx rfl
      have c6 : W4.cell? ⟨w.heap.size + 2, 6, none⟩ = some (.int .i64 nb) := cell_of_heap (o := 6) hx rfl
      have c7 : W4.cell? ⟨w.heap.size + 2, 7, none⟩ = some (.slice none 0 0) := cell_of_heap (o := 7) hx rfl
      have cf := frozen_of_heap hx
      have HK0 := Lib.hid (show Ints (W4.alloc (.cells #[.int .i64 (k : Int)] 3)) w.heap.size (.slice Aq k cq) (intsN (List.range k)) by
        have h := (HM4.out.alloc (.cells #[.int .i64 (k : Int)] 3)).pk
        rwa [intsN_len, List.length_range] at h)
      clear hx
      go_wp2_with (refine wpl_appD (by rfl) _ _ (by rfl) w.heap.size w.heap.size _ (intsN (List.range k)) (k : Int) (by rfl) HK0.out ⟨W4.heap.size, 0, none⟩ 1 (by rfl) (by simp [go_sem]) (by rw [intsN_len, List.length_range]; omega) (by have := HM4.out.B.size; simp; omega) (Nat.le_refl _) ?_; intro v1 w5 h1 hb hg hw; obtain ⟨hx1, A3, d3, e1, M1⟩ := (HM4.out.alloc (.cells #[.int .i64 (k : Int)] 3)).addK h1 hb (by rw [intsN_len, List.length_range]; exact hg) (by rw [intsN_len, List.length_range]; exact hw); simp only [List.length_replicate, intsN_len, List.length_range] at e1 M1 hx1; subst e1; have HM5 := Lib.hid M1; have g3 := cell_of_heap (o := 4) hx1 rfl; have gf := frozen_of_heap hx1; clear h1 hb hg hw M1 hx1)
      go_roundw
      case rel =>
        refine ⟨k + 1, A2, d2, A1, d1, A3, d3, by omega, by go_num, Lib.hid ?_⟩
        have h := HM5.out
        rw [show List.replicate k (0 : Int) ++ [0] = List.replicate (k + 1) 0 from List.replicate_succ'.symm, show List.replicate k ((0 : Int), (0 : Int)) ++ [(0, 0)] = List.replicate (k + 1) (0, 0) from List.replicate_succ'.symm, show intsN (List.range k) ++ [(k : Int)] = intsN (List.range (k + 1)) by simp [intsN, List.range_succ]] at h
        exact h
      case measure => simp [intOf]; omega
    · obtain rfl : k = P := by omega
      have hr := M.out.r
      have hs1 := M.out.B.size
      have r0 := cell_of_heap (o := 0) hr rfl
      have r1 := cell_of_heap (o := 1) hr rfl
      have r2 := cell_of_heap (o := 2) hr rfl
      have r3 := cell_of_heap (o := 3) hr rfl
      have r4 := cell_of_heap (o := 4) hr rfl
      have r5 := cell_of_heap (o := 5) hr rfl
      have r6 := cell_of_heap (o := 6) hr rfl
      have r7 := cell_of_heap (o := 7) hr rfl
      have rf := frozen_of_heap hr
      have HRr := Lib.hid hr
      clear hr hx
      go_wp2
      have e := set8_heap HRr.out (.slice (some ⟨w.heap.size + 1, 0, none⟩) 1 1) (.int .i64 0) (.slice Ap k cp) (.slice Ab k cb) (.slice Aq k cq) (.int .i64 0) (.int .i64 nb) (.slice none 0 0)
      have hl : (emptyF k nb).h.ps.length = k := by simp [emptyF]
      have hl2 : (emptyF k nb).h.bs.length = k := by simp [emptyF]
      have hl3 : (emptyF k nb).pk.length = k := by simp [emptyF, intsN_len]
      refine bodyPost_ret (results_cell rfl rfl (load29 (cell_of_heap (o := 0) e rfl) (cell_of_heap (o := 1) e rfl) (cell_of_heap (o := 2) e rfl) (cell_of_heap (o := 3) e rfl) (cell_of_heap (o := 4) e rfl) (cell_of_heap (o := 5) e rfl) (cell_of_heap (o := 6) e rfl) (cell_of_heap (o := 7) e rfl))) rfl ⟨⟨⟨some ⟨w.heap.size + 1, 0, none⟩, 1, Ap, cp, Ab, cb⟩, Aq, cq, ?_, ?_⟩, ?_⟩
      · unfold FL.enc
        simp only [hl, hl2, hl3]
        rfl
      · have k1 : ∀ t, t ≠ 62 → KeepT t wr _ := fun t ht => keepT_set8 HRr.out (Ne.symm ht) (.slice (some ⟨w.heap.size + 1, 0, none⟩) 1 1) (.int .i64 0) (.slice Ap k cp) (.slice Ab k cb) (.slice Aq k cq) (.int .i64 0) (.int .i64 nb) (.slice none 0 0)
        exact ⟨⟨M.out.ks.keepT (k1 _ (by decide)), M.out.ps.keepT (k1 _ (by decide)), M.out.bs.keepT (k1 _ (by decide))⟩, M.out.pk.keepT (k1 _ (by decide))⟩
      · exact below_set8 M.out.B (Nat.le_refl _) _ _ _ _ _ _ _ _

end Go.Proofs.Ytmbcpmnigggbaaa
namespace Go.Proofs.Ytmbcpmnigggbaaa.Li
open Go.RowKit

/-! The reference's lists of numbers: SameInts 43, In 65, Rising 21, Earlier 24. -/
theorem wp_region_extW {P : Program} {id : Nat} {Q : Exit → Act → World → Prop} {a : Act} {w : World} {L : List Oper} (hm : P.follows .mixedOrders = true) (hB : Region.lexB .any L.toArray = true)
    (h : wpQuiet P L.toArray (fun w' => ∃ x, w' = extB w x) (fun a' => ∀ w', (∃ x, w' = extB w x) → Q .normal a' w') L a) : (Code.region id L.toArray true).wp P Q a w := wp_region_ext hm hB h
set_option maxRecDepth 100000 in
set_option maxHeartbeats 4000000 in
theorem rIn_any (l : List Int) (hl : l.length ≤ 1000) (x : Int) (A : Option Addr) (c : Nat) (w : World) (hI : IntsAt w w.heap.size A l) :
    Calls Try.prog 77 #[.slice A l.length c, .int .i64 x] w fun e w' => e = .returned (.bool (decide (x ∈ l))) ∧ Below w.heap.size w w' := by
  have HI := Lib.hid hI
  clear hI
  go_enter Try.func77, Try.ntmps77
  go_wp2
  go_loopw [5] (fun i wr => ∃ k : Nat, k ≤ l.length ∧ i = .int .i64 k ∧ Hid (∀ j, j < k → l[j]? ≠ some x) ∧ Below w.heap.size w wr) (fun i _ => l.length - (intOf i).toNat)
  case atStart => exact ⟨0, Nat.zero_le _, rfl, Lib.hid (fun j hj => by omega), Below.refl _ _⟩
  case round =>
    obtain ⟨k, hk', rfl, hno, hb⟩ := hrel
    by_cases hlt : k < l.length
    · obtain ⟨y, hy⟩ : ∃ y, l[k]? = some y := ⟨_, List.getElem?_eq_getElem hlt⟩
      obtain ⟨b1, o1, rfl, b1lt, d1⟩ := HI.out.at_ hy
      have e1 := below_cell hb d1
      have hki : (k : Int) < l.length := by omega
      have hk0' : (0 : Int) ≤ (k : Int) := by omega
      have HY := Lib.hid hy
      clear hy d1
      by_cases hxy : y = x
      · subst hxy
        have HE := Lib.hid (show decide (y ∈ l) = true from decide_eq_true (List.mem_of_getElem? HY.out))
        go_wp2
        go_ret
        exact ⟨by rw [HE.out]; rfl, hb⟩
      · have HN := Lib.hid (show ∀ j, j < k + 1 → l[j]? ≠ some x from fun j hj => by
          rcases Nat.lt_succ_iff_lt_or_eq.1 hj with h1 | rfl
          · exact hno.out j h1
          · rw [HY.out]; simpa using hxy)
        have hne : decide (y = x) = false := decide_eq_false hxy
        clear hno
        go_wp2
        go_roundw
        case rel => exact ⟨k + 1, by omega, by go_num, HN, hb⟩
        case measure => simp [intOf]; omega
    · obtain rfl : k = l.length := by omega
      have HE := Lib.hid (show decide (x ∈ l) = false from decide_eq_false fun hm => by
        obtain ⟨j, hj, e⟩ := List.mem_iff_getElem.1 hm
        exact hno.out j hj (by rw [List.getElem?_eq_getElem hj, e]))
      clear hno
      go_wp2
      go_ret
      exact ⟨by rw [HE.out]; rfl, hb⟩
open Go.RowKit

open Go.RowKit

/-! works 17. -/
/-- The memory of works. -/
structure ExM (W : World) (a b : Nat) (c : Option Addr) (d k s : Nat) : Prop where
  S : SeaAt W W.heap.size ⟨some ⟨a, 0, none⟩, 3, some ⟨b, 0, none⟩, 4⟩ exS
  T : SeaAt W W.heap.size ⟨c, k, some ⟨d, 0, none⟩, 2⟩ exR
  x : SBox W s ⟨some ⟨a, 0, none⟩, 3, some ⟨b, 0, none⟩, 4⟩ exS
  y : SBox W (s + 1) ⟨c, k, some ⟨d, 0, none⟩, 2⟩ exR
theorem ExM.c {W : World} {a b : Nat} {c : Option Addr} {d k s : Nat} (H : ExM W a b c d k s) : (W.cell? ⟨s, 0, none⟩ = some (.int .i64 100) ∧ W.cell? ⟨s, 1, none⟩ = some (.int .i64 120) ∧ W.cell? ⟨s, 2, none⟩ = some (.slice (some ⟨a, 0, none⟩) 3 3) ∧ W.cell? ⟨s, 3, none⟩ = some (.slice (some ⟨b, 0, none⟩) 4 4)) ∧
    (W.cell? ⟨s + 1, 0, none⟩ = some (.int .i64 100) ∧ W.cell? ⟨s + 1, 1, none⟩ = some (.int .i64 120) ∧ W.cell? ⟨s + 1, 2, none⟩ = some (.slice c 3 k) ∧ W.cell? ⟨s + 1, 3, none⟩ = some (.slice (some ⟨d, 0, none⟩) 2 2)) := ⟨H.x.cells, H.y.cells⟩
theorem ExM.new {W : World} {a b : Nat} {c : Option Addr} {d k : Nat} (hS : SeaAt W W.heap.size ⟨some ⟨a, 0, none⟩, 3, some ⟨b, 0, none⟩, 4⟩ exS) (hT : SeaAt W W.heap.size ⟨c, k, some ⟨d, 0, none⟩, 2⟩ exR) :
    ExM ((W.alloc (.cells #[.int .i64 100, .int .i64 120, .slice (some ⟨a, 0, none⟩) 3 3, .slice (some ⟨b, 0, none⟩) 4 4] 44)).alloc (.cells #[.int .i64 100, .int .i64 120, .slice c 3 k, .slice (some ⟨d, 0, none⟩) 2 2] 44)) a b c d k W.heap.size := by
  have hb := hb0to (al_below W (.cells #[.int .i64 100, .int .i64 120, .slice (some ⟨a, 0, none⟩) 3 3, .slice (some ⟨b, 0, none⟩) 4 4] 44)) (al_below _ (.cells #[.int .i64 100, .int .i64 120, .slice c 3 k, .slice (some ⟨d, 0, none⟩) 2 2] 44))
  exact ⟨hS.below hb, hT.below hb, (SBox.new W ⟨some ⟨a, 0, none⟩, 3, some ⟨b, 0, none⟩, 4⟩ exS).of (Below.heap_alloc _ _ _ (by simp)), heap_new2 W _ _⟩
/-- The box of a span. -/
def PBox (W : World) (z : Nat) : Prop := W.heap[z]? = some (.cells #[.int .i64 2, .int .i64 5] 35 (0, 0))
theorem PBox.cells {W : World} {z : Nat} (h : PBox W z) : W.cell? ⟨z, 0, none⟩ = some (.int .i64 2) ∧ W.cell? ⟨z, 1, none⟩ = some (.int .i64 5) := by simp [World.cell?, show W.heap[z]? = _ from h]
end Go.Proofs.Ytmbcpmnigggbaaa.Li
namespace Go.Proofs.Ytmbcpmnigggbaaa.Li
open Go.RowKit

open Go.RowKit

/-! The law's own words: Far 40, ready 16, isKnown 20, has 48, needs 19, can 27, most 34, cheap 36; the specification's Can 22, Least 23. -/
def farB (s : Sea) : Bool := decide (40 < s.ps.length) || decide (40 < s.bs.length)
set_option maxRecDepth 100000 in
set_option maxHeartbeats 4000000 in
theorem far_any (L : SL) (s : Sea) (w : World) : Calls Try.prog 17 #[L.enc s] w fun e w' => e = .returned (.bool (farB s)) ∧ Below w.heap.size w w' := by
  have hbw := al_below w (.cells #[.int .i64 s.wl, .int .i64 s.wh, .slice L.Ap s.ps.length L.cp, .slice L.Ab s.bs.length L.cb] 44)
  have HB := Lib.hid (SBox.new w L s)
  obtain ⟨c0, c1, c2, c3⟩ := (SBox.new w L s).cells
  obtain ⟨W0, hW0⟩ : ∃ W0, w.alloc (.cells #[.int .i64 s.wl, .int .i64 s.wh, .slice L.Ap s.ps.length L.cp, .slice L.Ab s.bs.length L.cb] 44) = W0 := ⟨_, rfl⟩
  rw [hW0] at hbw HB c0 c1 c2 c3
  have HBW := Lib.hid hbw
  have HW0 := Lib.hid hW0
  clear hbw hW0
  by_cases h1 : 40 < s.ps.length
  · have hd1 : decide ((40 : Int) < (s.ps.length : Int)) = true := decide_eq_true (by omega)
    have HQ := Lib.hid (show farB s = true by unfold farB; rw [decide_eq_true h1]; rfl)
    clear h1
    obtain ⟨Ap, cp, Ab, cb⟩ := L
    go_enter Try.func17, Try.ntmps17
    go_upto_region 1 with (fail)
    have e := HW0.out
    rw [e]
    clear e
    go_wp2_with (fail)
    go_ret
    exact ⟨by rw [HQ.out]; rfl, HBW.out⟩
  · have hd1 : decide ((40 : Int) < (s.ps.length : Int)) = false := decide_eq_false (by omega)
    by_cases h2 : 40 < s.bs.length
    · have hd2 : decide ((40 : Int) < (s.bs.length : Int)) = true := decide_eq_true (by omega)
      have HQ := Lib.hid (show farB s = true by unfold farB; rw [decide_eq_true h2, Bool.or_true])
      clear h1 h2
      obtain ⟨Ap, cp, Ab, cb⟩ := L
      go_enter Try.func17, Try.ntmps17
      go_upto_region 1 with (fail)
      have e := HW0.out
      rw [e]
      clear e
      go_wp2_with (fail)
      go_ret
      exact ⟨by rw [HQ.out]; rfl, HBW.out⟩
    · have hd2 : decide ((40 : Int) < (s.bs.length : Int)) = false := decide_eq_false (by omega)
      have HQ := Lib.hid (show farB s = false by unfold farB; rw [decide_eq_false h1, decide_eq_false h2]; rfl)
      clear h1 h2
      obtain ⟨Ap, cp, Ab, cb⟩ := L
      go_enter Try.func17, Try.ntmps17
      go_upto_region 1 with (fail)
      have e := HW0.out
      rw [e]
      clear e
      go_wp2_with (fail)
      go_ret
      exact ⟨by rw [HQ.out]; rfl, HBW.out⟩
end Go.Proofs.Ytmbcpmnigggbaaa.Li
namespace Go.Proofs.Ytmbcpmnigggbaaa.Li
open Go.RowKit

end Go.Proofs.Ytmbcpmnigggbaaa.Li
namespace Go.Proofs.Ytmbcpmnigggbaaa.Li
open Go.RowKit

/-- The same at a guarded step. -/
theorem step_copyW {ops : Array Oper} {o : Oper} {a : Act} {w : World} {K : Act → World → Prop} {Q : Exit → Act → World → Prop} {E : Prop} (hw : Region.wanted o (yielded ops a.tmps) = true) (s x : Operand)
    (ho : o.op = .call { callee := .builtin .append, args := #[s, x], argTypes := #[25, 25] }) (n₀ : Nat) (v : Value) (l0 : List Int) (hs : a.eval s = v) (hown : Ints w n₀ v l0)
    (A : Option Addr) (c : Nat) (l : List Int) (m : Nat) (hm : l.length = m) (hA : A = none → c = 0 ∧ l = []) (hx : a.eval x = .slice A m c) (hI : IntsAt w w.heap.size A l) (hl0 : l0.length ≤ 1000) (hl : m ≤ 1000) (hn : n₀ ≤ w.heap.size)
    (h : ∀ v' w', Ints w' n₀ v' (l0 ++ l) → Below n₀ w w' → w.grownBy w' v.ownBlock → K (a.put o.dst v') w') :
    if Region.wanted o (yielded ops a.tmps) = true then Oper.wp Try.prog o a w K Q else E := by
  subst hm
  rw [if_pos hw]
  obtain ⟨i0, hi, hz0, hz1, hz2⟩ := info_parts info3'
  cases A with
  | none =>
    obtain ⟨rfl, rfl⟩ := hA rfl
    have hrun := run_append_owned_none (P := Try.prog) (w := w) n₀ 25 o.type 3 i0 1 Try.underlying25 hi v l0.length _ hown
    have hk := h v w (by rw [List.append_nil]; exact hown) (Below.refl _ _) ⟨rfl, rfl, rfl, Nat.le_refl _, fun _ _ _ => rfl⟩
    unfold Oper.wp
    simp [execOp, ho, resolve, invoke, builtin, hs, hx, hrun, Result.andThen]
    exact hk
  | some ad =>
    refine wp_append_own w s x 25 ho n₀ 3 i0 (.int .i64 0) 1 8 Try.underlying25 hi hz0 hz1 hz2 rfl (by decide) v l0.length _ hs hown ad l.length c (l.map (.int .i64)) hx (by simp) (ints_news hI) (ints_one l) ?_ ?_ hn ?_
    · unfold maxLen; omega
    · omega
    · intro v' w' h2 h3 _
      refine h v' w' ?_ (own_below hown h3 hn (Nat.le_refl _)) h3
      unfold Ints
      rw [List.length_append, List.map_append]
      exact h2
theorem crewB_len {s : Sea} {c : List Int} (h : c.length ≠ s.ps.length) : crewB s c = false := by
  unfold crewB; rw [decide_eq_false h]; simp
theorem ints_take {W : World} {B : Nat} {A : Option Addr} {l : List Int} (h : IntsAt W B A l) (k : Nat) : IntsAt W B A (l.take k) := by
  rcases h with rfl | ⟨b, off, e, h1, h2⟩
  · exact .inl (by simp)
  · refine .inr ⟨b, off, e, h1, fun i x hx => h2 i x ?_⟩
    rw [List.getElem?_take] at hx
    split at hx
    · exact hx
    · cases hx
theorem slice_to (b off n d k : Nat) (hk : k < d) : ∀ W, (Instr.slice 25 (.slice (some ⟨b, off, none⟩) n d) none (some (.int .i64 k)) none).run Try.prog W = .ok (.slice (some ⟨b, off, none⟩) k d) W := fun W => by
  have h : k ≤ d := by omega
  have h0 : ¬ d = 0 := by omega
  simp [Instr.slice, Instr.sliceBounds, Instr.sliceBound, go_sem, h]
set_option maxRecDepth 100000 in
set_option maxHeartbeats 4000000 in
theorem rIsCrew_any (L : SL) (s : Sea) (hS : SOK s) (c : List Int) (A : Option Addr) (cv : Nat) (hcl : c.length ≤ 1000) (hcv : c.length ≤ cv) (w : World) (hH : SeaAt w w.heap.size L s) (hI : IntsAt w w.heap.size A c) : Calls Try.prog 25 #[L.enc s, .slice A c.length cv] w fun e w' => e = .returned (.bool (crewB s c)) ∧ Below w.heap.size w w' := by
  have hbw := al_below w (.cells #[.int .i64 s.wl, .int .i64 s.wh, .slice L.Ap s.ps.length L.cp, .slice L.Ab s.bs.length L.cb] 44)
  have HB := Lib.hid (SBox.new w L s)
  obtain ⟨c0, c1, c2, c3⟩ := (SBox.new w L s).cells
  obtain ⟨W0, hW0⟩ : ∃ W0, w.alloc (.cells #[.int .i64 s.wl, .int .i64 s.wh, .slice L.Ap s.ps.length L.cp, .slice L.Ab s.bs.length L.cb] 44) = W0 := ⟨_, rfl⟩
  rw [hW0] at hbw HB c0 c1 c2 c3
  have HBW := Lib.hid hbw
  have HW0 := Lib.hid hW0
  have HH := Lib.hid (hH.below hbw)
  have HI := Lib.hid (ints_later hI hbw)
  have hpl := hS.pl
  have hbl := hS.bl
  clear hbw hW0 hH hI hS
  by_cases hlen : c.length = s.ps.length
  · have hd0 : ((c.length : Int) != (s.ps.length : Int)) = false := by simp [hlen]
    have HL := Lib.hid hlen
    clear hlen
    obtain ⟨Ap, cp, Ab, cb⟩ := L
    go_enter Try.func25, Try.ntmps25
    go_upto_region 1 with (fail)
    have e := HW0.out
    rw [e]
    clear e
    go_wp2_with (fail)
    clear c0 c1 c2 c3
    go_loopw [5] (fun i wr => ∃ k : Nat, k ≤ c.length ∧ i = .int .i64 k ∧ Hid (((c.take k).all fun x => inR x 0 ((s.bs.length : Int) - 1)) = true ∧ (c.take k).Nodup) ∧ Hid (Below W0.heap.size W0 wr)) (fun i _ => c.length - (intOf i).toNat)
    case atStart => exact ⟨0, Nat.zero_le _, rfl, Lib.hid ⟨rfl, by simp⟩, Lib.hid (Below.refl _ _)⟩
    case round =>
      obtain ⟨k, hk, rfl, hok, hb⟩ := hrel
      by_cases hlt : k < c.length
      · obtain ⟨x, hx⟩ : ∃ x, c[k]? = some x := ⟨_, List.getElem?_eq_getElem hlt⟩
        obtain ⟨bi, oi, eA, blt, d1⟩ := HI.out.at_ hx
        have f1 := below_cell hb.out d1
        obtain ⟨r0, r1, r2, r3⟩ := (HB.out.of (hb.out.block _ HB.out.lt)).cells
        have HX := Lib.hid hx
        subst eA
        clear hx d1
        have H64 := Lib.hid (fun W => rIsBoat_any ⟨Ap, cp, Ab, cb⟩ s x W (by omega))
        cases hr : inR x 0 ((s.bs.length : Int) - 1)
        · rw [hr] at H64
          have HF := Lib.hid (show crewB s c = false by
            unfold crewB
            rw [show (c.all fun x => inR x 0 ((s.bs.length : Int) - 1)) = false from List.all_eq_false.2 ⟨x, List.mem_of_getElem? HX.out, by simp [hr]⟩]
            rfl)
          have ex0 := extB_cell f1
          have ex1 := extB_cell r0
          have ex2 := extB_cell r1
          have ex3 := extB_cell r2
          have ex4 := extB_cell r3
          clear hr r0 r1 r2 r3 f1
          as_aux_lemma =>
          go_upto_region 6 with (fail)
          refine wp_region_extW (by kernel_rfl) (by kernel_rfl) ?_
          repeat (go_big_quiet_step ((go_at_call 76; exact ext_call (H64.out _))))
          refine wpQuiet_nil ?_
          rintro _ ⟨y1, rfl⟩
          have hb3 := hb0to hb.out (extB_below wr y1)
          go_wp2_with (fail)
          go_ret
          exact ⟨by rw [HF.out]; rfl, hb0to HBW.out hb3⟩
        · rw [hr] at H64
          have hsl := slice_to bi oi c.length cv k (by omega)
          have hkl : (c.take k).length = k := by rw [List.length_take]; omega
          have H65 := Lib.hid (fun A2 c2 W hI => rIn_any (c.take k) (by rw [hkl]; omega) x A2 c2 W hI)
          rw [hkl] at H65
          have HTI := Lib.hid (fun W (hbw2 : Below wr.heap.size wr W) => ints_take (ints_later (ints_later HI.out hb.out) hbw2) k)
          have HKL := Lib.hid hkl
          have hk0 : (0 : Int) ≤ k := by omega
          have hk1 : (k : Int) < c.length := by omega
          have hkc : (k : Int) ≤ cv := by omega
          have hcvn : c.length ≤ cv := hcv
          have key : ∀ b, decide (x ∈ c.take k) = b → (b = true → crewB s c = false) ∧ (b = false → ((c.take (k + 1)).all fun x => inR x 0 ((s.bs.length : Int) - 1)) = true ∧ (c.take (k + 1)).Nodup) := by
            rintro b hb
            have ht : c.take (k + 1) = c.take k ++ [x] := by rw [List.take_add_one, HX.out]; rfl
            constructor
            · rintro rfl
              have hm : x ∈ c.take k := by simpa using hb
              unfold crewB
              rw [show decide c.Nodup = false from decide_eq_false fun hn => by
                have h2 := hn.sublist (List.take_sublist (k + 1) c)
                rw [ht, List.nodup_append] at h2
                exact h2.2.2 x hm x (by simp) rfl]
              simp
            · rintro rfl
              have hm : ¬ x ∈ c.take k := by simpa using hb
              rw [ht]
              refine ⟨by rw [List.all_append, hok.out.1]; simp [hr], ?_⟩
              rw [List.nodup_append]
              refine ⟨hok.out.2, by simp, fun y hy z hz => ?_⟩
              simp only [List.mem_singleton] at hz
              subst hz
              exact fun e => hm (e ▸ hy)
          cases hin : decide (x ∈ c.take k)
          all_goals
            first
              | have HK1 := Lib.hid ((key _ hin).1 rfl)
              | have HK2 := Lib.hid ((key _ hin).2 rfl)
            rw [hin] at H65
            clear key hin hr hkl
            as_aux_lemma =>
            go_upto_region 6 with (fail)
            go_region_held3 (fun w' => w'.cell? ⟨w.heap.size, 0, none⟩ = some (.int .i64 s.wl) ∧ w'.cell? ⟨w.heap.size, 1, none⟩ = some (.int .i64 s.wh) ∧ w'.cell? ⟨w.heap.size, 2, none⟩ = some (.slice Ap s.ps.length cp) ∧ w'.cell? ⟨w.heap.size, 3, none⟩ = some (.slice Ab s.bs.length cb) ∧ w'.cell? ⟨bi, oi + k, none⟩ = some (.int .i64 x)) (first | go_keep)
              (first
                | (go_at_call 76; refine (H64.out _).mono ?_; rintro e w1 ⟨rfl, hb1⟩; have hk1' : Below wr.heap.size wr w1 := hb0to (drew_below wr) hb1; have B1 := Lib.hid hk1'; obtain ⟨s0, s1, s2, s3⟩ := (HB.out.of ((hb0to hb.out hk1').block _ HB.out.lt)).cells; have g1 := below_cell hk1' f1; clear hb1 hk1')
                | (refine step_copyW (by rfl) (.tmp 26) (.tmp 29) (by rfl) w1.heap.size _ [] (by rfl) (ints_made w1 w1.heap.size (Nat.le_refl _)) (some ⟨bi, oi, none⟩) cv (c.take k) k HKL.out (fun h => by cases h) (by rfl) (HTI.out _ (hb0to B1.out (al_below w1 _))) (by simp) (by omega) (by simp) ?_; intro v2 w2 h1 h2 h3; have hk2 : Below w1.heap.size w1 w2 := (al_below w1 _).trans h2; have B2 := Lib.hid (hb0to B1.out hk2); obtain ⟨t0, t1, t2, t3⟩ := (HB.out.of ((hb0to hb.out B2.out).block _ HB.out.lt)).cells; have g2 := below_cell B2.out f1; obtain ⟨A2, c2, rfl, -, -, hA2⟩ := (show Ints w2 w1.heap.size v2 (c.take k) from h1).lay; rw [HKL.out]; have I2 := Lib.hid hA2.at_; clear h1 h2 h3 hk2 hA2)
                | (go_at_call 77; refine (H65.out A2 c2 w2 I2.out).mono ?_; rintro e w3 ⟨rfl, hb3⟩; have B3 := Lib.hid (hb0to B2.out hb3); obtain ⟨u0, u1, u2, u3⟩ := (HB.out.of ((hb0to hb.out B3.out).block _ HB.out.lt)).cells; have g3 := below_cell B3.out f1; clear hb3))
            all_goals
              go_wp2_with (fail)
              first
                | (go_ret; exact ⟨by rw [HK1.out]; rfl, hb0to HBW.out (hb0to hb.out B3.out)⟩)
                | (go_roundw
                   case rel => exact ⟨k + 1, by omega, by go_num, HK2, Lib.hid (hb0to hb.out B3.out)⟩
                   case measure => simp [intOf]; omega)
      · obtain rfl : k = c.length := by omega
        have HF := Lib.hid (show crewB s c = true by
          have := hok.out
          rw [List.take_length] at this
          unfold crewB
          rw [this.1, decide_eq_true HL.out, decide_eq_true this.2]; rfl)
        as_aux_lemma =>
        go_wp2_with (fail)
        go_ret
        exact ⟨by rw [HF.out]; rfl, hb0to HBW.out hb.out⟩
  · have hd0 : ((c.length : Int) != (s.ps.length : Int)) = true := by simp; omega
    have HF := Lib.hid (crewB_len hlen)
    clear hlen
    obtain ⟨Ap, cp, Ab, cb⟩ := L
    go_enter Try.func25, Try.ntmps25
    go_upto_region 1 with (fail)
    have e := HW0.out
    rw [e]
    clear e
    go_wp2_with (fail)
    go_ret
    exact ⟨by rw [HF.out]; rfl, HBW.out⟩
end Go.Proofs.Ytmbcpmnigggbaaa.Li
namespace Go.Proofs.Ytmbcpmnigggbaaa.Li
open Go.RowKit

theorem safe_at {s : Sea} {c : List Int} (h : safeC s c = true) {k : Nat} {j : Int} (hj : c[k]? = some j) : needN s k ≤ carryN s j.toNat := by
  unfold safeC at h
  rw [List.all_eq_true] at h
  have := h (j, k) (List.mem_iff_getElem?.2 ⟨k, by rw [List.getElem?_zipIdx, hj]; simp⟩)
  simpa using this
theorem safe_of {s : Sea} {c : List Int} (h : ∀ (k : Nat) (j : Int), c[k]? = some j → needN s k ≤ carryN s j.toNat) : safeC s c = true := by
  unfold safeC
  rw [List.all_eq_true]
  intro p hp
  obtain ⟨k, hk⟩ := List.mem_iff_getElem?.1 hp
  rw [List.getElem?_zipIdx] at hk
  cases hj : c[k]? with
  | none => rw [hj] at hk; simp at hk
  | some j =>
    rw [hj] at hk
    simp only [Option.map_some, Option.some.injEq, Nat.zero_add] at hk
    subst hk
    exact decide_eq_true (h k j hj)
theorem lift_le {s : Sea} {c : List Int} {n : Int} (hn : n ≤ 2000) : n ≤ liftS s c ↔ ∀ (k : Nat) (j : Int), c[k]? = some j → n ≤ holdsN (carryN s j.toNat) (shares s k).2 := by
  unfold liftS
  rw [le_minN hn]
  constructor
  · intro h k j hj
    exact h _ (List.mem_of_getElem? (heldL_at hj))
  · intro h x hx
    obtain ⟨k, hk⟩ := List.mem_iff_getElem?.1 hx
    cases hj : c[k]? with
    | none =>
      have : (heldL s c).length ≤ k := by rw [heldL_length]; exact List.getElem?_eq_none_iff.1 hj
      rw [List.getElem?_eq_none this] at hk; cases hk
    | some j =>
      rw [heldL_at hj] at hk
      cases hk
      exact h k j hj
theorem carry_nn {s : Sea} (hS : SOK s) (j : Nat) : 0 ≤ carryN s j := by
  by_cases hj : j < s.bs.length
  · obtain ⟨z, hz, z0, _⟩ := boat_at hS hj
    rw [(boat_eq hz).1]; exact z0
  · unfold carryN
    rw [List.getD_eq_getElem?_getD, List.getElem?_eq_none (by omega)]
    simp
/-- A crew surely holds just if it lifts the greatest weight. -/
theorem safe_lift {s : Sea} (hS : SOK s) {c : List Int} (hc : CrewOf s.bs.length s.ps.length c) : safeC s c = decide (s.wh ≤ liftS s c) := by
  rw [Bool.eq_iff_iff, decide_eq_true_eq, lift_le hS.w2]
  have hk : ∀ (k : Nat) (j : Int), c[k]? = some j → (needN s k ≤ carryN s j.toNat ↔ s.wh ≤ holdsN (carryN s j.toNat) (shares s k).2) := fun k j hj => by
    have hkl := (List.getElem?_eq_some_iff.1 hj).1
    have hb := shares_bd hS (show k < s.ps.length by rw [← hc.1]; exact hkl)
    rw [holds_iff hb.1 hS.w2 (carry_nn hS _)]
    exact (need_iff _).symm
  exact ⟨fun h k j hj => (hk k j hj).1 (safe_at h hj), fun h => safe_of fun k j hj => (hk k j hj).2 (h k j hj)⟩
theorem safe_ret {s : Sea} {c : List Int} (hv : validS s = true) (hc : crewB s c = true) : safeRet s c = (safeN s c, 0) := by
  unfold safeRet; rw [hc, askS_true hv]; simp
end Go.Proofs.Ytmbcpmnigggbaaa.Li
