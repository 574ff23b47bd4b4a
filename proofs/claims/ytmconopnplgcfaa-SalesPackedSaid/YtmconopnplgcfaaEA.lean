import Derived.Test.YtmconopnplgcfaaPN
namespace Go.Proofs.Ytmconopnplgcfaa
open Go.RowKit

/-! Earlier 58; a sale as a list of numbers. -/
/-- One list is less than another of as many numbers. -/
def earlierB : List Int → List Int → Bool
  | x :: a, y :: b => if x = y then earlierB a b else decide (x < y)
  | _, _ => false
theorem earlier_pre : ∀ (f : List Int) {a b : List Int}, earlierB (f ++ a) (f ++ b) = earlierB a b
  | [], _, _ => rfl
  | x :: f, a, b => by simp only [List.cons_append, earlierB, if_true]; exact earlier_pre f
theorem earlier_split {a b : List Int} {k : Nat} (h : a.take k = b.take k) : earlierB a b = earlierB (a.drop k) (b.drop k) := by
  have e := earlier_pre (a.take k) (a := a.drop k) (b := b.drop k)
  rw [List.take_append_drop, h, List.take_append_drop] at e
  exact e
set_option maxRecDepth 100000 in
set_option maxHeartbeats 4000000 in
theorem rEarlier_any (a b : List Int) (A B : Option Addr) (ca cb : Nat) (ha : a.length ≤ 1000) (_ : b.length ≤ 1000) (w : World) (hI : IntsAt w w.heap.size A a) (hJ : IntsAt w w.heap.size B b) :
    Calls Try.prog 58 #[.slice A a.length ca, .slice B b.length cb] w fun e w' => e = .returned (.bool (earlierB a b)) ∧ Below w.heap.size w w' := by
  have HI := Lib.hid hI
  have HJ := Lib.hid hJ
  clear hI hJ
  go_enter Try.func58, Try.ntmps58
  go_wp2_with (fail)
  go_loopw [5] (fun i wr => ∃ k : Nat, k ≤ a.length ∧ i = .int .i64 k ∧ k ≤ b.length ∧ Hid (a.take k = b.take k) ∧ Hid (Below w.heap.size w wr)) (fun i _ => a.length - (intOf i).toNat)
  case atStart => exact ⟨0, Nat.zero_le _, rfl, Nat.zero_le _, Lib.hid rfl, Lib.hid (Below.refl _ _)⟩
  case round =>
    obtain ⟨k, hk, rfl, hkb, hT, hbl⟩ := hrel
    by_cases hlt : k < a.length
    · by_cases hlb : k < b.length
      · obtain ⟨x, hx⟩ : ∃ x, a[k]? = some x := ⟨_, List.getElem?_eq_getElem hlt⟩
        obtain ⟨y, hy⟩ : ∃ y, b[k]? = some y := ⟨_, List.getElem?_eq_getElem hlb⟩
        obtain ⟨bi, oi, eA, blt, d1⟩ := HI.out.at_ hx
        obtain ⟨bj, oj, eB, blt2, d2⟩ := HJ.out.at_ hy
        have e1 := extB_cell (below_cell hbl.out d1)
        have e2 := extB_cell (below_cell hbl.out d2)
        have HX := Lib.hid hx
        have HY := Lib.hid hy
        subst eA eB
        clear hx hy d1 d2
        have hd1 : decide (k < a.length) = true := decide_eq_true hlt
        have hd2 : decide (k < b.length) = true := decide_eq_true hlb
        by_cases hxy : x = y
        · have HT2 := Lib.hid (show a.take (k + 1) = b.take (k + 1) by rw [List.take_add_one, List.take_add_one, HX.out, HY.out, hT.out, hxy])
          have hn : (x != y) = false := by simpa using hxy
          clear hxy
          as_aux_lemma =>
          go_wp2_with (fail)
          refine wp_region_extW (by kernel_rfl) (by kernel_rfl) ?_
          repeat (go_big_quiet_step (fail))
          refine wpQuiet_nil ?_
          rintro _ ⟨x1, rfl⟩
          have hb3 := hb0to hbl.out (extB_below wr x1)
          go_wp2_with (fail)
          go_roundw
          case rel => exact ⟨k + 1, by omega, by go_num, by omega, HT2, Lib.hid hb3⟩
          case measure => simp [intOf]; omega
        · have HQ := Lib.hid (show earlierB a b = decide (x < y) by
            rw [earlier_split hT.out]
            obtain ⟨h1, e1⟩ := List.getElem?_eq_some_iff.1 HX.out
            obtain ⟨h2, e2⟩ := List.getElem?_eq_some_iff.1 HY.out
            rw [List.drop_eq_getElem_cons h1, List.drop_eq_getElem_cons h2, e1, e2, earlierB, if_neg hxy])
          have hn : (x != y) = true := by simpa using hxy
          clear hxy
          as_aux_lemma =>
          go_wp2_with (fail)
          refine wp_region_extW (by kernel_rfl) (by kernel_rfl) ?_
          repeat (go_big_quiet_step (fail))
          refine wpQuiet_nil ?_
          rintro _ ⟨x1, rfl⟩
          have hb3 := hb0to hbl.out (extB_below wr x1)
          have f1 := extB_cell (e1 x1)
          have f2 := extB_cell (e2 x1)
          clear e1 e2
          go_wp2_with (fail)
          refine wp_region_extW (by kernel_rfl) (by kernel_rfl) ?_
          repeat (go_big_quiet_step (fail))
          refine wpQuiet_nil ?_
          rintro _ ⟨x2, rfl⟩
          have hb4 := hb0to hb3 (extB_below _ x2)
          go_wp2_with (fail)
          go_ret
          exact ⟨by rw [HQ.out]; rfl, hb4⟩
      · obtain rfl : k = b.length := by omega
        have hd1 : decide (b.length < a.length) = true := decide_eq_true hlt
        have HQ := Lib.hid (show earlierB a b = false by
          rw [earlier_split hT.out, List.drop_length]
          cases a.drop b.length <;> rfl)
        as_aux_lemma =>
        go_wp2_with (fail)
        go_ret
        exact ⟨by rw [HQ.out]; rfl, hbl.out⟩
    · obtain rfl : k = a.length := by omega
      have HQ := Lib.hid (show earlierB a b = false by
        rw [earlier_split hT.out, List.drop_length]
        rfl)
      as_aux_lemma =>
      go_wp2_with (fail)
      go_ret
      exact ⟨by rw [HQ.out]; rfl, hbl.out⟩
theorem earlier_n : ∀ a b : List Nat, earlierB (intsN a) (intsN b) = earlierN a b
  | [], [] => rfl
  | [], _ :: _ => rfl
  | _ :: _, [] => rfl
  | x :: a, y :: b => by
    have ih := earlier_n a b
    show earlierB ((x : Int) :: intsN a) ((y : Int) :: intsN b) = _
    unfold earlierB earlierN
    by_cases h : x = y
    · subst h; rw [if_pos rfl, if_pos rfl]; exact ih
    · rw [if_neg (by omega), if_neg h]
      exact decide_eq_decide.2 (by omega)
theorem sale_nat {q : List Bid} {rd : List Int} {l : List Int} (h : isSaleB q rd l = true) : ∃ sl : List Nat, l = intsN sl ∧ SaleL q rd sl := by
  unfold isSaleB at h
  rw [Bool.and_eq_true] at h
  refine ⟨l.map Int.toNat, ?_, saleB_iff.1 h.2⟩
  have h0 := riseB_in h.1
  unfold intsN
  rw [List.map_map]
  refine ((List.map_congr_left (g := id) fun x hx => ?_).trans (List.map_id l)).symm
  have := h0 x hx
  show ((x.toNat : Nat) : Int) = x
  omega
theorem goodV_eq (f : Fair) (l : List Int) : goodV f l = isSaleB f.q (rdF f) l := rfl
theorem good_yes {f : Fair} (hv : validF f = true) {l : List Int} (h : isSaleB f.q (rdF f) l = true) : goodRetF f l = (true, 0) := by
  unfold goodRetF
  rw [goodV_eq, h]
  exact boolRF_ok (ask_valid hv)
/-- What is plain of SalesEach. -/
theorem each_own {f : Fair} (hf : FOK f) {sl : List Nat} (hs : SaleL f.q (rdF f) sl) : bringsL f.q sl < mW f ∨ (bringsL f.q sl = mW f ∧ ((wL f).length < sl.length ∨ (sl.length = (wL f).length ∧ earlierN sl (wL f) = false))) := by
  have hw := wL_win hf
  have hm : mW f = bringsL f.q (wL f) := mostV_win hf.ql hf.pos'
  have h1 := hw.ge sl hs
  by_cases h : bringsL f.q sl = mW f
  · refine .inr ⟨h, ?_⟩
    have h2 := hw.first sl hs (by omega)
    unfold aheadP at h2
    by_cases hl : (wL f).length < sl.length
    · exact .inl hl
    · refine .inr ⟨?_, ?_⟩
      · by_cases hl2 : sl.length < (wL f).length
        · exact absurd (.inl hl2) h2
        · omega
      · have hl3 : sl.length = (wL f).length := by
          by_cases hl2 : sl.length < (wL f).length
          · exact absurd (.inl hl2) h2
          · omega
        cases he : earlierN sl (wL f)
        · rfl
        · exact absurd (.inr ⟨hl3, he⟩) h2
  · exact .inl (by omega)
theorem each_won {f : Fair} (hf : FOK f) {i : Nat} (hi : i < f.q.length) {sl : List Nat} (hs : SaleL f.q (rdF f) sl) (hb : bringsL f.q sl = mW f) :
    (wonN (withV f.q (rdF f) i) (outV f.q (rdF f) i) = 1 → i ∈ sl) ∧ (wonN (withV f.q (rdF f) i) (outV f.q (rdF f) i) = 2 → ¬ i ∈ sl) :=
  won_sure (withV_is hf.ql hf.pos' hi) (outV_is hf.ql hf.pos' hi) (mostV_is hf.ql hf.pos') hs hb
theorem mem_intsN {l : List Nat} {i : Nat} : (i : Int) ∈ intsN l ↔ i ∈ l := by
  unfold intsN
  rw [List.mem_map]
  exact ⟨fun ⟨j, h1, h2⟩ => by have : j = i := by omega
                               subst this; exact h1, fun h => ⟨i, h, rfl⟩⟩

end Go.Proofs.Ytmconopnplgcfaa
