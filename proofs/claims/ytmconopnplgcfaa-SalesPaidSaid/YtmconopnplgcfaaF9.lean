import Derived.Test.YtmconopnplgcfaaF8
namespace Go.Proofs.Ytmconopnplgcfaa
open Go.RowKit

/-! IndexFunc and ContainsFunc of a buyer's bids; pays$2 100; the iterator sales 105. -/
def ownI (q : List Bid) (v : Int) (x : Int) : Bool := ownP q v x.toNat
theorem ownI_any (q : List Bid) (v : Int) (l : List Nat) : (intsN l).any (ownI q v) = l.any (ownP q v) := by
  unfold intsN
  rw [List.any_map]
  rfl
set_option maxRecDepth 100000 in
set_option maxHeartbeats 4000000 in
theorem index_own (F : FL) (f : Fair) (rd : List Int) (b g1 g2 : Nat) (v : Int) (hql : f.q.length ≤ 8) (A : Option Addr) (c : Nat) (l : List Nat) (hl : l.length ≤ 8) (hin : ∀ i ∈ l, i < f.q.length) (w : World) (hI : IntsAt w w.heap.size A (intsN l)) (hO : OpenAt w b F f rd) (h1 : w.cell? ⟨g1, 0, none⟩ = some (.pointer (some ⟨b, 0, none⟩))) (h2 : w.cell? ⟨g2, 0, none⟩ = some (.int .i64 v)) :
    Calls Try.prog 119 #[.slice A l.length c, .func (.func 99) #[] #[.pointer (some ⟨g1, 0, none⟩), .pointer (some ⟨g2, 0, none⟩)]] w fun e w' => e = .returned (.int .i64 (firstB (ownI f.q v) (intsN l) 0)) ∧ Below w.heap.size w w' := by
  have HI := Lib.hid hI
  have HO := Lib.hid hO
  have H1 := Lib.hid h1
  have H2 := Lib.hid h2
  have HIN := Lib.hid hin
  clear hI hO h1 h2 hin
  go_enter Try.func119, Try.ntmps119
  go_wp2_with (fail)
  go_loopw [5, 8] (fun _ i wr => ∃ k : Nat, k ≤ l.length ∧ i = .int .i64 k ∧ Hid (firstB (ownI f.q v) (intsN l) 0 = firstB (ownI f.q v) ((intsN l).drop k) k) ∧ Below w.heap.size w wr) (fun _ i _ => l.length - (intOf i).toNat)
  case atStart => exact ⟨0, Nat.zero_le _, rfl, Lib.hid (by rw [List.drop_zero]), Below.refl _ _⟩
  case round =>
    obtain ⟨k, hk, rfl, hF, hb⟩ := hrel
    by_cases hlt : k < l.length
    · obtain ⟨i, hi⟩ : ∃ i, l[k]? = some i := ⟨_, List.getElem?_eq_getElem hlt⟩
      have hiq := HIN.out i (List.mem_of_getElem? hi)
      obtain ⟨x, hx⟩ : ∃ x, f.q[i]? = some x := ⟨_, List.getElem?_eq_getElem hiq⟩
      have hi2 := intsN_at hi
      obtain ⟨b1, o1, rfl, b1lt, d1⟩ := HI.out.at_ hi2
      have d2 := below_cell hb d1
      have H99 := Lib.hid (own1_any F f rd b g1 g2 i v x hx hql wr (HO.out.below hb) (below_cell hb H1.out) (below_cell hb H2.out))
      have HX := Lib.hid hi2
      clear hi hx d1 hi2
      have hsz := hb.size
      cases hp : ownP f.q v i
      · rw [hp] at H99
        have HPX := Lib.hid (show ownI f.q v (i : Int) = false by unfold ownI; rw [Int.toNat_natCast]; exact hp)
        clear hp
        go_wp2_with (go_at_call 99; refine H99.out.mono ?_; rintro e W5 ⟨rfl, hb5⟩)
        go_roundw
        case rel => exact ⟨k + 1, by omega, by go_num, Lib.hid (by rw [hF.out]; exact firstB_no HX.out HPX.out), hb.trans (hb5.mono hsz)⟩
        case measure => simp [intOf]; omega
      · rw [hp] at H99
        have HPX := Lib.hid (show ownI f.q v (i : Int) = true by unfold ownI; rw [Int.toNat_natCast]; exact hp)
        clear hp
        go_wp2_with (go_at_call 99; refine H99.out.mono ?_; rintro e W5 ⟨rfl, hb5⟩)
        go_ret
        exact ⟨by rw [hF.out, firstB_yes HX.out HPX.out]; rfl, hb.trans (hb5.mono hsz)⟩
    · obtain rfl : k = l.length := by omega
      have HE := Lib.hid (show firstB (ownI f.q v) ((intsN l).drop l.length) l.length = -1 by rw [← intsN_len l]; exact firstB_end)
      go_wp2_with (fail)
      go_ret
      exact ⟨by rw [hF.out, HE.out]; rfl, hb⟩
theorem contains_own (F : FL) (f : Fair) (rd : List Int) (b g1 g2 : Nat) (v : Int) (hql : f.q.length ≤ 8) (A : Option Addr) (c : Nat) (l : List Nat) (hl : l.length ≤ 8) (hin : ∀ i ∈ l, i < f.q.length) (w : World) (hI : IntsAt w w.heap.size A (intsN l)) (hO : OpenAt w b F f rd) (h1 : w.cell? ⟨g1, 0, none⟩ = some (.pointer (some ⟨b, 0, none⟩))) (h2 : w.cell? ⟨g2, 0, none⟩ = some (.int .i64 v)) :
    Calls Try.prog 101 #[.slice A l.length c, .func (.func 99) #[] #[.pointer (some ⟨g1, 0, none⟩), .pointer (some ⟨g2, 0, none⟩)]] w fun e w' => e = .returned (.bool (l.any (ownP f.q v))) ∧ Below w.heap.size w w' := by
  rw [← ownI_any, ← firstB_any (ownI f.q v) (intsN l) 0]
  go_enter Try.func101, Try.ntmps101
  go_wp2_with (go_at_call 119; refine (index_own F f rd b g1 g2 v hql A c l hl hin _ hI hO h1 h2).mono ?_; rintro e w' ⟨rfl, hb⟩)
  go_ret
  exact ⟨rfl, hb⟩
set_option maxRecDepth 100000 in
set_option maxHeartbeats 4000000 in
theorem none2_any (F : FL) (f : Fair) (hf : FOK f) (rd : List Int) (b g1 g2 g3 : Nat) (v : Int) (m : Nat) (hm : m < 2 ^ f.q.length) (w : World) (hO : OpenAt w b F f rd) (h1 : w.cell? ⟨g1, 0, none⟩ = some (.pointer (some ⟨b, 0, none⟩))) (h2 : w.cell? ⟨g2, 0, none⟩ = some (.int .i64 v)) (h3 : w.cell? ⟨g3, 0, none⟩ = some (.func (.func 99) #[] #[.pointer (some ⟨g1, 0, none⟩), .pointer (some ⟨g2, 0, none⟩)])) :
    Calls Try.prog 100 #[.int .i64 (m : Int), .pointer (some ⟨g3, 0, none⟩)] w fun e w' => e = .returned (.bool (noneM f.q v m)) ∧ Below w.heap.size w w' := by
  have hm8 : m < 256 := Nat.lt_of_lt_of_le hm (pow_eight hf.ql)
  have hbe := bits_eight hf.ql hm
  have HO := Lib.hid hO
  have H1 := Lib.hid h1
  have H2 := Lib.hid h2
  have H3 := Lib.hid h3
  have hql := hf.ql
  have H69 := Lib.hid (fun W => list_any m hm8 W)
  have HIN := Lib.hid (show ∀ i ∈ bitsL 8 m, i < f.q.length from fun i hi => by rw [hbe] at hi; exact bits_lt hi)
  have HLL := Lib.hid (bits_len 8 m)
  have HQ := Lib.hid (show noneM f.q v m = !(bitsL 8 m).any (ownP f.q v) from rfl)
  obtain ⟨l, hl⟩ : ∃ l, bitsL 8 m = l := ⟨_, rfl⟩
  rw [hl] at H69 HIN HQ HLL
  clear hO h1 h2 hbe hl hf hm
  go_enter Try.func100, Try.ntmps100
  go_upto_region 1 with (fail)
  go_region_held3 (fun w' => w'.cell? ⟨g3, 0, none⟩ = some (.func (.func 99) #[] #[.pointer (some ⟨g1, 0, none⟩), .pointer (some ⟨g2, 0, none⟩)])) (first | go_keep)
    (first
      | (go_at_call 69; refine (H69.out _).mono ?_; rintro e w1 ⟨⟨v0, rfl, hv0⟩, hb1⟩; have hk1 : Below w.heap.size w w1 := (by first | exact hb1 | exact hb0to (drew_below w) hb1); have B1 := Lib.hid hk1; obtain ⟨A1, c1, rfl, _, _, hI1⟩ := hv0.lay; rw [intsN_len]; have HI1 := Lib.hid hI1.at_; have r3 := below_cell B1.out H3.out; clear hb1 hv0 hI1 hk1)
      | (go_at_call 101; refine (contains_own F f rd b g1 g2 v hql A1 c1 l HLL.out HIN.out w1 HI1.out (HO.out.below B1.out) (below_cell B1.out H1.out) (below_cell B1.out H2.out)).mono ?_; rintro e w2 ⟨rfl, hb2⟩; have B2 := Lib.hid (hb0to B1.out hb2); have r3 := below_cell B2.out H3.out; clear hb2))
  all_goals
    go_wp2_with (fail)
    go_ret
    exact ⟨by rw [HQ.out]; rfl, B2.out⟩

end Go.Proofs.Ytmconopnplgcfaa
