import Derived.Test.YtgjpllmmpclgaaaE2
import Derived.WalkMore
import Derived.Deep.LoopGhost
namespace Go.Proofs.Ytgjpllmmpclgaaa
open Go.RowKit

/-! Short in plain words: sets of places, and the first of those for which there are too few boats. -/
/-- The places below k that a set holds. -/
def placesTo (st k : Nat) : List Int := ((List.range k).filter fun i => st.testBit i).map fun i : Nat => (i : Int)
theorem placesTo_zero (st : Nat) : placesTo st 0 = [] := rfl
theorem placesTo_yes {st k : Nat} (h : st.testBit k = true) : placesTo st (k + 1) = placesTo st k ++ [(k : Int)] := by
  unfold placesTo; rw [List.range_succ, List.filter_append, List.map_append]; simp [h]
theorem placesTo_no {st k : Nat} (h : st.testBit k = false) : placesTo st (k + 1) = placesTo st k := by
  unfold placesTo; rw [List.range_succ, List.filter_append, List.map_append]; simp [h]
theorem placesTo_len (st k : Nat) : (placesTo st k).length ≤ k := by
  unfold placesTo
  rw [List.length_map]
  exact Nat.le_trans (List.length_filter_le _ _) (by simp)
theorem mem_placesTo {st k : Nat} {x : Int} : x ∈ placesTo st k ↔ ∃ i : Nat, x = i ∧ i < k ∧ st.testBit i = true := by
  unfold placesTo
  simp only [List.mem_map, List.mem_filter, List.mem_range]
  constructor
  · rintro ⟨i, ⟨h1, h2⟩, rfl⟩; exact ⟨i, rfl, h1, h2⟩
  · rintro ⟨i, rfl, h1, h2⟩; exact ⟨i, ⟨h1, h2⟩, rfl⟩
/-- Can a boat carry the need of some of the places? -/
def canB (s : Sea) (l : List Int) (z : Int × Int) : Bool := l.any fun i => decide (needN s i.toNat ≤ z.1)
/-- How many of the first k boats can. -/
def canTo (s : Sea) (l : List Int) (k : Nat) : Nat := ((s.bs.take k).filter (canB s l)).length
theorem canTo_zero (s : Sea) (l : List Int) : canTo s l 0 = 0 := rfl
theorem canTo_yes {s : Sea} {l : List Int} {k : Nat} {z : Int × Int} (hz : s.bs[k]? = some z) (h : canB s l z = true) : canTo s l (k + 1) = canTo s l k + 1 := by
  unfold canTo; rw [List.take_add_one, hz, List.filter_append, List.length_append]; simp [h]
theorem canTo_no {s : Sea} {l : List Int} {k : Nat} {z : Int × Int} (hz : s.bs[k]? = some z) (h : canB s l z = false) : canTo s l (k + 1) = canTo s l k := by
  unfold canTo; rw [List.take_add_one, hz, List.filter_append, List.length_append]; simp [h]
theorem canTo_le (s : Sea) (l : List Int) (k : Nat) : canTo s l k ≤ k := by
  unfold canTo
  exact Nat.le_trans (List.length_filter_le _ _) (by simp; omega)
/-- Is a list of places better than the best one? -/
def shortLess (p best : List Int) : Bool := decide (best = []) || (decide (p.length < best.length) || (decide (p.length = best.length) && decide (cmpI p best < 0)))
def shortB (s : Sea) (p best : List Int) : Bool := decide (canTo s p s.bs.length < p.length) && shortLess p best
def shortTo (s : Sea) : Nat → List Int
  | 0 => []
  | st + 1 => if shortB s (placesTo (st + 1) s.ps.length) (shortTo s st) then placesTo (st + 1) s.ps.length else shortTo s st
theorem shortTo_yes {s : Sea} {st : Nat} (h : shortB s (placesTo (st + 1) s.ps.length) (shortTo s st) = true) : shortTo s (st + 1) = placesTo (st + 1) s.ps.length := by
  show (if _ then _ else _) = _; rw [if_pos h]
theorem shortTo_no {s : Sea} {st : Nat} (h : shortB s (placesTo (st + 1) s.ps.length) (shortTo s st) = false) : shortTo s (st + 1) = shortTo s st := by
  show (if _ then _ else _) = _; rw [if_neg (by simp [h])]
theorem shortTo_len (s : Sea) : ∀ st, (shortTo s st).length ≤ s.ps.length
  | 0 => Nat.zero_le _
  | st + 1 => by
    cases h : shortB s (placesTo (st + 1) s.ps.length) (shortTo s st)
    · rw [shortTo_no h]; exact shortTo_len s st
    · rw [shortTo_yes h]; exact placesTo_len _ _
/-- What Short finds. -/
def shortS (s : Sea) : List Int := shortTo s (2 ^ s.ps.length - 1)
def shortOf (l : List Int) : List Int × Int := if l = [] then ([], 3) else (l, 0)
def shortRet (s : Sea) : List Int × Int := if askS s true ≠ 0 then ([], askS s true) else shortOf (shortS s)
/-- The best places so far, in memory from B on. -/
def BestAt (W : World) (B : Nat) (v : Value) (l : List Int) : Prop := (l = [] ∧ v = .slice none 0 0) ∨ (l ≠ [] ∧ ∃ A c, v = .slice (some A) l.length c ∧ IntsFrom W B (some A) l)
theorem BestAt.below {W W' : World} {B : Nat} {v : Value} {l : List Int} (h : BestAt W B v l) (hb : Below W.heap.size W W') : BestAt W' B v l := by
  rcases h with h | ⟨h1, A, c, h2, h3⟩
  · exact .inl h
  · exact .inr ⟨h1, A, c, h2, h3.below hb⟩
end Go.Proofs.Ytgjpllmmpclgaaa
namespace Go.Proofs.Ytgjpllmmpclgaaa
open Go.RowKit

/-! Short 18. -/
theorem bit_test : ∀ st, st < 15 → ∀ k, k < 4 → (bits BinOp.and IntKind.i64 ((((st : Nat) : Int) + 1) / 2 ^ k) 1 == 1) = (st + 1).testBit k := by decide +kernel
set_option maxRecDepth 100000 in
set_option maxHeartbeats 4000000 in
theorem Short_any (L : SL) (s : Sea) (w : World) (hH : SeaAt w w.heap.size L s) : Calls Try.prog 18 #[L.enc s] w fun e w' => ListRet w.heap.size w' e (shortRet s) ∧ Below w.heap.size w w' := by
  have hbw := al_below w (.cells #[.int .i64 s.wl, .int .i64 s.wh, .slice L.Ap s.ps.length L.cp, .slice L.Ab s.bs.length L.cb] 27)
  have HB := Lib.hid (SBox.new w L s)
  obtain ⟨c0, c1, c2, c3⟩ := (SBox.new w L s).cells
  obtain ⟨W0, hW0⟩ : ∃ W0, w.alloc (.cells #[.int .i64 s.wl, .int .i64 s.wh, .slice L.Ap s.ps.length L.cp, .slice L.Ab s.bs.length L.cb] 27) = W0 := ⟨_, rfl⟩
  rw [hW0] at hbw HB c0 c1 c2 c3
  have HBW := Lib.hid hbw
  have HW0 := Lib.hid hW0
  have HH := Lib.hid (hH.below hbw)
  by_cases h0 : askS s true = 0
  · have hq : shortRet s = shortOf (shortS s) := by unfold shortRet; rw [if_neg (by simp [h0])]
    rw [hq]
    have H1 := Lib.hid (fun W hW => open_yes L s true W hW h0)
    have hS := SOK.ofValid (askS_ok h0).1
    have HS := Lib.hid hS
    have hpl := hS.pl
    have hbl := hS.bl
    obtain ⟨M, hM⟩ : ∃ M : Nat, M = 2 ^ s.ps.length := ⟨_, rfl⟩
    have hM16 : 1 ≤ M ∧ M ≤ 16 := by
      rw [hM]
      have : ∀ n, n ≤ 4 → 1 ≤ 2 ^ n ∧ 2 ^ n ≤ 16 := by decide
      exact this _ hpl
    have hsh : wrap64 (2 ^ s.ps.length) = (M : Int) := by
      rw [hM]
      have : ∀ n : Nat, n ≤ 4 → wrap64 (2 ^ n) = (((2 ^ n : Nat)) : Int) := by decide +kernel
      exact this _ hpl
    have hSH : shortS s = shortTo s (M - 1) := by unfold shortS; rw [hM]
    rw [hSH]
    have HM := Lib.hid hM
    clear hbw hW0 hH h0 hq hS hM hSH
    obtain ⟨Ap, cp, Ab, cb⟩ := L
    go_enter Try.func18, Try.ntmps18
    go_upto_region 1 with (fail)
    have e := HW0.out
    rw [e]
    clear e
    go_wp2_with (go_at_call 72; refine (H1.out W0 HH.out).mono ?_; rintro e w1 ⟨⟨b, rfl, hbb, hWB⟩, hb1⟩; have B1 := Lib.hid hb1; have WB := Lib.hid hWB; have HBB := Lib.hid hbb; clear hb1 hWB hbb)
    have B1' := Lib.hid B1.out
    clear c0 c1 c2 c3
    go_loopg [6, 7] (M - 1) (fun g1 v i wr => ∃ st : Nat, st + 1 + g1 = M ∧ i = .int .i64 ((st + 1 : Nat) : Int) ∧ Hid (BestAt wr W0.heap.size v (shortTo s st)) ∧ Hid (Below w1.heap.size w1 wr))
    case atStart => exact ⟨0, by omega, rfl, Lib.hid (.inl ⟨rfl, rfl⟩), Lib.hid (Below.refl _ _)⟩
    case round =>
      obtain ⟨g1, rfl⟩ : ∃ g : Nat, g = gk := ⟨_, rfl⟩
      obtain ⟨wo, rfl⟩ : ∃ x : World, x = wr := ⟨_, rfl⟩
      obtain ⟨st, hst, rfl, hB, hb⟩ := hrel
      have HB0 := Lib.hid (hb0to B1.out hb.out)
      obtain ⟨c0, c1, c2, c3⟩ := (HB.out.of (HB0.out.block _ HB.out.lt)).cells
      by_cases hlt : st + 1 < M
      · have hlt' : (st : Int) + 1 < (M : Int) := by omega
        go_wp2_with (fail)
        go_step3
        go_wp2_with (fail)
        go_loopg [8, 34] s.ps.length (fun g2 v i wa => ∃ k : Nat, k + g2 = s.ps.length ∧ i = .int .i64 k ∧ Hid (Ints wa wo.heap.size v (placesTo (st + 1) k)) ∧ Hid (Below wo.heap.size wo wa))
        case atStart => exact ⟨0, by omega, rfl, Lib.hid (ints_nil _ _), Lib.hid (Below.refl _ _)⟩
        case round =>
          obtain ⟨g2, rfl⟩ : ∃ g : Nat, g = gk := ⟨_, rfl⟩
          obtain ⟨k, hk, rfl, hP, hb2⟩ := hrel
          by_cases hlt2 : k < s.ps.length
          · have HPA := Lib.hid (hP.out.alloc (.cells #[.int .i64 k] 3))
            have hkc : (wr.alloc (.cells #[.int .i64 k] 3)).cell? ⟨wr.heap.size, 0, none⟩ = some (.int .i64 k) := by simp [go_sem]
            have HKC := Lib.hid hkc
            have hl4 := placesTo_len (st + 1) k
            have hl5 : (placesTo (st + 1) k).length ≤ 1000 := by omega
            have hb3 := hb0to hb2.out (al_below wr (.cells #[.int .i64 k] 3))
            have HB3 := Lib.hid hb3
            clear hkc hb3
            have hst15 : st < 15 := by omega
            have hk4 : k < 4 := by omega
            cases hb : (st + 1).testBit k
            · have hbt : (bits BinOp.and IntKind.i64 (((st : Int) + 1) / 2 ^ k) 1 == 1) = false := (bit_test st hst15 k hk4).trans hb
              have HPN := Lib.hid (placesTo_no hb)
              clear hb
              as_aux_lemma =>
              go_wp2_with (fail)
              go_roundg (g2 - 1)
              case rel => exact ⟨k + 1, by omega, by go_num, Lib.hid (by rw [HPN.out]; exact hP.out), hb2⟩
              case measure => omega
            · have hbt : (bits BinOp.and IntKind.i64 (((st : Int) + 1) / 2 ^ k) 1 == 1) = true := (bit_test st hst15 k hk4).trans hb
              have HPN := Lib.hid (placesTo_yes hb)
              clear hb
              as_aux_lemma =>
              go_wp2_with (refine wpl_app (by rfl) _ _ (by rfl) wo.heap.size wo.heap.size _ (placesTo (st + 1) k) k (by rfl) HPA.out ⟨wr.heap.size, 0, none⟩ 1 (by rfl) HKC.out hl5 HB3.out.size (Nat.le_refl _) ?_; intro v' w' h1 h2; have HV := Lib.hid h1; have HW := Lib.hid h2; clear h1 h2)
              go_roundg (g2 - 1)
              case rel => exact ⟨k + 1, by omega, by go_num, Lib.hid (by rw [HPN.out]; exact HV.out), Lib.hid (HB3.out.trans HW.out)⟩
              case measure => omega
          · obtain rfl : k = s.ps.length := by omega
            obtain ⟨wp, rfl⟩ : ∃ x : World, x = wr := ⟨_, rfl⟩
            have HL8 := Lib.hid (placesTo_len (st + 1) s.ps.length)
            have HMP := Lib.hid (fun (x : Int) (hx : x ∈ placesTo (st + 1) s.ps.length) => mem_placesTo.1 hx)
            have HSY := Lib.hid (fun h => shortTo_yes (s := s) (st := st) h)
            have HSN := Lib.hid (fun h => shortTo_no (s := s) (st := st) h)
            obtain ⟨P, hP2⟩ : ∃ P, placesTo (st + 1) s.ps.length = P := ⟨_, rfl⟩
            rw [hP2] at hP HL8 HMP HSY HSN
            clear hP2
            obtain ⟨A8, c8, rfl, -, -, hI8⟩ := hP.out.lay
            have HI8 := Lib.hid hI8
            have hPl : P.length ≤ 4 := by have := HL8.out; omega
            clear hI8 hP HL8
            have HB5 := Lib.hid (hb0to hb.out hb2.out)
            obtain ⟨e0, e1, e2, e3⟩ := (HB.out.of ((hb0to B1.out HB5.out).block _ HB.out.lt)).cells
            as_aux_lemma =>
            go_wp2_with (fail)
            go_step3
            go_wp2_with (fail)
            go_loopg [10, 50] s.bs.length (fun g3 x i wx => ∃ k : Nat, k + g3 = s.bs.length ∧ i = .int .i64 k ∧ x = .int .i64 (canTo s P k) ∧ Hid (Below wp.heap.size wp wx))
            case atStart => exact ⟨0, by omega, rfl, rfl, Lib.hid (Below.refl _ _)⟩
            case round =>
              obtain ⟨g3, rfl⟩ : ∃ g : Nat, g = gk := ⟨_, rfl⟩
              obtain ⟨wb, rfl⟩ : ∃ x : World, x = wr := ⟨_, rfl⟩
              obtain ⟨kb, hkb, rfl, rfl, hb3⟩ := hrel
              have hcle := canTo_le s P kb
              have HB6 := Lib.hid (hb0to HB5.out hb3.out)
              by_cases hlt3 : kb < s.bs.length
              · clear e0 e1 e2 e3
                obtain ⟨z, hz, z0, z1, _, _⟩ := boat_at HS.out hlt3
                obtain ⟨bb, ob, eB, blt2, d2, d3⟩ := HH.out.b.at_ hz
                simp only at eB
                have f2 := (hb0to B1.out HB6.out).cell (p := ⟨bb, ob + kb * 2, none⟩) blt2 |>.trans d2
                have f3 := (hb0to B1.out HB6.out).cell (p := ⟨bb, ob + kb * 2 + 1, none⟩) blt2 |>.trans d3
                have HCY := Lib.hid (fun h => canTo_yes (l := P) hz h)
                have HCN := Lib.hid (fun h => canTo_no (l := P) hz h)
                clear hz d2 d3
                obtain ⟨cy, pn⟩ := z
                simp only at f2 f3 z0 z1
                subst eB
                have hwx : IntKind.i64.wrap ((canTo s P kb : Int) + 1) = (canTo s P kb : Int) + 1 := IntWalk.i64_in _ (by omega)
                as_aux_lemma =>
                go_wp2_with (fail)
                have HB7 := Lib.hid (hb0to hb3.out (al_below wb (.cells #[.int .i64 cy, .int .i64 pn] 55)))
                have f0 : (wb.alloc (.cells #[.int .i64 cy, .int .i64 pn] 55)).cell? ⟨wb.heap.size, 0, none⟩ = some (.int .i64 cy) := by simp [go_sem]
                have F0 := Lib.hid f0
                clear f0
                go_loopg [10, 56] P.length (fun g4 x i wx => ∃ k : Nat, k + g4 = P.length ∧ i = .int .i64 k ∧ x = .int .i64 (canTo s P kb) ∧ Hid ((P.take k).all (fun i => !decide (needN s i.toNat ≤ cy)) = true) ∧ Hid (Below (wb.alloc (.cells #[.int .i64 cy, .int .i64 pn] 55)).heap.size (wb.alloc (.cells #[.int .i64 cy, .int .i64 pn] 55)) wx))
                case atStart => exact ⟨0, by omega, rfl, rfl, Lib.hid rfl, Lib.hid (Below.refl _ _)⟩
                case round =>
                  obtain ⟨g4, rfl⟩ : ∃ g : Nat, g = gk := ⟨_, rfl⟩
                  obtain ⟨m, hm, rfl, rfl, hA, hb4⟩ := hrel
                  have HB8 := Lib.hid (hb0to HB7.out hb4.out)
                  by_cases hlt4 : m < P.length
                  · obtain ⟨x, hx⟩ : ∃ x, P[m]? = some x := ⟨_, List.getElem?_eq_getElem hlt4⟩
                    obtain ⟨j, rfl, hj, _⟩ := HMP.out x (List.mem_of_getElem? hx)
                    obtain ⟨bp, op, eP, blt3, d4⟩ := HI8.out.at_.at_ hx
                    have f4 := HB8.out.cell (p := ⟨bp, op + m, none⟩) blt3 |>.trans d4
                    have ex5 := extB_cell (below_cell hb4.out F0.out)
                    have H73 := Lib.hid (fun z => need_any _ s HS.out b j hj (extB wr z) (WB.out.of ((hb0to (hb0to HB5.out HB8.out) (extB_below wr z)).block _ WB.out.lt)))
                    have HX := Lib.hid hx
                    clear d4 hx
                    subst eP
                    generalize hnv : needN s j = nv at H73
                    by_cases hle : nv ≤ cy
                    · have hdl : decide (nv ≤ cy) = true := decide_eq_true hle
                      have HC := Lib.hid (HCY.out (show canB s P (cy, pn) = true from List.any_eq_true.2 ⟨_, List.mem_of_getElem? HX.out, by simpa [hnv] using hle⟩))
                      clear hnv hle
                      as_aux_lemma =>
                      go_upto_region 22 with (fail)
                      refine wp_region_ext (by kernel_rfl) (by kernel_rfl) ?_
                      repeat (go_big_quiet_step ((go_at_call 73; exact ext_call (H73.out _))))
                      refine wpQuiet_nil ?_
                      rintro _ ⟨y1, rfl⟩
                      go_wp2_with (fail)
                      go_roundg (g3 - 1)
                      case rel => exact ⟨kb + 1, by omega, by go_num, by rw [HC.out]; rfl, Lib.hid (hb0to HB8.out (extB_below wr y1))⟩
                      case measure => omega
                    · have hdl : decide (nv ≤ cy) = false := decide_eq_false hle
                      have HAN := Lib.hid (show ((P.take (m + 1)).all (fun i => !decide (needN s i.toNat ≤ cy))) = true by
                        rw [List.take_add_one, HX.out, List.all_append, hA.out]; simp [hnv]; omega)
                      clear hnv hle
                      as_aux_lemma =>
                      go_upto_region 22 with (fail)
                      refine wp_region_ext (by kernel_rfl) (by kernel_rfl) ?_
                      repeat (go_big_quiet_step ((go_at_call 73; exact ext_call (H73.out _))))
                      refine wpQuiet_nil ?_
                      rintro _ ⟨y1, rfl⟩
                      go_wp2_with (fail)
                      go_roundg (g4 - 1)
                      case rel => exact ⟨m + 1, by omega, by go_num, rfl, HAN, Lib.hid (hb0to hb4.out (extB_below wr y1))⟩
                      case measure => omega
                  · obtain rfl : m = P.length := by omega
                    have HC := Lib.hid (HCN.out (show canB s P (cy, pn) = false by
                      have := hA.out
                      rw [List.take_length, List.all_eq_true] at this
                      unfold canB
                      rw [List.any_eq_false]
                      intro x hx
                      have := this x hx
                      simpa using this))
                    as_aux_lemma =>
                    go_wp2_with (fail)
                    go_roundg (g3 - 1)
                    case rel => exact ⟨kb + 1, by omega, by go_num, by rw [HC.out], HB8⟩
                    case measure => omega
              · obtain rfl : kb = s.bs.length := by omega
                have HB9 := Lib.hid (hb0to hb2.out hb3.out)
                have HBE := Lib.hid (hB.out.below HB9.out)
                have HLB := Lib.hid (shortTo_len s st)
                obtain ⟨best, hbest⟩ : ∃ best, shortTo s st = best := ⟨_, rfl⟩
                rw [hbest] at HSY HSN HBE HLB
                have HPF := Lib.hid (show P ≠ [] → IntsFrom wb W0.heap.size A8 P by
                  intro hne
                  rcases HI8.out with h | ⟨b5, o5, e5, h5, h6, h7⟩
                  · exact absurd h hne
                  · exact .inr ⟨b5, o5, e5, Nat.le_trans (Nat.le_trans B1.out.size hb.out.size) h5, Nat.lt_of_lt_of_le h6 hb3.out.size, fun i x hx => (hb3.out.cell (p := ⟨b5, o5 + i, none⟩) h6).trans (h7 i x hx)⟩)
                have hbl4 : best.length ≤ 4 := by have := HLB.out; omega
                have HBEST := Lib.hid hbest
                obtain ⟨cn, hcn⟩ : ∃ n, canTo s P s.bs.length = n := ⟨_, rfl⟩
                have HSB := Lib.hid (show shortB s P best = (decide (cn < P.length) && shortLess P best) by unfold shortB; rw [hcn])
                rw [hcn]
                clear hbest hcn hcle hlt3
                by_cases hcan : cn < P.length
                · have hdc : decide (cn < P.length) = true := decide_eq_true hcan
                  have hPne : P ≠ [] := by intro h; rw [h] at hcan; simp at hcan
                  obtain ⟨A9, hA9⟩ : ∃ A9, A8 = some A9 := by
                    rcases HPF.out hPne with ⟨_, h⟩ | ⟨b5, o5, e5, _⟩
                    · exact absurd h hPne
                    · exact ⟨_, e5⟩
                  subst hA9
                  have HPI := Lib.hid (HPF.out hPne)
                  have HPN := Lib.hid hPne
                  clear hPne HPF
                  rcases HBE.out with ⟨hbe, rfl⟩ | ⟨hbe, A7, c7, rfl, hA7⟩
                  · subst hbe
                    have hq0 := fun w : World => Lib.run_eql_slice_nil w 28 3 none 0 0 0 0 Try.underlying28
                    have HQ := Lib.hid (HSY.out (by rw [HSB.out, hdc]; rfl))
                    clear hcan HBE
                    as_aux_lemma =>
                    go_wp2_with (fail)
                    try (rw [Exit.noGoto_normal]; go_wp2_with (fail))
                    go_roundg (g1 - 1)
                    case rel => exact ⟨st + 1, by omega, by go_num, Lib.hid (by rw [HQ.out]; exact .inr ⟨HPN.out, A9, c8, rfl, HPI.out⟩), HB6⟩
                    case measure => omega
                  · have hq0 := fun w : World => Lib.run_eql_slice_nil w 28 3 (some A7) best.length c7 0 0 Try.underlying28
                    have HBN := Lib.hid hbe
                    have HA7 := Lib.hid hA7
                    clear hbe hA7 HBE hcan
                    rcases Nat.lt_trichotomy P.length best.length with hl | hl | hl
                    · have hd1 : decide (P.length < best.length) = true := decide_eq_true hl
                      have HQ := Lib.hid (HSY.out (by rw [HSB.out, hdc]; unfold shortLess; rw [hd1]; simp))
                      as_aux_lemma =>
                      go_wp2_with (fail)
                      try (rw [Exit.noGoto_normal]; go_wp2_with (fail))
                      go_roundg (g1 - 1)
                      case rel => exact ⟨st + 1, by omega, by go_num, Lib.hid (by rw [HQ.out]; exact .inr ⟨HPN.out, A9, c8, rfl, HPI.out⟩), HB6⟩
                      case measure => omega
                    · have hd1 : decide (P.length < best.length) = false := decide_eq_false (by omega)
                      have hd2 : ((P.length : Int) == (best.length : Int)) = true := by simp [hl]
                      have H74 := Lib.hid (compare_any P best (some A9) (some A7) c8 c7 (by omega) (by omega) wb HPI.out.ints HA7.out.ints)
                      have HSB2 := Lib.hid (show shortB s P best = decide (cmpI P best < 0) by
                        rw [HSB.out, hdc]; unfold shortLess; rw [hd1, decide_eq_false HBN.out, decide_eq_true hl]; simp)
                      generalize cmpI P best = r at H74 HSB2
                      clear hl
                      by_cases hr : r < 0
                      · have hd3 : decide (r < 0) = true := decide_eq_true hr
                        have HQ := Lib.hid (HSY.out (by rw [HSB2.out, hd3]))
                        as_aux_lemma =>
                        go_wp2_with (go_at_call 74; refine H74.out.mono ?_; rintro e w' ⟨rfl, rfl⟩)
                        try (rw [Exit.noGoto_normal]; go_wp2_with (fail))
                        go_roundg (g1 - 1)
                        case rel => exact ⟨st + 1, by omega, by go_num, Lib.hid (by rw [HQ.out]; exact .inr ⟨HPN.out, A9, c8, rfl, HPI.out⟩), HB6⟩
                        case measure => omega
                      · have hd3 : decide (r < 0) = false := decide_eq_false hr
                        have HQ := Lib.hid (HSN.out (by rw [HSB2.out, hd3]))
                        as_aux_lemma =>
                        go_wp2_with (go_at_call 74; refine H74.out.mono ?_; rintro e w' ⟨rfl, rfl⟩)
                        try (rw [Exit.noGoto_normal]; go_wp2_with (fail))
                        go_roundg (g1 - 1)
                        case rel => exact ⟨st + 1, by omega, by go_num, Lib.hid (by rw [HQ.out]; exact .inr ⟨HBN.out, A7, c7, rfl, HA7.out⟩), HB6⟩
                        case measure => omega
                    · have hd1 : decide (P.length < best.length) = false := decide_eq_false (by omega)
                      have hd2 : ((P.length : Int) == (best.length : Int)) = false := beq_eq_false_iff_ne.2 (by omega)
                      have HQ := Lib.hid (HSN.out (by rw [HSB.out, hdc]; unfold shortLess; rw [hd1, decide_eq_false HBN.out, decide_eq_false (show ¬ P.length = best.length by omega)]; simp))
                      as_aux_lemma =>
                      go_wp2_with (fail)
                      try (rw [Exit.noGoto_normal]; go_wp2_with (fail))
                      go_roundg (g1 - 1)
                      case rel => exact ⟨st + 1, by omega, by go_num, Lib.hid (by rw [HQ.out]; exact .inr ⟨HBN.out, A7, c7, rfl, HA7.out⟩), HB6⟩
                      case measure => omega
                · have hdc : decide (cn < P.length) = false := decide_eq_false hcan
                  have HQ := Lib.hid (HSN.out (by rw [HSB.out, hdc]; rfl))
                  as_aux_lemma =>
                  go_wp2_with (fail)
                  try (rw [Exit.noGoto_normal]; go_wp2_with (fail))
                  go_roundg (g1 - 1)
                  case rel => exact ⟨st + 1, by omega, by go_num, Lib.hid (by rw [HQ.out]; exact HBE.out), HB6⟩
                  case measure => omega
      · obtain rfl : M = st + 1 := by omega
        have HBE := Lib.hid hB.out
        obtain ⟨best, hbest⟩ : ∃ best, shortTo s st = best := ⟨_, rfl⟩
        rw [hbest] at HBE
        have HBEST := Lib.hid hbest
        clear hbest hB hlt
        rcases HBE.out with ⟨hbe, rfl⟩ | ⟨hbe, A7, c7, rfl, hA7⟩
        · subst hbe
          have hq0 := fun w : World => Lib.run_eql_slice_nil w 28 3 none 0 0 0 0 Try.underlying28
          clear HBE
          as_aux_lemma =>
          go_wp2_with (fail)
          go_ret2
          exact ⟨by show ListRet _ _ _ (shortOf (shortTo s st)); rw [HBEST.out]; exact listRet_nil, hb0to HBW.out HB0.out⟩
        · have hq0 := fun w : World => Lib.run_eql_slice_nil w 28 3 (some A7) best.length c7 0 0 Try.underlying28
          have HBN := Lib.hid hbe
          have HA7 := Lib.hid hA7
          clear hbe hA7 HBE
          as_aux_lemma =>
          go_wp2_with (fail)
          go_ret2
          exact ⟨by show ListRet _ _ _ (shortOf (shortTo s st)); rw [HBEST.out]; unfold shortOf; rw [if_neg HBN.out]; exact ⟨_, _, rfl, HA7.out.mono HBW.out.size⟩, hb0to HBW.out HB0.out⟩
  · have HQ := Lib.hid (show shortRet s = ([], askS s true) by unfold shortRet; rw [if_pos h0])
    have H1 := Lib.hid (fun W hW => open_no L s true W hW h0)
    obtain ⟨er, her⟩ : ∃ x, x = askS s true := ⟨_, rfl⟩
    rw [← her] at H1 HQ h0
    have hd : (er != 0) = true := bne_iff_ne.2 h0
    clear hbw hW0 hH h0 her
    obtain ⟨Ap, cp, Ab, cb⟩ := L
    go_enter Try.func18, Try.ntmps18
    go_upto_region 1 with (fail)
    have e := HW0.out
    rw [e]
    clear e
    go_wp2_with (go_at_call 72; refine (H1.out W0 HH.out).mono ?_; rintro e w1 ⟨rfl, hb1⟩; have B1 := Lib.hid hb1; clear hb1)
    go_ret2
    exact ⟨by rw [HQ.out]; exact listRet_nil, hb0to HBW.out B1.out⟩
end Go.Proofs.Ytgjpllmmpclgaaa
