import Derived.Test.YtmbcpmnigggbaabGreatCE
import Derived.Test.YtmbcpmnigggbaabGreatC3
import Derived.Test.YtmbcpmnigggbaabGreatSG
namespace Go.Proofs.YtmbcpmnigggbaabGreat.Cu
open Go.RowKit
attribute [local go_sem] Oper.semAt_some
theorem ints_lt7 {W W' : World} {A : Option Addr} {l : List Int} (h : IntsAt W W.heap.size A l) (hb : Below W.heap.size W W') : IntsAt W' W'.heap.size A l := h.keep hb.size fun _ _ hlt => hb.cell (p := ⟨_, _, none⟩) hlt
set_option maxRecDepth 100000 in
set_option maxHeartbeats 4000000 in
theorem canCut7_any (A : Option Addr) (c : Nat) (t : List CP) (hl : t.length ≤ 1000) (i : Nat) (w : World) (hT : TableAt w w.heap.size A t) :
    Calls Tryz.prog 20 #[.slice A t.length c, .int .i64 i] w fun e w' => e = .returned (.bool (canCut t i)) ∧ w = w' := by
  have HT := Lib.hid hT
  clear hT
  go_enter Tryz.func20, Tryz.ntmps20
  go_wp2
  go_loopw [5] (fun iv wr => ∃ k : Nat, k ≤ t.length ∧ iv = .int .i64 k ∧ Hid (∀ x ∈ t.take k, decide (x.of = (i : Int)) = false) ∧ w = wr) (fun iv _ => t.length - (intOf iv).toNat)
  case atStart => exact ⟨0, Nat.zero_le _, rfl, Lib.hid (fun j hj => by simp at hj), rfl⟩
  case round =>
    obtain ⟨k, hk, rfl, HK, rfl⟩ := hrel
    by_cases hlt : k < t.length
    · obtain ⟨p, hp⟩ : ∃ p, t[k]? = some p := ⟨_, List.getElem?_eq_getElem hlt⟩
      have HP := Lib.hid hp
      obtain ⟨b, off, rfl, hbb, d1, d2, d3, d4, d5, d6⟩ := HT.out.at_ hp
      obtain ⟨of, wl, wh, sl, sh, pe⟩ := p
      simp only at d1
      clear hp d2 d3 d4 d5 d6
      have HTK := Lib.hid (show t.take (k + 1) = t.take k ++ [⟨of, wl, wh, sl, sh, pe⟩] by rw [List.take_add_one, HP.out]; rfl)
      by_cases hof : of = (i : Int)
      · have hd : decide (of = (i : Int)) = true := decide_eq_true hof
        have HY := Lib.hid (show canCut t i = true from List.any_eq_true.2 ⟨_, List.mem_of_getElem? HP.out, hd⟩)
        go_wp2
        go_ret
        exact ⟨by rw [HY.out]; rfl, rfl⟩
      · have hd : decide (of = (i : Int)) = false := decide_eq_false hof
        go_wp2
        go_roundw
        case rel => exact ⟨k + 1, by omega, by go_num, Lib.hid (fun y hy => by
            rw [HTK.out, List.mem_append] at hy
            rcases hy with hy | hy
            · exact HK.out y hy
            · rw [List.mem_singleton.1 hy]; exact hd), by trivial⟩
        case measure => simp [intOf]; omega
    · obtain rfl : k = t.length := by omega
      have HN := Lib.hid (show canCut t i = false by
        unfold canCut
        rw [List.any_eq_false]
        intro y hy
        rw [HK.out y (by rw [List.take_length]; exact hy)]
        simp)
      go_wp2
      go_ret
      exact ⟨by rw [HN.out]; rfl, rfl⟩
/-- What the pieces of a part weigh, of the first k parts. -/
def kidsTo (t : List CP) (x : List Int) (i : Nat) : Nat → Int
  | 0 => 0
  | k + 1 => match t[k]? with
    | none => kidsTo t x i k
    | some p => if p.of = (i : Int) then kidsTo t x i k + x.getD k 0 else kidsTo t x i k
def lostOf (t : List CP) (x : List Int) (i : Nat) : Int := x.getD i 0 - kidsTo t x i t.length
theorem kids_bd (t : List CP) {x : List Int} (hx : ∀ y ∈ x, 0 ≤ y ∧ y ≤ 30) (i : Nat) : ∀ k, 0 ≤ kidsTo t x i k ∧ kidsTo t x i k ≤ 30 * (k : Int)
  | 0 => by simp [kidsTo]
  | k + 1 => by
    have ih := kids_bd t hx i k
    have hg : 0 ≤ x.getD k 0 ∧ x.getD k 0 ≤ 30 := by
      rw [List.getD_eq_getElem?_getD]
      cases h : x[k]? with
      | none => simp
      | some y => exact hx y (List.mem_of_getElem? h)
    rw [kidsTo]
    split
    · omega
    · split <;> omega
set_option maxRecDepth 100000 in
set_option maxHeartbeats 4000000 in
theorem lostOf_any (A1 : Option Addr) (c1 : Nat) (t : List CP) (hl : t.length ≤ 8) (A2 : Option Addr) (c2 : Nat) (x : List Int) (hx : ∀ y ∈ x, 0 ≤ y ∧ y ≤ 30) (hxl : x.length = t.length) (i : Nat) (hi : i < t.length) (w : World) (hT : TableAt w w.heap.size A1 t) (hI : IntsAt w w.heap.size A2 x) :
    Calls Tryz.prog 42 #[.slice A1 t.length c1, .slice A2 t.length c2, .int .i64 i] w fun e w' => e = .returned (.int .i64 (lostOf t x i)) ∧ w = w' := by
  have HT := Lib.hid hT
  have HI := Lib.hid hI
  have HX := Lib.hid hx
  obtain ⟨y, hy⟩ : ∃ y, x[i]? = some y := ⟨_, List.getElem?_eq_getElem (by omega)⟩
  have HY := Lib.hid (show lostOf t x i = y - kidsTo t x i t.length by unfold lostOf; rw [List.getD_eq_getElem?_getD, hy]; rfl)
  have hyb := hx y (List.mem_of_getElem? hy)
  obtain ⟨b2, o2, rfl, _, e1⟩ := hI.at_ hy
  clear hT hI hx hy
  go_enter Tryz.func42, Tryz.ntmps42
  go_wp2
  go_loopw [7, 8] (fun nv iv wr => ∃ k : Nat, k ≤ t.length ∧ iv = .int .i64 k ∧ (∃ s : Int, nv = .int .i64 s ∧ Hid (s = y - kidsTo t x i k)) ∧ w = wr) (fun _ iv _ => t.length - (intOf iv).toNat)
  case atStart => exact ⟨0, Nat.zero_le _, rfl, ⟨y, rfl, Lib.hid (by simp [kidsTo])⟩, rfl⟩
  case round =>
    obtain ⟨k, hk, rfl, ⟨s, rfl, hs⟩, rfl⟩ := hrel
    by_cases hlt : k < t.length
    · obtain ⟨p, hp⟩ : ∃ p, t[k]? = some p := ⟨_, List.getElem?_eq_getElem hlt⟩
      obtain ⟨z, hz⟩ : ∃ z, x[k]? = some z := ⟨_, List.getElem?_eq_getElem (by omega)⟩
      have hzb := HX.out z (List.mem_of_getElem? hz)
      have hkb := kids_bd t HX.out i k
      have hsb := hs.out
      obtain ⟨b, off, rfl, hbb, d1, d2, d3, d4, d5, d6⟩ := HT.out.at_ hp
      obtain ⟨b3, o3, hA, _, e3⟩ := HI.out.at_ hz
      cases hA
      obtain ⟨of, wl, wh, sl, sh, pe⟩ := p
      simp only at d1
      have HN := Lib.hid (show kidsTo t x i (k + 1) = if of = (i : Int) then kidsTo t x i k + z else kidsTo t x i k by rw [kidsTo, hp, List.getD_eq_getElem?_getD, hz]; rfl)
      have hw : IntKind.i64.wrap (s - z) = s - z := IntWalk.i64_in _ (by omega)
      clear hp hz d2 d3 d4 d5 d6 hkb
      by_cases hof : of = (i : Int)
      · have hd : decide (of = (i : Int)) = true := decide_eq_true hof
        have HN2 := Lib.hid (show s - z = y - kidsTo t x i (k + 1) by rw [HN.out, if_pos hof]; omega)
        clear hsb
        go_wp2
        go_roundw
        case rel => exact ⟨k + 1, by omega, by go_num, ⟨_, rfl, HN2⟩, by trivial⟩
        case measure => simp [intOf]; omega
      · have hd : decide (of = (i : Int)) = false := decide_eq_false hof
        have HN2 := Lib.hid (show s = y - kidsTo t x i (k + 1) by rw [HN.out, if_neg hof]; omega)
        clear hsb
        go_wp2
        go_roundw
        case rel => exact ⟨k + 1, by omega, by go_num, ⟨_, rfl, HN2⟩, by trivial⟩
        case measure => simp [intOf]; omega
    · obtain rfl : k = t.length := by omega
      have HE := Lib.hid (show lostOf t x i = s by rw [HY.out, hs.out])
      go_wp2
      go_ret
      exact ⟨by rw [HE.out]; rfl, rfl⟩
def awayS (lo hi v : Int) : Int := max (max 0 (lo - v)) (v - hi)
theorem awayS_bd {lo hi v : Int} (h : 0 ≤ lo ∧ lo ≤ 30) (h2 : 0 ≤ hi ∧ hi ≤ 30) (h3 : 0 ≤ v ∧ v ≤ 30) : 0 ≤ awayS lo hi v ∧ awayS lo hi v ≤ 30 := by unfold awayS; omega
theorem awayS_zero {lo hi v : Int} : awayS lo hi v = 0 ↔ lo ≤ v ∧ v ≤ hi := by unfold awayS; omega
set_option maxRecDepth 100000 in
set_option maxHeartbeats 4000000 in
theorem away7_any (lo hi v : Int) (h : 0 ≤ lo ∧ lo ≤ 30) (h2 : 0 ≤ hi ∧ hi ≤ 30) (h3 : 0 ≤ v ∧ v ≤ 30) (w : World) : Calls Tryz.prog 43 #[.agg #[.int .i64 lo, .int .i64 hi], .int .i64 v] w fun e w' => e = .returned (.int .i64 (awayS lo hi v)) ∧ Below w.heap.size w w' := by
  have HB := Lib.hid (al_below w (.cells #[.int .i64 lo, .int .i64 hi] 32))
  have hw1 : IntKind.i64.wrap (lo - v) = lo - v := IntWalk.i64_in _ (by omega)
  have hw2 : IntKind.i64.wrap (v - hi) = v - hi := IntWalk.i64_in _ (by omega)
  have hmx : ∀ (W : World), (Builtin.max_ #[3, 3, 3] 3 #[.int .i64 0, .int .i64 (lo - v), .int .i64 (v - hi)]).run Tryz.prog W = .ok (.int .i64 (awayS lo hi v)) W := fun W => by
    simp [Builtin.max_, Builtin.max2]
    unfold awayS
    split <;> split <;> omega
  go_enter Tryz.func43, Tryz.ntmps43
  go_wp2
  go_ret
  exact ⟨rfl, HB.out⟩
def changeTo (t : List CP) (x : List Int) : Nat → Int
  | 0 => 0
  | k + 1 => match t[k]? with
    | none => changeTo t x k
    | some p => changeTo t x k + awayS p.wl p.wh (x.getD k 0)
theorem getD_bd {x : List Int} (hx : ∀ y ∈ x, 0 ≤ y ∧ y ≤ 30) (k : Nat) : 0 ≤ x.getD k 0 ∧ x.getD k 0 ≤ 30 := by
  rw [List.getD_eq_getElem?_getD]
  cases h : x[k]? with
  | none => simp
  | some y => exact hx y (List.mem_of_getElem? h)
theorem change_bd {t : List CP} (hT : TOK t) {x : List Int} (hx : ∀ y ∈ x, 0 ≤ y ∧ y ≤ 30) : ∀ k, 0 ≤ changeTo t x k ∧ changeTo t x k ≤ 30 * (k : Int)
  | 0 => by simp [changeTo]
  | k + 1 => by
    have ih := change_bd hT hx k
    rw [changeTo]
    split
    · omega
    · rename_i p hp
      have := hT.ok k p hp
      have := awayS_bd (lo := p.wl) (hi := p.wh) (by omega) (by omega) (getD_bd hx k)
      omega
theorem change_zero {t : List CP} (hT : TOK t) {x : List Int} (hx : ∀ y ∈ x, 0 ≤ y ∧ y ≤ 30) : ∀ k, changeTo t x k = 0 ↔ ∀ (i : Nat) p, i < k → t[i]? = some p → p.wl ≤ x.getD i 0 ∧ x.getD i 0 ≤ p.wh
  | 0 => by simp [changeTo]
  | k + 1 => by
    have ih := change_zero hT hx k
    have hb := change_bd hT hx k
    rw [changeTo]
    split
    · rename_i hn
      refine ih.trans ⟨fun h i p hi hp => ?_, fun h i p hi hp => h i p (by omega) hp⟩
      by_cases hik : i = k
      · subst hik; rw [hn] at hp; cases hp
      · exact h i p (by omega) hp
    · rename_i p hp
      have hok := hT.ok k p hp
      have ha := awayS_bd (lo := p.wl) (hi := p.wh) (by omega) (by omega) (getD_bd hx k)
      have hz := awayS_zero (lo := p.wl) (hi := p.wh) (v := x.getD k 0)
      constructor
      · intro h i q hi hq
        by_cases hik : i = k
        · subst hik
          rw [hp] at hq
          cases hq
          exact hz.1 (by omega)
        · exact ih.1 (by omega) i q (by omega) hq
      · intro h
        have h1 := ih.2 (fun i q hi hq => h i q (by omega) hq)
        have h2 := hz.2 (h k p (by omega) hp)
        omega
set_option maxRecDepth 100000 in
set_option maxHeartbeats 4000000 in
theorem changeOf_any (A1 : Option Addr) (c1 : Nat) (t : List CP) (hOK : TOK t) (A2 : Option Addr) (c2 : Nat) (x : List Int) (hx : ∀ y ∈ x, 0 ≤ y ∧ y ≤ 30) (hxl : x.length = t.length) (w : World) (hT : TableAt w w.heap.size A1 t) (hI : IntsAt w w.heap.size A2 x) :
    Calls Tryz.prog 18 #[.slice A1 t.length c1, .slice A2 t.length c2] w fun e w' => e = .returned (.int .i64 (changeTo t x t.length)) ∧ Below w.heap.size w w' := by
  have HT := Lib.hid hT
  have HI := Lib.hid hI
  have HX := Lib.hid hx
  have HOK := Lib.hid hOK
  have hl := hOK.n
  clear hT hI hx hOK
  go_enter Tryz.func18, Tryz.ntmps18
  go_wp2
  go_loopw [5, 6] (fun nv iv wr => ∃ k : Nat, k ≤ t.length ∧ iv = .int .i64 k ∧ (∃ s : Int, nv = .int .i64 s ∧ Hid (s = changeTo t x k)) ∧ Below w.heap.size w wr) (fun _ iv _ => t.length - (intOf iv).toNat)
  case atStart => exact ⟨0, Nat.zero_le _, rfl, ⟨0, rfl, Lib.hid rfl⟩, Below.refl _ _⟩
  case round =>
    obtain ⟨k, hk, rfl, ⟨s, rfl, hs⟩, hb⟩ := hrel
    by_cases hlt : k < t.length
    · obtain ⟨p, hp⟩ : ∃ p, t[k]? = some p := ⟨_, List.getElem?_eq_getElem hlt⟩
      obtain ⟨z, hz⟩ : ∃ z, x[k]? = some z := ⟨_, List.getElem?_eq_getElem (by omega)⟩
      have hzb := HX.out z (List.mem_of_getElem? hz)
      have hkb := change_bd HOK.out HX.out k
      have hok := HOK.out.ok k p hp
      obtain ⟨b, off, rfl, hbb, d1, d2, d3, d4, d5, d6⟩ := (HT.out.lt hb).at_ hp
      obtain ⟨b3, o3, rfl, _, e3⟩ := (ints_lt7 HI.out hb).at_ hz
      obtain ⟨of, wl, wh, sl, sh, pe⟩ := p
      simp only at d2 d3 hok
      have HN := Lib.hid (show changeTo t x (k + 1) = changeTo t x k + awayS wl wh z by rw [changeTo, hp, List.getD_eq_getElem?_getD, hz]; rfl)
      have hab := awayS_bd (lo := wl) (hi := wh) (v := z) (by omega) (by omega) hzb
      have HC := Lib.hid (fun y => away7_any wl wh z (by omega) (by omega) hzb (extB wr y))
      rw [← hs.out] at HN hkb
      obtain ⟨a, ha⟩ : ∃ a, awayS wl wh z = a := ⟨_, rfl⟩
      rw [ha] at HN HC hab
      have hw : IntKind.i64.wrap (s + a) = s + a := IntWalk.i64_in _ (by omega)
      have f2 := extB_cell d2
      have f3 := extB_cell d3
      have f4 := extB_cell e3
      have HN2 := Lib.hid (show s + a = changeTo t x (k + 1) from HN.out.symm)
      clear hp hz d1 d4 d5 d6 ha hok hkb
      go_wp2_with (fail)
      refine wp_region_ext (by kernel_rfl) (by kernel_rfl) ?_
      repeat (go_big_quiet_step ((go_at_call 43; exact ext_call (HC.out _))))
      refine wpQuiet_nil ?_
      rintro _ ⟨x1, rfl⟩
      have HB6 := Lib.hid (hb0to hb (extB_below wr x1))
      obtain ⟨W6, hW6⟩ : ∃ W6, extB wr x1 = W6 := ⟨_, rfl⟩
      rw [hW6] at HB6 ⊢
      clear hW6 f2 f3 f4
      go_wp2_with (fail)
      go_roundw
      case rel => exact ⟨k + 1, by omega, by go_num, ⟨_, rfl, HN2⟩, HB6.out⟩
      case measure => simp [intOf]; omega
    · obtain rfl : k = t.length := by omega
      go_wp2
      go_ret
      exact ⟨by rw [← hs.out]; rfl, hb⟩
/-- A parting of a valid table. -/
structure Parting (t : List CP) (x : List Int) : Prop where
  n : x.length = t.length
  r : ∀ y ∈ x, 0 ≤ y ∧ y ≤ 30
  l : ∀ (i : Nat) p, t[i]? = some p → canCut t i = true → p.sl ≤ lostOf t x i ∧ lostOf t x i ≤ p.sh
structure Truth (t : List CP) (x : List Int) : Prop where
  p : Parting t x
  w : ∀ (i : Nat) p, t[i]? = some p → p.wl ≤ x.getD i 0 ∧ x.getD i 0 ≤ p.wh
set_option maxRecDepth 100000 in
set_option maxHeartbeats 4000000 in
theorem isParting_any (A1 : Option Addr) (c1 : Nat) (t : List CP) (hOK : TOK t) (A2 : Option Addr) (c2 : Nat) (x : List Int) (hx : x.length ≤ 40) (w : World) (hT : TableAt w w.heap.size A1 t) (hI : IntsAt w w.heap.size A2 x) :
    Calls Tryz.prog 17 #[.slice A1 t.length c1, .slice A2 x.length c2] w fun e w' => ∃ b, e = .returned (.bool b) ∧ (b = true ↔ Parting t x) ∧ Below w.heap.size w w' := by
  have HT := Lib.hid hT
  have HI := Lib.hid hI
  have HOK := Lib.hid hOK
  have hl := hOK.n
  clear hT hI hOK
  by_cases hxl : x.length = t.length
  · have hlen : decide ((t.length : Int) = (t.length : Int)) = true := decide_eq_true rfl
    rw [hxl]
    go_enter Tryz.func17, Tryz.ntmps17
    go_wp2
    go_loopw [5] (fun iv wr => ∃ k : Nat, k ≤ t.length ∧ iv = .int .i64 k ∧ Hid (∀ y ∈ x.take k, 0 ≤ y ∧ y ≤ 30) ∧ w = wr) (fun iv _ => t.length - (intOf iv).toNat)
    case atStart => exact ⟨0, Nat.zero_le _, rfl, Lib.hid (fun y h => by simp at h), rfl⟩
    case round =>
      obtain ⟨k, hk, rfl, HK, rfl⟩ := hrel
      by_cases hlt : k < t.length
      · obtain ⟨z, hz⟩ : ∃ z, x[k]? = some z := ⟨_, List.getElem?_eq_getElem (by omega)⟩
        obtain ⟨b3, o3, rfl, _, e3⟩ := HI.out.at_ hz
        have HC := Lib.hid (fun y => within7_any z 0 30 y)
        have HZ := Lib.hid hz
        clear hz
        cases hr : inR z 0 30
        · rw [hr] at HC
          have hr' := inR_false.1 hr
          have HNO := Lib.hid (show ¬ Parting t x from fun h => hr' (h.r z (List.mem_of_getElem? HZ.out)))
          clear hr'
          go_wp2_with (go_at_call 15; refine (HC.out _).mono ?_; rintro e w1 ⟨rfl, rfl⟩)
          go_ret
          exact ⟨false, rfl, ⟨fun h => (by cases h), fun h => absurd h HNO.out⟩, Below.refl _ _⟩
        · rw [hr] at HC
          have HR := Lib.hid (inR_true.1 hr)
          go_wp2_with (go_at_call 15; refine (HC.out _).mono ?_; rintro e w1 ⟨rfl, rfl⟩)
          go_roundw
          case rel => exact ⟨k + 1, by omega, by go_num, Lib.hid (fun y hy => by
              rw [List.take_add_one, HZ.out, List.mem_append] at hy
              rcases hy with hy | hy
              · exact HK.out y hy
              · rw [Option.toList_some, List.mem_singleton] at hy; rw [hy]; exact HR.out), by trivial⟩
          case measure => simp [intOf]; omega
      · obtain rfl : k = t.length := by omega
        have HX := Lib.hid (show ∀ y ∈ x, 0 ≤ y ∧ y ≤ 30 from fun y hy => HK.out y (by rw [List.take_of_length_le (by omega)]; exact hy))
        clear HK hlt hk
        go_wp2
        go_loopw [6] (fun iv wr => ∃ k : Nat, k ≤ t.length ∧ iv = .int .i64 k ∧ Hid (∀ (i : Nat) p, i < k → t[i]? = some p → canCut t i = true → p.sl ≤ lostOf t x i ∧ lostOf t x i ≤ p.sh) ∧ Below w.heap.size w wr) (fun iv _ => t.length - (intOf iv).toNat)
        case atStart => exact ⟨0, Nat.zero_le _, rfl, Lib.hid (fun i p h => by omega), Below.refl _ _⟩
        case round =>
          obtain ⟨k, hk, rfl, HK, hb⟩ := hrel
          by_cases hlt : k < t.length
          · obtain ⟨p, hp⟩ : ∃ p, t[k]? = some p := ⟨_, List.getElem?_eq_getElem hlt⟩
            have HP := Lib.hid hp
            have HTW := Lib.hid (HT.out.lt hb)
            have HIW := Lib.hid (ints_lt7 HI.out hb)
            obtain ⟨b, off, hA, hbb, d1, d2, d3, d4, d5, d6⟩ := HTW.out.at_ hp
            have HC := Lib.hid (fun y => canCut7_any A1 c1 t (by omega) k (extB wr y) (HTW.out.lt (extB_below wr y)))
            have HL := Lib.hid (fun y => lostOf_any A1 c1 t hl A2 c2 x HX.out hxl k hlt (extB wr y) (HTW.out.lt (extB_below wr y)) (ints_lt7 HIW.out (extB_below wr y)))
            subst hA
            obtain ⟨of, wl, wh, sl, sh, pe⟩ := p
            simp only at d4 d5
            have f4 := extB_cell d4
            have f5 := extB_cell d5
            have HNX := Lib.hid (show (canCut t k = true → sl ≤ lostOf t x k ∧ lostOf t x k ≤ sh) → ∀ (i : Nat) p, i < k + 1 → t[i]? = some p → canCut t i = true → p.sl ≤ lostOf t x i ∧ lostOf t x i ≤ p.sh from fun h i p hi hq hc => by
              by_cases hik : i = k
              · subst hik
                rw [HP.out] at hq
                cases hq
                exact h hc
              · exact HK.out i p (by omega) hq hc)
            obtain ⟨n, hn⟩ : ∃ n, lostOf t x k = n := ⟨_, rfl⟩
            clear hp d1 d2 d3 d6
            cases hcc : canCut t k
            · rw [hcc] at HC
              go_wp2_with (fail)
              refine wp_region_ext (by kernel_rfl) (by kernel_rfl) ?_
              repeat (go_big_quiet_step ((go_at_call 20; exact ext_same (HC.out _))))
              refine wpQuiet_nil ?_
              rintro _ ⟨x1, rfl⟩
              have HB6 := Lib.hid (hb0to hb (extB_below wr x1))
              obtain ⟨W6, hW6⟩ : ∃ W6, extB wr x1 = W6 := ⟨_, rfl⟩
              rw [hW6] at HB6 ⊢
              clear hW6 f4 f5
              go_wp2_with (fail)
              go_roundw
              case rel => exact ⟨k + 1, by omega, by go_num, Lib.hid (HNX.out (fun h => by rw [hcc] at h; cases h)), HB6.out⟩
              case measure => simp [intOf]; omega
            · rw [hcc] at HC
              rw [hn] at HL HNX
              have HW := Lib.hid (fun y => within7_any n sl sh y)
              cases hr : inR n sl sh
              all_goals
                rw [hr] at HW
                go_wp2_with (fail)
                refine wp_region_ext (by kernel_rfl) (by kernel_rfl) ?_
                repeat (go_big_quiet_step (first | (go_at_call 20; exact ext_same (HC.out _)) | (go_at_call 42; exact ext_same (HL.out _)) | (go_at_call 15; exact ext_same (HW.out _))))
                refine wpQuiet_nil ?_
                rintro _ ⟨x1, rfl⟩
                have HB6 := Lib.hid (hb0to hb (extB_below wr x1))
                obtain ⟨W6, hW6⟩ : ∃ W6, extB wr x1 = W6 := ⟨_, rfl⟩
                rw [hW6] at HB6 ⊢
                clear hW6 f4 f5
                go_wp2_with (fail)
              · go_ret
                have hr' := inR_false.1 hr
                exact ⟨false, rfl, ⟨fun h => (by cases h), fun h => absurd (h.l k _ HP.out hcc) (by rw [hn]; exact hr')⟩, HB6.out⟩
              · go_roundw
                case rel => exact ⟨k + 1, by omega, by go_num, Lib.hid (HNX.out (fun _ => inR_true.1 hr)), HB6.out⟩
                case measure => simp [intOf]; omega
          · obtain rfl : k = t.length := by omega
            go_wp2
            go_ret
            exact ⟨true, rfl, ⟨fun _ => ⟨hxl, HX.out, fun i p hp => HK.out i p (List.getElem?_eq_some_iff.1 hp).1 hp⟩, fun _ => rfl⟩, hb⟩
  · have hlen : decide ((x.length : Int) = (t.length : Int)) = false := decide_eq_false (by omega)
    have hne : ¬ (x.length : Int) = (t.length : Int) := by omega
    go_enter Tryz.func17, Tryz.ntmps17
    go_wp2
    go_ret
    exact ⟨false, rfl, ⟨fun h => (by cases h), fun h => absurd h.n hxl⟩, Below.refl _ _⟩
set_option maxRecDepth 100000 in
set_option maxHeartbeats 4000000 in
theorem isTruth_any (A1 : Option Addr) (c1 : Nat) (t : List CP) (hOK : TOK t) (A2 : Option Addr) (c2 : Nat) (x : List Int) (hx : x.length ≤ 40) (w : World) (hT : TableAt w w.heap.size A1 t) (hI : IntsAt w w.heap.size A2 x) :
    Calls Tryz.prog 5 #[.slice A1 t.length c1, .slice A2 x.length c2] w fun e w' => ∃ b, e = .returned (.bool b) ∧ (b = true ↔ Truth t x) ∧ Below w.heap.size w w' := by
  have HP := Lib.hid (isParting_any A1 c1 t hOK A2 c2 x hx w hT hI)
  by_cases hpt : Parting t x
  · have HPT := Lib.hid hpt
    have HC := Lib.hid (fun (W : World) (hW : Below w.heap.size w W) => changeOf_any A1 c1 t hOK A2 c2 x hpt.r hpt.n W (hT.lt hW) (ints_lt7 hI hW))
    have HZ := Lib.hid (change_zero hOK hpt.r t.length)
    rw [hpt.n]
    rw [hpt.n] at HP
    clear hT hI hpt
    obtain ⟨n, hn⟩ : ∃ n, changeTo t x t.length = n := ⟨_, rfl⟩
    rw [hn] at HC HZ
    clear hn
    by_cases hn0 : n = 0
    · subst hn0
      go_enter Tryz.func5, Tryz.ntmps5
      go_wp2_with (first
        | (go_at_call 17; refine HP.out.mono ?_; clear HP; rintro e w1 ⟨b, rfl, hb, hb1⟩; obtain rfl := hb.2 HPT.out; have HB1 := Lib.hid hb1; clear hb hb1)
        | (go_at_call 18; refine (HC.out _ HB1.out).mono ?_; rintro e w2 ⟨rfl, hb2⟩; have HB2 := Lib.hid hb2; clear hb2))
      go_ret
      exact ⟨true, rfl, ⟨fun _ => ⟨HPT.out, fun i p hp => HZ.out.1 (by first | rfl | trivial) i p (List.getElem?_eq_some_iff.1 hp).1 hp⟩, fun _ => rfl⟩, hb0to HB1.out HB2.out⟩
    · have hd : decide (n = 0) = false := decide_eq_false hn0
      have hd2 : (n == 0) = false := by simp [hn0]
      go_enter Tryz.func5, Tryz.ntmps5
      go_wp2_with (first
        | (go_at_call 17; refine HP.out.mono ?_; clear HP; rintro e w1 ⟨b, rfl, hb, hb1⟩; obtain rfl := hb.2 HPT.out; have HB1 := Lib.hid hb1; clear hb hb1)
        | (go_at_call 18; refine (HC.out _ HB1.out).mono ?_; rintro e w2 ⟨rfl, hb2⟩; have HB2 := Lib.hid hb2; clear hb2))
      go_ret
      exact ⟨false, rfl, ⟨fun h => (by cases h), fun h => absurd (HZ.out.2 (fun i p _ hp => h.w i p hp)) hn0⟩, hb0to HB1.out HB2.out⟩
  · have HPT := Lib.hid hpt
    clear hT hI hpt
    go_enter Tryz.func5, Tryz.ntmps5
    go_wp2_with (go_at_call 17; refine HP.out.mono ?_; clear HP; rintro e w1 ⟨b, rfl, hb, hb1⟩; obtain rfl : b = false := Bool.eq_false_iff.2 (fun h => HPT.out (hb.1 h)); have HB1 := Lib.hid hb1; clear hb hb1)
    go_ret
    exact ⟨false, rfl, ⟨fun h => (by cases h), fun h => absurd h.p HPT.out⟩, HB1.out⟩

end Go.Proofs.YtmbcpmnigggbaabGreat.Cu
namespace Go.Proofs.YtmbcpmnigggbaabGreat.Cu
/-! Plain words: what least finds lies between: no truth costs less; it is at least what its parts cost at the least. -/
def exT : List CP := [⟨-1, 20, 24, 1, 3, 2⟩, ⟨0, 8, 12, 0, 2, 3⟩, ⟨0, 9, 10, 0, 0, 4⟩, ⟨1, 6, 7, 0, 0, 6⟩, ⟨1, 0, 30, 0, 0, 1⟩]
theorem ex_low : lowF exT (eachA exT) = 20 := by kernel_rfl
def sumF (f : Nat → Int) : Nat → Int
  | 0 => 0
  | n + 1 => sumF f n + f n
theorem sumF_congr {f g : Nat → Int} : ∀ n, (∀ i, i < n → f i = g i) → sumF f n = sumF g n
  | 0, _ => rfl
  | n + 1, h => by rw [sumF, sumF, sumF_congr n (fun i hi => h i (by omega)), h n (by omega)]
theorem sumF_le {f g : Nat → Int} : ∀ n, (∀ i, i < n → f i ≤ g i) → sumF f n ≤ sumF g n
  | 0, _ => Int.le_refl _
  | n + 1, h => by
    have := sumF_le n (fun i hi => h i (by omega))
    have := h n (by omega)
    rw [sumF, sumF]
    omega
theorem sumF_upd {f : Nat → Int} {j : Nat} {d : Int} : ∀ n, j < n → sumF (fun q => if q = j then f q + d else f q) n = sumF f n + d
  | 0, h => by omega
  | n + 1, h => by
    rw [sumF, sumF]
    by_cases hj : n = j
    · subst hj
      rw [if_pos rfl, sumF_congr (g := f) n (fun i hi => if_neg (by omega))]
      omega
    · rw [if_neg hj, sumF_upd n (by omega)]
      omega
theorem sumF_nonpos {f : Nat → Int} (h : ∀ i, f i ≤ 0) : ∀ n, sumF f n ≤ 0
  | 0 => Int.le_refl _
  | n + 1 => by have := sumF_nonpos h n; have := h n; rw [sumF]; omega
/-- No entry is less. -/
def Low (m : Int) (c : List Int) : Prop := c.length = 31 ∧ ∀ (v : Nat) (x : Int), c[v]? = some x → m ≤ x
theorem cat_low {m : Int} (hm : m ≤ far) {c : List Int} (h : Low m c) (v : Nat) : m ≤ cat c v := by
  by_cases hv : v < c.length
  · exact h.2 v _ (cat_at hv)
  · unfold cat; rw [List.getD_eq_getElem?_getD, List.getElem?_eq_none (by omega)]; exact hm
theorem conv_low {a b m : Int} {c d : List Int} (ha : a ≤ far) (hb : b ≤ far) (hm : m ≤ far) (hab : m ≤ a + b) (hc : Low a c) (hd : Low b d) (n : Nat) : ∀ k, m ≤ convTo c d n k
  | 0 => hm
  | k + 1 => by
    have ih := conv_low ha hb hm hab hc hd n k
    rw [convTo]
    split
    · have h1 := cat_low ha hc k
      have h2 := cat_low hb hd (n - k)
      omega
    · exact ih
theorem plus_low {a b m : Int} {c d : List Int} (ha : a ≤ far) (hb : b ≤ far) (hm : m ≤ far) (hab : m ≤ a + b) (hc : Low a c) (hd : Low b d) : Low m (plusL c d) := ⟨plusL_len c d, fun n x hx => by
  have hn : n < 31 := by have := (List.getElem?_eq_some_iff.1 hx).1; rwa [plusL_len] at this
  rw [plusL_at c d hn] at hx
  cases hx
  exact conv_low ha hb hm hab hc hd n 31⟩
theorem far_pos : (0 : Int) < far := by unfold far; omega
theorem base_low {m : Int} (hm : m ≤ 0) (t : List CP) (i : Nat) (p : CP) {pc : List Int} (h : Low m pc) : Low m (baseL t i p pc) := by
  have hf := far_pos
  unfold baseL
  split
  · refine plus_low (a := m) (b := 0) (by omega) (by omega) (by omega) (by omega) h ⟨lostL_len p, fun n x hx => ?_⟩
    have := (lost_fin p).2 n x hx
    omega
  · exact ⟨by simp, fun v x hx => by rw [List.eq_of_mem_replicate (List.mem_of_getElem? hx)]; exact hm⟩
theorem own_low {m l : Int} (hm : m ≤ 0) (hl : l ≤ 0) {cost : Nat → Int} {base : List Int} (h : Low m base) (hc : ∀ v, l ≤ cost v) : Low (m + l) (ownL cost base) := ⟨ownL_len _ _, fun n x hx => by
  have hf := far_pos
  have hn : n < 31 := by have := (List.getElem?_eq_some_iff.1 hx).1; rwa [ownL_len] at this
  rw [ownL_at _ _ hn] at hx
  cases hx
  have h1 := cat_low (by omega) h n
  have h2 := hc n
  split <;> omega⟩
theorem min_low {m : Int} {c : List Int} (h : Low m c) : m ≤ minL c := by
  have hm := minL_mem (l := c) (fun e => by have := h.1; rw [e] at this; simp at this)
  obtain ⟨n, hn⟩ := List.mem_iff_getElem?.1 hm
  exact h.2 n _ hn
theorem run_ge {t : List CP} (hT : TOK t) {cost : Nat → Nat → Int} {lo : Nat → Int} (h0 : ∀ i, lo i ≤ 0) (hc : ∀ i v, lo i ≤ cost i v) : ∀ (k : Nat) (ps : List (List Int)) (all : Int), k ≤ t.length → runC t cost k = some (ps, all) →
    ps.length = t.length ∧ ∃ m : Nat → Int, (∀ j, m j ≤ 0) ∧ (∀ j c, ps[j]? = some c → Low (m j) c) ∧ sumF lo t.length ≤ all + sumF m (t.length - k) + sumF lo (t.length - k)
  | 0, ps, all, _, h => by
    simp only [runC, Option.some.injEq, Prod.mk.injEq] at h
    obtain ⟨rfl, rfl⟩ := h
    refine ⟨by simp, fun _ => 0, fun _ => Int.le_refl _, fun j c hj => ?_, ?_⟩
    · rw [List.eq_of_mem_replicate (List.mem_of_getElem? hj)]
      exact ⟨rfl, fun v x hx => by show (0 : Int) ≤ x; have := nothing_fin.2 v x hx; have := far_pos; omega⟩
    · have : ∀ n, sumF (fun _ => 0) n = 0 := fun n => by
        induction n with
        | zero => rfl
        | succ n ih => rw [sumF, ih]; rfl
      rw [this, Nat.sub_zero]
      omega
  | k + 1, ps, all, hk, h => by
    have hf := far_pos
    obtain ⟨p, hp⟩ : ∃ p, t[t.length - 1 - k]? = some p := ⟨_, List.getElem?_eq_getElem (by omega)⟩
    rw [run_next t cost hp] at h
    have hok := hT.ok _ p hp
    obtain ⟨i, hi⟩ : ∃ i, t.length - 1 - k = i := ⟨_, rfl⟩
    rw [hi] at h hp hok
    cases hr : runC t cost k with
    | none => rw [hr] at h; cases h
    | some q =>
      obtain ⟨ps0, all0⟩ := q
      rw [hr] at h
      obtain ⟨hl, m, hm0, hmL, hsum⟩ := run_ge hT h0 hc k ps0 all0 (by omega) hr
      obtain ⟨pc, hpc⟩ : ∃ pc, ps0[i]? = some pc := ⟨_, List.getElem?_eq_getElem (by omega)⟩
      have hown := own_low (hm0 i) (h0 i) (base_low (hm0 i) t i p (hmL i pc hpc)) (hc i)
      have hgd : ps0.getD i [] = pc := by rw [List.getD_eq_getElem?_getD, hpc]; rfl
      simp only [stepC, hgd] at h
      have hn1 : t.length - k = i + 1 := by omega
      have hn2 : t.length - (k + 1) = i := by omega
      rw [hn1, sumF, sumF] at hsum
      rw [hn2]
      split at h
      · rename_i hof
        simp only [Option.some.injEq, Prod.mk.injEq] at h
        obtain ⟨rfl, rfl⟩ := h
        have hj : p.of.toNat < i := by omega
        obtain ⟨pj, hpj⟩ : ∃ pj, ps0[p.of.toNat]? = some pj := ⟨_, List.getElem?_eq_getElem (by omega)⟩
        have hgj : ps0.getD p.of.toNat [] = pj := by rw [List.getD_eq_getElem?_getD, hpj]; rfl
        rw [hgj]
        have hmi := hm0 i
        have hli := h0 i
        refine ⟨by simpa using hl, fun q => if q = p.of.toNat then m q + (m i + lo i) else m q, fun j => ?_, fun j c hc' => ?_, ?_⟩
        · have := hm0 j
          show (if j = p.of.toNat then m j + (m i + lo i) else m j) ≤ 0
          split <;> omega
        · by_cases hjq : j = p.of.toNat
          · subst hjq
            rw [List.getElem?_set_self (by omega)] at hc'
            cases hc'
            have hmj := hm0 p.of.toNat
            simp only [if_pos]
            exact plus_low (by omega) (by omega) (by omega) (by omega) (hmL _ pj hpj) hown
          · rw [List.getElem?_set_ne (by omega)] at hc'
            simp only [if_neg hjq]
            exact hmL j c hc'
        · rw [sumF_upd i hj]
          omega
      · split at h
        · cases h
        · simp only [Option.some.injEq, Prod.mk.injEq] at h
          obtain ⟨rfl, rfl⟩ := h
          have := min_low hown
          exact ⟨hl, m, hm0, hmL, by omega⟩
theorem least_ge {t : List CP} (hT : TOK t) {cost : Nat → Nat → Int} {lo : Nat → Int} (h0 : ∀ i, lo i ≤ 0) (hc : ∀ i v, lo i ≤ cost i v) : sumF lo t.length ≤ leastF t cost := by
  unfold leastF
  cases h : runC t cost t.length with
  | none => have := sumF_nonpos h0 t.length; have := far_pos; simp only; omega
  | some q =>
    obtain ⟨ps, all⟩ := q
    obtain ⟨-, m, -, -, hs⟩ := run_ge hT h0 hc t.length ps all (Nat.le_refl _) h
    rw [Nat.sub_self] at hs
    simp only [sumF] at hs ⊢
    omega
/-! A truth costs no less. -/
theorem conv_le {c d : List Int} {n r : Nat} (hr : r ≤ n) (h1 : cat c r < far) (h2 : cat d (n - r) < far) : ∀ k, r < k → convTo c d n k ≤ cat c r + cat d (n - r)
  | 0, h => by omega
  | k + 1, h => by
    rw [convTo]
    by_cases hk : k = r
    · subst hk
      rw [if_pos ⟨hr, h1, h2⟩]
      exact Int.min_le_right _ _
    · have ih := conv_le hr h1 h2 k (by omega)
      split
      · exact Int.le_trans (Int.min_le_left _ _) ih
      · exact ih
theorem cat_plus (c d : List Int) {n : Nat} (hn : n < 31) : cat (plusL c d) n = convTo c d n 31 := cat_some (plusL_at c d hn)
theorem minL_le {c : List Int} {n : Nat} {x : Int} (h : c[n]? = some x) : minL c ≤ x := by
  have key : ∀ (l : List Int) (y : Int), l.foldl min y ≤ y ∧ ∀ z ∈ l, l.foldl min y ≤ z := by
    intro l
    induction l with
    | nil => intro y; exact ⟨Int.le_refl _, fun z hz => by cases hz⟩
    | cons a l ih =>
      intro y
      obtain ⟨h1, h2⟩ := ih (min y a)
      refine ⟨Int.le_trans h1 (Int.min_le_left _ _), fun z hz => ?_⟩
      rcases List.mem_cons.1 hz with rfl | hz
      · exact Int.le_trans h1 (Int.min_le_right _ _)
      · exact h2 z hz
  have hm := List.mem_of_getElem? h
  cases c with
  | nil => cases hm
  | cons a l =>
    rcases List.mem_cons.1 hm with rfl | hm
    · exact (key l _).1
    · exact (key l a).2 x hm
theorem kids_zero {t : List CP} (hT : TOK t) (x : List Int) (i : Nat) : ∀ k, k ≤ i + 1 → kidsTo t x i k = 0
  | 0, _ => rfl
  | k + 1, h => by
    have ih := kids_zero hT x i k (by omega)
    rw [kidsTo]
    split
    · exact ih
    · rename_i p hp
      have := hT.ok k p hp
      rw [if_neg (by omega)]
      exact ih
theorem kids_mono {t : List CP} {x : List Int} (hx : ∀ y ∈ x, 0 ≤ y ∧ y ≤ 30) (i : Nat) {k : Nat} : ∀ n, kidsTo t x i k ≤ kidsTo t x i (k + n)
  | 0 => Int.le_refl _
  | n + 1 => by
    have ih := kids_mono (t := t) hx i (k := k) n
    show kidsTo t x i k ≤ kidsTo t x i (k + n + 1)
    rw [kidsTo]
    split
    · exact ih
    · have := getD_bd hx (k + n)
      split <;> omega
theorem canCut_of {t : List CP} {k j : Nat} {p : CP} (hp : t[k]? = some p) (h : p.of = (j : Int)) : canCut t j = true := List.any_eq_true.2 ⟨p, List.mem_of_getElem? hp, decide_eq_true h⟩
/-- What lies in a part already, of those behind. -/
def restN (t : List CP) (x : List Int) (j m : Nat) : Nat := (kidsTo t x j t.length - kidsTo t x j m).toNat
def potF (t : List CP) (x : List Int) (ps : List (List Int)) (m j : Nat) : Int := if canCut t j then cat (ps.getD j []) (restN t x j m) else 0
theorem run_le {t : List CP} (hT : TOK t) {x : List Int} (hx : Truth t x) {cost : Nat → Nat → Int} (hc : ∀ i v, cost i v = far ∨ (-3000 ≤ cost i v ∧ cost i v ≤ 3000)) (hfin : ∀ i, i < t.length → cost i (x.getD i 0).toNat < far) : ∀ k, k ≤ t.length →
    ∃ ps all, runC t cost k = some (ps, all) ∧ (∀ j, j < t.length - k → canCut t j = true → cat (ps.getD j []) (restN t x j (t.length - k)) < far) ∧
      all + sumF (potF t x ps (t.length - k)) (t.length - k) + sumF (fun i => cost i (x.getD i 0).toNat) (t.length - k) ≤ sumF (fun i => cost i (x.getD i 0).toNat) t.length
  | 0, _ => by
    have hf := far_pos
    have hz : ∀ j, restN t x j (t.length - 0) = 0 := fun j => by simp [restN]
    have hg : ∀ j, j < t.length → (List.replicate t.length nothingL).getD j [] = nothingL := fun j hj => by
      rw [List.getD_eq_getElem?_getD, List.getElem?_replicate_of_lt hj]; rfl
    refine ⟨_, _, rfl, fun j hj hcc => ?_, ?_⟩
    · rw [hz, hg j (by omega)]
      exact hf
    · rw [sumF_congr (g := fun _ => 0) _ (fun j hj => by
        unfold potF
        rw [hz, hg j (by omega)]
        split <;> rfl)]
      have : ∀ n, sumF (fun _ => 0) n = 0 := fun n => by
        induction n with
        | zero => rfl
        | succ n ih => rw [sumF, ih]; rfl
      rw [this, Nat.sub_zero]
      omega
  | k + 1, hk => by
    have hf := far_pos
    obtain ⟨ps, all, hr, hpot, hsum⟩ := run_le hT hx hc hfin k (by omega)
    obtain ⟨hl, hfi, -, -⟩ := run_fin hc k ps all (by have := hT.n; omega) hr
    have hbn := bndC_le k (by have := hT.n; omega)
    have hbn0 := bndC_nonneg k
    obtain ⟨p, hp⟩ : ∃ p, t[t.length - 1 - k]? = some p := ⟨_, List.getElem?_eq_getElem (by omega)⟩
    have hrn := run_next t cost hp
    obtain ⟨i, hi⟩ : ∃ i, t.length - 1 - k = i := ⟨_, rfl⟩
    have hn1 : t.length - k = i + 1 := by omega
    have hn2 : t.length - (k + 1) = i := by omega
    have hil : i < t.length := by omega
    rw [hi] at hp hrn
    rw [hn1] at hpot hsum
    rw [hn2, hrn, hr]
    have hok := hT.ok i p hp
    have hxi := getD_bd hx.p.r i
    obtain ⟨X, hX⟩ : ∃ X : Nat, (x.getD i 0).toNat = X := ⟨_, rfl⟩
    have hX2 : x.getD i 0 = (X : Int) := by omega
    obtain ⟨pc, hpc⟩ : ∃ pc, ps[i]? = some pc := ⟨_, List.getElem?_eq_getElem (by omega)⟩
    have hgd : ps.getD i [] = pc := by rw [List.getD_eq_getElem?_getD, hpc]; rfl
    have hpcF := hfi pc (List.mem_of_getElem? hpc)
    have hbaseF := base_fin hbn0 (by unfold far; omega) t i p hpcF
    -- what the part costs with its pieces
    have hkey : cat (baseL t i p pc) X ≤ potF t x ps (i + 1) i ∧ cat (baseL t i p pc) X < far := by
      unfold potF baseL
      cases hcc : canCut t i with
      | false =>
        have : cat (List.replicate 31 0) X = 0 := cat_some (List.getElem?_replicate_of_lt (by omega))
        simp only [Bool.false_eq_true, if_false, this]
        exact ⟨Int.le_refl _, hf⟩
      | true =>
        simp only [if_true, hgd]
        have hlo := hx.p.l i p hp hcc
        have hk0 := kids_zero hT x i (i + 1) (Nat.le_refl _)
        have hkb := kids_bd t hx.p.r i t.length
        have hpo := hpot i (by omega) hcc
        rw [hgd] at hpo
        obtain ⟨r, hrr⟩ : ∃ r, restN t x i (i + 1) = r := ⟨_, rfl⟩
        have hr1 : (r : Int) = kidsTo t x i t.length := by rw [← hrr, restN, hk0]; omega
        rw [hrr] at hpo ⊢
        unfold lostOf at hlo
        rw [hX2] at hlo
        have hrX : r ≤ X := by omega
        have hlost : cat (lostL p) (X - r) = 0 := by
          rw [cat_some (lostL_at p (by omega)), if_pos (by omega)]
        rw [cat_plus _ _ (by omega)]
        have h3 := conv_le (c := pc) (d := lostL p) hrX hpo (by rw [hlost]; exact hf) 31 (by omega)
        rw [hlost] at h3
        omega
    have hcX := hfin i hil
    rw [hX] at hcX
    have hcb := hc i X
    have hbb := cat_fin hbaseF X
    obtain ⟨base, hbe⟩ : ∃ base, baseL t i p pc = base := ⟨_, rfl⟩
    rw [hbe] at hkey hbb
    have hox : (ownL (cost i) base)[X]? = some (cat base X + cost i X) := by rw [ownL_at _ _ (by omega), if_pos ⟨hcX, hkey.2⟩]
    simp only [stepC, hgd, hbe]
    rw [sumF, sumF, hX] at hsum
    have hbx : cat base X + cost i X ≤ 768000 := by unfold far at *; omega
    split
    · rename_i hof
      have hj : p.of.toNat < i := by omega
      obtain ⟨j, hjj⟩ : ∃ j : Nat, p.of = (j : Int) := ⟨p.of.toNat, by omega⟩
      rw [hjj, Int.toNat_natCast] at hj ⊢
      have hcj := canCut_of hp hjj
      obtain ⟨pj, hpj⟩ : ∃ pj, ps[j]? = some pj := ⟨_, List.getElem?_eq_getElem (by omega)⟩
      have hgj : ps.getD j [] = pj := by rw [List.getD_eq_getElem?_getD, hpj]; rfl
      have hpjF := hfi pj (List.mem_of_getElem? hpj)
      rw [hgj]
      have hstep : kidsTo t x j (i + 1) = kidsTo t x j i + X := by rw [kidsTo, hp]; simp only [if_pos hjj]; rw [hX2]
      have hsame : ∀ q, q ≠ j → kidsTo t x q (i + 1) = kidsTo t x q i := fun q hq => by rw [kidsTo, hp]; simp only; rw [if_neg (by omega)]
      obtain ⟨pp, hpp⟩ : ∃ pp, t[j]? = some pp := ⟨_, List.getElem?_eq_getElem (by omega)⟩
      have hlo := hx.p.l j pp hpp hcj
      have hokj := hT.ok j pp hpp
      have hxj := getD_bd hx.p.r j
      unfold lostOf at hlo
      have hki := kids_bd t hx.p.r j i
      have hmo := kids_mono (t := t) hx.p.r j (k := i + 1) (t.length - (i + 1))
      rw [show i + 1 + (t.length - (i + 1)) = t.length by omega] at hmo
      have hpo := hpot j (by omega) hcj
      rw [hgj] at hpo
      obtain ⟨r, hrr⟩ : ∃ r, restN t x j (i + 1) = r := ⟨_, rfl⟩
      have hr1 : (r : Int) = kidsTo t x j t.length - kidsTo t x j (i + 1) := by rw [← hrr, restN]; omega
      have hr2 : restN t x j i = r + X := by rw [restN]; omega
      rw [hrr] at hpo
      have hco : cat (ownL (cost i) base) X = cat base X + cost i X := cat_some hox
      have h3 := conv_le (c := pj) (d := ownL (cost i) base) (n := r + X) (r := r) (by omega) hpo (by rw [Nat.add_sub_cancel_left, hco]; unfold far; omega) 31 (by omega)
      rw [Nat.add_sub_cancel_left, hco] at h3
      have hpb := cat_fin hpjF r
      refine ⟨_, _, rfl, fun q hq hcq => ?_, ?_⟩
      · by_cases hqj : q = j
        · subst hqj
          rw [List.getD_eq_getElem?_getD, List.getElem?_set_self (by omega), Option.getD_some, hr2, cat_plus _ _ (by omega)]
          unfold far at *
          omega
        · have := hpot q (by omega) hcq
          rw [List.getD_eq_getElem?_getD, List.getElem?_set_ne (by omega), ← List.getD_eq_getElem?_getD]
          unfold restN at this ⊢
          rwa [hsame q hqj] at this
      · have hle : sumF (potF t x (ps.set j (plusL pj (ownL (cost i) base))) i) i ≤ sumF (fun q => if q = j then potF t x ps (i + 1) q + (cat base X + cost i X) else potF t x ps (i + 1) q) i := by
          refine sumF_le i fun q hq => ?_
          by_cases hqj : q = j
          · subst hqj
            rw [if_pos rfl]
            unfold potF
            rw [if_pos hcj, if_pos hcj, hgj, hrr, List.getD_eq_getElem?_getD, List.getElem?_set_self (by omega), Option.getD_some, hr2, cat_plus _ _ (by omega)]
            exact h3
          · rw [if_neg hqj]
            unfold potF restN
            rw [hsame q hqj, List.getD_eq_getElem?_getD, List.getElem?_set_ne (by omega), ← List.getD_eq_getElem?_getD]
            exact Int.le_refl _
        rw [sumF_upd i hj] at hle
        omega
    · rename_i hof
      have hof' : p.of = -1 := by omega
      have hmin := minL_le hox
      have hsame : ∀ q : Nat, kidsTo t x q (i + 1) = kidsTo t x q i := fun q => by rw [kidsTo, hp]; simp only; rw [if_neg (by omega)]
      rw [if_neg (by unfold far; omega)]
      refine ⟨_, _, rfl, fun q hq hcq => ?_, ?_⟩
      · have := hpot q (by omega) hcq
        unfold restN at this ⊢
        rwa [hsame q] at this
      · rw [sumF_congr (f := potF t x ps i) (g := potF t x ps (i + 1)) i (fun q hq => by unfold potF restN; rw [hsame q])]
        omega
theorem least_le {t : List CP} (hT : TOK t) {x : List Int} (hx : Truth t x) {cost : Nat → Nat → Int} (hc : ∀ i v, cost i v = far ∨ (-3000 ≤ cost i v ∧ cost i v ≤ 3000)) (hfin : ∀ i, i < t.length → cost i (x.getD i 0).toNat < far) :
    leastF t cost ≤ sumF (fun i => cost i (x.getD i 0).toNat) t.length ∧ leastF t cost < far := by
  obtain ⟨ps, all, hr, -, hs⟩ := run_le hT hx hc hfin t.length (Nat.le_refl _)
  have hb := run_fin hc t.length ps all hT.n hr
  have hn := hT.n
  unfold leastF
  rw [hr]
  rw [Nat.sub_self] at hs
  simp only [sumF] at hs ⊢
  unfold far
  omega
end Go.Proofs.YtmbcpmnigggbaabGreat.Cu
namespace Go.Proofs.YtmbcpmnigggbaabGreat.Cu
/-- What all parts of a truth come to, each of which has so many for each pound. -/
def sumE (each : Nat → Int) (x : List Int) (n : Nat) : Int := sumF (fun i => each i * x.getD i 0) n
theorem truthC_truth {t : List CP} {x : List Int} (hx : Truth t x) (cost : Nat → Nat → Int) {i : Nat} (hi : i < t.length) : truthC t cost i (x.getD i 0).toNat = cost i (x.getD i 0).toNat := by
  obtain ⟨p, hp⟩ : ∃ p, t[i]? = some p := ⟨_, List.getElem?_eq_getElem hi⟩
  have h1 := hx.w i p hp
  have h2 := getD_bd hx.p.r i
  rw [truthC_at hp]
  unfold pcost
  rw [if_pos (by omega)]
theorem low_facts {t : List CP} (hT : TOK t) {x : List Int} (hx : Truth t x) {each : Nat → Int} (he : ∀ i, 0 ≤ each i ∧ each i ≤ 99) : 0 ≤ lowF t each ∧ lowF t each ≤ sumE each x t.length ∧ lowF t each < far := by
  have hf := far_pos
  have hb : ∀ i, 0 ≤ each i * x.getD i 0 ∧ each i * x.getD i 0 ≤ 2970 := fun i => by
    have h2 := getD_bd hx.p.r i
    have := mul_bd (k := each i) (v := (x.getD i 0).toNat) (he i) (by omega)
    rwa [show (((x.getD i 0).toNat : Nat) : Int) = x.getD i 0 by omega] at this
  have hX : ∀ i, (((x.getD i 0).toNat : Nat) : Int) = x.getD i 0 := fun i => by have := getD_bd hx.p.r i; omega
  have h1 := least_le hT hx (low_fin hT he) (fun i hi => by rw [truthC_truth hx _ hi]; have := hb i; simp only [hX]; unfold far; omega)
  have h2 := least_ge hT (cost := truthC t fun i v => each i * (v : Int)) (lo := fun _ => 0) (fun _ => Int.le_refl _) (fun i v => by
    unfold truthC
    split
    · omega
    · unfold pcost
      split
      · exact Int.mul_nonneg (he i).1 (by omega)
      · omega)
  have hz : ∀ n, sumF (fun _ => 0) n = 0 := fun n => by
    induction n with
    | zero => rfl
    | succ n ih => rw [sumF, ih]; rfl
  rw [hz] at h2
  refine ⟨h2, ?_, h1.2⟩
  have e : sumF (fun i => truthC t (fun i v => each i * (v : Int)) i (x.getD i 0).toNat) t.length = sumE each x t.length := sumF_congr _ (fun i hi => by rw [truthC_truth hx _ hi, hX])
  rw [← e]
  exact h1.1
theorem sumF_neg (f : Nat → Int) : ∀ n, sumF (fun i => -f i) n = -sumF f n
  | 0 => rfl
  | n + 1 => by rw [sumF, sumF, sumF_neg f n]; omega
theorem high_facts {t : List CP} (hT : TOK t) {x : List Int} (hx : Truth t x) {each : Nat → Int} (he : ∀ i, 0 ≤ each i ∧ each i ≤ 99) : sumE each x t.length ≤ highF t each ∧ highF t each ≤ sumF (fun i => each i * 30) t.length := by
  have hf := far_pos
  have hb : ∀ i, 0 ≤ each i * x.getD i 0 ∧ each i * x.getD i 0 ≤ 2970 := fun i => by
    have h2 := getD_bd hx.p.r i
    have := mul_bd (k := each i) (v := (x.getD i 0).toNat) (he i) (by omega)
    rwa [show (((x.getD i 0).toNat : Nat) : Int) = x.getD i 0 by omega] at this
  have hX : ∀ i, (((x.getD i 0).toNat : Nat) : Int) = x.getD i 0 := fun i => by have := getD_bd hx.p.r i; omega
  have h1 := least_le hT hx (high_fin hT he) (fun i hi => by rw [truthC_truth hx _ hi]; have := hb i; simp only [hX]; unfold far; omega)
  have h2 := least_ge hT (cost := truthC t fun i v => -(each i * (v : Int))) (lo := fun i => -(each i * 30)) (fun i => by have := (he i).1; omega) (fun i v => by
    have := (he i).1
    unfold truthC
    split
    · omega
    · rename_i p hp
      have hok := hT.ok i p hp
      unfold pcost
      split
      · have : each i * (v : Int) ≤ each i * 30 := Int.mul_le_mul_of_nonneg_left (by omega) this
        show -(each i * 30) ≤ -(each i * (v : Int))
        omega
      · omega)
  rw [sumF_neg] at h2
  have e : sumF (fun i => truthC t (fun i v => -(each i * (v : Int))) i (x.getD i 0).toNat) t.length = -sumE each x t.length := by
    unfold sumE
    rw [← sumF_neg]
    exact sumF_congr _ (fun i hi => by rw [truthC_truth hx _ hi, hX])
  have h3 := h1.1
  rw [e] at h3
  unfold highF
  omega
end Go.Proofs.YtmbcpmnigggbaabGreat.Cu
namespace Go.Proofs.YtmbcpmnigggbaabGreat.Cu
open Go.RowKit

/-! Cuts: isCut 32, the closure of pays 56, pays 33, Price 11. -/
structure CutOK (t : List CP) (c : List Int) : Prop where
  up : c.Pairwise (· < ·)
  ok : ∀ (k : Nat) a, c[k]? = some a → ∃ (j : Nat) (p : CP), a = (j : Int) ∧ t[j]? = some p ∧ canCut t j = true ∧ (p.of = -1 ∨ p.of ∈ c)
theorem CutOK.asc {t : List CP} {c : List Int} (h : CutOK t c) {k l : Nat} {a b : Int} (hkl : k < l) (ha : c[k]? = some a) (hb : c[l]? = some b) : a < b := by
  obtain ⟨h1, e1⟩ := List.getElem?_eq_some_iff.1 ha
  obtain ⟨h2, e2⟩ := List.getElem?_eq_some_iff.1 hb
  have := (List.pairwise_iff_getElem.1 h.up) k l h1 h2 hkl
  rwa [e1, e2] at this
theorem CutOK.pre {t : List CP} {c : List Int} (h : CutOK t c) (hT : TOK t) {k j : Nat} {p : CP} (hk : c[k]? = some (j : Int)) (hp : t[j]? = some p) (hm : p.of ∈ c) : p.of ∈ c.take k := by
  obtain ⟨m, hmm⟩ := List.getElem?_of_mem hm
  have h1 := (hT.ok j p hp).1.2
  have hmk : m < k := by
    refine Decidable.byContradiction fun hn => ?_
    by_cases e : m = k
    · subst e
      rw [hk] at hmm
      have := Option.some.inj hmm
      omega
    · have := h.asc (by omega : k < m) hk hmm
      omega
  exact List.mem_of_getElem? (show (c.take k)[m]? = some p.of by rw [List.getElem?_take_of_lt hmk]; exact hmm)
/-- A part that a cut sells. -/
def soldB (t : List CP) (c : List Int) (i : Nat) : Bool := match t[i]? with
  | some p => !decide ((i : Int) ∈ c) && (decide (p.of = -1) || decide (p.of ∈ c))
  | none => false
def eachP (t : List CP) (c : List Int) (i : Nat) : Int := match t[i]? with
  | some p => if soldB t c i = true then p.pe else 0
  | none => 0
theorem eachP_bd {t : List CP} (hT : TOK t) (c : List Int) (i : Nat) : 0 ≤ eachP t c i ∧ eachP t c i ≤ 99 := by
  unfold eachP
  split
  · rename_i p hp
    have := (hT.ok i p hp).2.2.2
    split <;> omega
  · omega
theorem ints_takeC {W : World} {B : Nat} {A : Option Addr} {l : List Int} (h : IntsAt W B A l) (k : Nat) : IntsAt W B A (l.take k) := by
  rcases h with rfl | ⟨b, off, e, hb, hc⟩
  · exact .inl (by simp)
  · refine .inr ⟨b, off, e, hb, fun i x hx => hc i x ?_⟩
    have hi := (List.getElem?_eq_some_iff.1 hx).1
    rw [List.length_take] at hi
    rwa [List.getElem?_take_of_lt (by omega)] at hx
set_option maxRecDepth 100000 in
set_option maxHeartbeats 4000000 in
theorem isCutY_any (A : Option Addr) (c0 : Nat) (t : List CP) (hOK : TOK t) (A2 : Option Addr) (c2 : Nat) (c : List Int) (hc : CutOK t c) (hcl : c.length ≤ 1000) (hc2 : c.length ≤ c2) (w : World) (hT : TableAt w w.heap.size A t) (hI : IntsAt w w.heap.size A2 c) :
    Calls Tryz.prog 32 #[.slice A t.length c0, .slice A2 c.length c2] w fun e w' => e = .returned (.bool true) ∧ Below w.heap.size w w' := by
  have HT := Lib.hid hT
  have HI := Lib.hid hI
  have HOK := Lib.hid hOK
  have HC := Lib.hid hc
  have B0 := Lib.hid (Below.refl w.heap.size w)
  clear hT hI hOK hc
  go_enter Tryz.func32, Tryz.ntmps32
  go_wp2
  go_loopw [9] (fun iv wr => ∃ k : Nat, k ≤ c.length ∧ iv = .int .i64 k ∧ Hid (Below w.heap.size w wr)) (fun iv _ => c.length - (intOf iv).toNat)
  case atStart => exact ⟨0, Nat.zero_le _, rfl, B0⟩
  case round =>
    clear B0
    obtain ⟨k, hk, rfl, B⟩ := hrel
    by_cases hlt : k < c.length
    · obtain ⟨a, ha⟩ : ∃ a, c[k]? = some a := ⟨_, List.getElem?_eq_getElem hlt⟩
      obtain ⟨j, p, rfl, hp, hcc, hof⟩ := HC.out.ok k a ha
      have hj := (List.getElem?_eq_some_iff.1 hp).1
      obtain ⟨b, off, rfl, hbb, d1, d2, d3, d4, d5, d6⟩ := (HT.out.lt B.out).at_ hp
      obtain ⟨b3, o3, rfl, hb3, e3⟩ := (ints_lt7 HI.out B.out).at_ ha
      have H53 := Lib.hid (fun y => isPartY_any (some ⟨b, off, none⟩) t.length c0 j HOK.out.n hj (extB wr y))
      have H54 := Lib.hid (fun y => canCut_any (some ⟨b, off, none⟩) c0 t (by have := HOK.out.n; omega) j (extB wr y) ((HT.out.lt B.out).lt (extB_below wr y)))
      rw [hcc] at H54
      have f1 := extB_cell d1
      have HPRE := Lib.hid (fun hm => HC.out.pre HOK.out ha hp hm)
      have hjl : (j : Int) < (t.length : Int) := by omega
      have HPV := Lib.hid (fun (m : Nat) (hm : k = m + 1) => show ∃ v, c[m]? = some v ∧ v < (j : Int) from by
        obtain ⟨v, hv⟩ : ∃ v, c[m]? = some v := ⟨_, List.getElem?_eq_getElem (by omega)⟩
        exact ⟨v, hv, HC.out.asc (by omega) hv ha⟩)
      obtain ⟨of, wl, wh, sl, sh, pe⟩ := p
      simp only at f1 hof HPRE d1
      clear hp hcc d2 d3 d4 d5 d6
      have key : ∀ (P : Prop), (of = -1 → P) → (¬ of = -1 → of ∈ c.take k → P) → P := fun P g1 g2 => by
        by_cases e : of = -1
        · exact g1 e
        · exact g2 e (HPRE.out (hof.resolve_left e))
      rcases Nat.eq_zero_or_pos k with hk0 | hkp
      · clear HPV
        have dk : decide (0 < k) = false := decide_eq_false (by omega)
        clear dk
        have dk : decide (0 < k) = false := decide_eq_false (by omega)
        clear hk0
        refine key _ (fun hof1 => ?_) (fun hof1 hin => ?_)
        · subst hof1
          clear key hof HPRE
          go_wp2_with (fail)
          refine wp_region_ext (by kernel_rfl) (by kernel_rfl) ?_
          repeat (go_big_quiet_step (first | (go_at_call 53; exact ext_same (H53.out _)) | (go_at_call 54; exact ext_call (H54.out _))))
          refine wpQuiet_nil ?_
          rintro _ ⟨x1, rfl⟩
          have HB6 := Lib.hid (hb0to B.out (extB_below wr x1))
          obtain ⟨W6, hW6⟩ : ∃ W6, extB wr x1 = W6 := ⟨_, rfl⟩
          rw [hW6] at HB6 ⊢
          clear hW6 f1 d1
          go_wp2_with (fail)
          go_roundw
          case rel => exact ⟨k + 1, by omega, by go_num, HB6⟩
          case measure => simp [intOf]; omega
        · clear key hof HPRE
          have HQ := Lib.hid (fun y => show Calls Tryz.prog 55 #[.slice (some ⟨b3, o3, none⟩) k c2, .int .i64 of] (extB wr y) fun e w' => e = .returned (.bool true) ∧ extB wr y = w' from by
            have := contains_any (c.take k) of (some ⟨b3, o3, none⟩) c2 (by rw [List.length_take]; omega) (extB wr y) (ints_takeC (ints_lt7 (ints_lt7 HI.out B.out) (extB_below wr y)) k)
            rw [List.length_take, Nat.min_eq_left (by omega)] at this
            rwa [decide_eq_true hin] at this)
          have g1 : (of != -1) = true := bne_iff_ne.2 hof1
          clear hin
          go_wp2_with (fail)
          refine wp_region_ext (by kernel_rfl) (by kernel_rfl) ?_
          repeat (go_big_quiet_step (first | (go_at_call 53; exact ext_same (H53.out _)) | (go_at_call 54; exact ext_call (H54.out _)) | (go_at_call 55; exact ext_same (HQ.out _))))
          refine wpQuiet_nil ?_
          rintro _ ⟨x1, rfl⟩
          have HB6 := Lib.hid (hb0to B.out (extB_below wr x1))
          obtain ⟨W6, hW6⟩ : ∃ W6, extB wr x1 = W6 := ⟨_, rfl⟩
          rw [hW6] at HB6 ⊢
          clear hW6 f1 d1
          go_wp2_with (fail)
          go_roundw
          case rel => exact ⟨k + 1, by omega, by go_num, HB6⟩
          case measure => simp [intOf]; omega
      · obtain ⟨m, hkm⟩ : ∃ m, k = m + 1 := ⟨k - 1, by omega⟩
        obtain ⟨v, hv, hvj⟩ := HPV.out m hkm
        clear HPV
        obtain ⟨b5, o5, eA, _, e5⟩ := (ints_lt7 HI.out B.out).at_ hv
        cases eA
        have e5' := extB_cell e5
        have dk : decide (0 < k) = true := decide_eq_true (by omega)
        have dk' : (0 : Int) < (k : Int) := by omega
        have hml : m < c.length := by omega
        have hw1 : IntKind.i64.wrap ((k : Int) - 1) = (m : Int) := (IntWalk.i64_in _ (by omega)).trans (by omega)
        have dv : decide ((j : Int) ≤ v) = false := decide_eq_false (by omega)
        clear e5 hv hkm hkp dk'
        refine key _ (fun hof1 => ?_) (fun hof1 hin => ?_)
        · subst hof1
          clear key hof HPRE
          go_wp2_with (fail)
          refine wp_region_ext (by kernel_rfl) (by kernel_rfl) ?_
          repeat (go_big_quiet_step (first | (go_at_call 53; exact ext_same (H53.out _)) | (go_at_call 54; exact ext_call (H54.out _))))
          refine wpQuiet_nil ?_
          rintro _ ⟨x1, rfl⟩
          have HB6 := Lib.hid (hb0to B.out (extB_below wr x1))
          obtain ⟨W6, hW6⟩ : ∃ W6, extB wr x1 = W6 := ⟨_, rfl⟩
          rw [hW6] at HB6 ⊢
          clear hW6 f1 d1
          go_wp2_with (fail)
          go_roundw
          case rel => exact ⟨k + 1, by omega, by go_num, HB6⟩
          case measure => simp [intOf]; omega
        · clear key hof HPRE
          have HQ := Lib.hid (fun y => show Calls Tryz.prog 55 #[.slice (some ⟨b3, o3, none⟩) k c2, .int .i64 of] (extB wr y) fun e w' => e = .returned (.bool true) ∧ extB wr y = w' from by
            have := contains_any (c.take k) of (some ⟨b3, o3, none⟩) c2 (by rw [List.length_take]; omega) (extB wr y) (ints_takeC (ints_lt7 (ints_lt7 HI.out B.out) (extB_below wr y)) k)
            rw [List.length_take, Nat.min_eq_left (by omega)] at this
            rwa [decide_eq_true hin] at this)
          have g1 : (of != -1) = true := bne_iff_ne.2 hof1
          clear hin
          go_wp2_with (fail)
          refine wp_region_ext (by kernel_rfl) (by kernel_rfl) ?_
          repeat (go_big_quiet_step (first | (go_at_call 53; exact ext_same (H53.out _)) | (go_at_call 54; exact ext_call (H54.out _)) | (go_at_call 55; exact ext_same (HQ.out _))))
          refine wpQuiet_nil ?_
          rintro _ ⟨x1, rfl⟩
          have HB6 := Lib.hid (hb0to B.out (extB_below wr x1))
          obtain ⟨W6, hW6⟩ : ∃ W6, extB wr x1 = W6 := ⟨_, rfl⟩
          rw [hW6] at HB6 ⊢
          clear hW6 f1 d1
          go_wp2_with (fail)
          go_roundw
          case rel => exact ⟨k + 1, by omega, by go_num, HB6⟩
          case measure => simp [intOf]; omega
    · obtain rfl : k = c.length := by omega
      go_wp2
      go_ret
      exact ⟨rfl, B.out⟩
end Go.Proofs.YtmbcpmnigggbaabGreat.Cu
namespace Go.Proofs.YtmbcpmnigggbaabGreat.Cu
open Go.RowKit

/-! The closure of pays 56, pays 33, Price 11. -/
theorem eachP_sold {t : List CP} {c : List Int} {i : Nat} {p : CP} (hp : t[i]? = some p) : eachP t c i = if ¬ (i : Int) ∈ c ∧ (p.of = -1 ∨ p.of ∈ c) then p.pe else 0 := by
  unfold eachP soldB
  rw [hp]
  simp only [Bool.and_eq_true, Bool.not_eq_true', decide_eq_false_iff_not, Bool.or_eq_true, decide_eq_true_eq]
set_option maxRecDepth 100000 in
set_option maxHeartbeats 4000000 in
theorem pays1_any (A : Option Addr) (c0 : Nat) (t : List CP) (hl : t.length ≤ 8) (A2 : Option Addr) (c2 : Nat) (c : List Int) (hcl : c.length ≤ 1000) (b1 b2 i : Nat) (hi : i < t.length) (w : World)
    (h1 : w.cell? ⟨b1, 0, none⟩ = some (.slice A t.length c0)) (h2 : w.cell? ⟨b2, 0, none⟩ = some (.slice A2 c.length c2)) (hT : TableAt w w.heap.size A t) (hI : IntsAt w w.heap.size A2 c) :
    Calls Tryz.prog 56 #[.int .i64 i, .pointer (some ⟨b1, 0, none⟩), .pointer (some ⟨b2, 0, none⟩)] w fun e w' => e = .returned (.int .i64 (eachP t c i)) ∧ Below w.heap.size w w' := by
  obtain ⟨p, hp⟩ : ∃ p, t[i]? = some p := ⟨_, List.getElem?_eq_getElem hi⟩
  rw [eachP_sold hp]
  obtain ⟨r, hr⟩ : ∃ r, (if ¬ (i : Int) ∈ c ∧ (p.of = -1 ∨ p.of ∈ c) then p.pe else 0) = r := ⟨_, rfl⟩
  rw [hr]
  obtain ⟨b, off, rfl, hbb, d1, d2, d3, d4, d5, d6⟩ := hT.at_ hp
  obtain ⟨of, wl, wh, sl, sh, pe⟩ := p
  simp only at d1 d2 d3 d4 d5 d6 hr
  have HR := Lib.hid hr
  clear hr
  have hb := al_below w (.cells #[.int .i64 of, .int .i64 wl, .int .i64 wh, .int .i64 sl, .int .i64 sh, .int .i64 pe] 34)
  have e2 := below_cell hb h2
  have HB := Lib.hid hb
  have HQ := Lib.hid (fun (x : Int) => contains_any c x A2 c2 hcl (w.alloc (.cells #[.int .i64 of, .int .i64 wl, .int .i64 wh, .int .i64 sl, .int .i64 sh, .int .i64 pe] 34)) (ints_lt7 hI hb))
  clear hT hI hb hp
  have T1 := Lib.hid True.intro
  by_cases m1 : (i : Int) ∈ c
  · have H1 := Lib.hid (HQ.out (i : Int))
    rw [decide_eq_true m1] at H1
    obtain rfl : r = 0 := by rw [← HR.out, if_neg (fun h => h.1 m1)]
    clear HR
    go_enter Tryz.func56, Tryz.ntmps56
    go_wp2_with (go_at_call 55; refine H1.out.mono ?_; rintro e w1 ⟨rfl, rfl⟩)
    go_ret
    exact ⟨rfl, HB.out⟩
  · have H1 := Lib.hid (HQ.out (i : Int))
    rw [decide_eq_false m1] at H1
    by_cases m2 : of = -1
    · subst m2
      clear HQ
      obtain rfl : r = pe := by rw [← HR.out, if_pos ⟨m1, .inl rfl⟩]
      clear HR
      go_enter Tryz.func56, Tryz.ntmps56
      go_wp2_with (go_at_call 55; refine H1.out.mono ?_; rintro e w1 ⟨rfl, rfl⟩)
      go_ret
      exact ⟨rfl, HB.out⟩
    · have g1 : (of != -1) = true := bne_iff_ne.2 m2
      have g2 : decide (of = -1) = false := decide_eq_false m2
      have H2 := Lib.hid (HQ.out of)
      clear HQ
      by_cases m3 : of ∈ c
      · rw [decide_eq_true m3] at H2
        obtain rfl : r = pe := by rw [← HR.out, if_pos ⟨m1, .inr m3⟩]
        clear HR
        go_enter Tryz.func56, Tryz.ntmps56
        go_wp2_with (first
          | (have t9 := T2.out; clear T2 t9; go_at_call 55; refine H2.out.mono ?_; rintro e w1 ⟨rfl, rfl⟩)
          | (have t9 := T1.out; clear T1 t9; go_at_call 55; refine H1.out.mono ?_; rintro e w1 ⟨rfl, rfl⟩; have T2 := Lib.hid True.intro))
        go_ret
        exact ⟨rfl, HB.out⟩
      · rw [decide_eq_false m3] at H2
        obtain rfl : r = 0 := by rw [← HR.out, if_neg (fun h => h.2.elim m2 m3)]
        clear HR
        go_enter Tryz.func56, Tryz.ntmps56
        go_wp2_with (first
          | (have t9 := T2.out; clear T2 t9; go_at_call 55; refine H2.out.mono ?_; rintro e w1 ⟨rfl, rfl⟩)
          | (have t9 := T1.out; clear T1 t9; go_at_call 55; refine H1.out.mono ?_; rintro e w1 ⟨rfl, rfl⟩; have T2 := Lib.hid True.intro))
        go_ret
        exact ⟨rfl, HB.out⟩
theorem pays_any (A : Option Addr) (c0 n : Nat) (A2 : Option Addr) (c2 m : Nat) (w : World) : Calls Tryz.prog 33 #[.slice A n c0, .slice A2 m c2] w fun e w' => e = .returned (.func (.func 56) #[] #[.pointer (some ⟨w.heap.size, 0, none⟩), .pointer (some ⟨w.heap.size + 1, 0, none⟩)]) ∧ w' = (w.alloc (.cells #[.slice A n c0] 72)).alloc (.cells #[.slice A2 m c2] 23) := by
  go_enter Tryz.func33, Tryz.ntmps33
  go_wp2
  go_ret
  exact ⟨rfl, rfl⟩
set_option maxRecDepth 100000 in
set_option maxHeartbeats 4000000 in
theorem price_any (A : Option Addr) (c0 : Nat) (t : List CP) (hOK : TOK t) (A2 : Option Addr) (c2 : Nat) (c : List Int) (hc : CutOK t c) (hcl : c.length ≤ 1000) (hc2 : c.length ≤ c2) (w : World) (hT : TableAt w w.heap.size A t) (hI : IntsAt w w.heap.size A2 c) (hlow : lowF t (eachP t c) < far) :
    Calls Tryz.prog 11 #[.slice A t.length c0, .slice A2 c.length c2] w fun e w' => e = .returned (.tuple #[.agg #[.int .i64 (lowF t (eachP t c)), .int .i64 (highF t (eachP t c))], .int .i64 0]) ∧ Below w.heap.size w w' := by
  have hb := al_below w (.cells #[.int .i64 0, .int .i64 0] 32)
  have q4 := heap_new1 w (.cells #[.int .i64 0, .int .i64 0] 32)
  obtain ⟨W0, hW0⟩ : ∃ W0, w.alloc (.cells #[.int .i64 0, .int .i64 0] 32) = W0 := ⟨_, rfl⟩
  rw [hW0] at hb q4
  have HT := Lib.hid (hT.lt hb)
  have HI := Lib.hid (ints_lt7 hI hb)
  have HB := Lib.hid hb
  have HW0 := Lib.hid hW0
  have HQ4 := Lib.hid q4
  have HASK := Lib.hid (fun W hT => askY_any A c0 t hOK W hT)
  have HCUT := Lib.hid (fun W hT hI => isCutY_any A c0 t hOK A2 c2 c hc hcl hc2 W hT hI)
  have HPAY := Lib.hid (fun W => pays_any A c0 t.length A2 c2 c.length W)
  have HSPAN := Lib.hid (fun (b1 b2 : Nat) (W : World) (hT : TableAt W W.heap.size A t) (hI : IntsAt W W.heap.size A2 c) (q1 : W.cell? ⟨b1, 0, none⟩ = some (.slice A t.length c0)) (q2 : W.cell? ⟨b2, 0, none⟩ = some (.slice A2 c.length c2)) => span_any A c0 t hOK 56 #[.pointer (some ⟨b1, 0, none⟩), .pointer (some ⟨b2, 0, none⟩)] (eachP t c) (eachP_bd hOK c) W hT (enters_of Tryz.func56 (by kernel_rfl) rfl) (fun j X hj hX => (pays1_any A c0 t hOK.n A2 c2 c hcl b1 b2 j hj X (below_cell hX q1) (below_cell hX q2) (hT.lt hX) (ints_lt7 hI hX)).mono fun _ _ h => h) hlow)
  obtain ⟨lo, hlo⟩ : ∃ lo, lowF t (eachP t c) = lo := ⟨_, rfl⟩
  obtain ⟨hi, hhi⟩ : ∃ hi, highF t (eachP t c) = hi := ⟨_, rfl⟩
  rw [hlo, hhi] at HSPAN
  rw [hlo, hhi]
  clear hlo hhi hT hI hb hW0 q4 hlow hOK hc hcl hc2
  go_enter Tryz.func11, Tryz.ntmps11
  go_upto_region 1 with (fail)
  have e := HW0.out
  rw [e]
  clear e HW0
  go_wp2_with (first
    | (go_at_call 30; refine (HASK.out _ HT.out).mono ?_; clear HASK; rintro e w1 ⟨rfl, hb⟩; have HT1 := Lib.hid (HT.out.lt hb); have HI1 := Lib.hid (ints_lt7 HI.out hb); have HB1 := Lib.hid (hb0to HB.out hb); have HQ1 := Lib.hid ((hb.block _ (heap_lt HQ4.out)).trans HQ4.out); clear hb)
    | (go_at_call 32; refine (HCUT.out _ HT1.out HI1.out).mono ?_; clear HCUT; rintro e w2 ⟨rfl, hb⟩; have HT2 := Lib.hid (HT1.out.lt hb); have HI2 := Lib.hid (ints_lt7 HI1.out hb); have HB2 := Lib.hid (hb0to HB1.out hb); have HQ2 := Lib.hid ((hb.block _ (heap_lt HQ1.out)).trans HQ1.out); clear hb)
    | (go_at_call 33; refine (HPAY.out _).mono ?_; clear HPAY; rintro e w3 ⟨rfl, hw3⟩; have hb := hb0to (al_below w2 (.cells #[.slice A t.length c0] 72)) (al_below _ (.cells #[.slice A2 c.length c2] 23)); have q1 := cell_of_heap (o := 0) (heap_keep (o' := .cells #[.slice A2 c.length c2] 23) (heap_new1 w2 (.cells #[.slice A t.length c0] 72))) rfl; have q2 := cell_of_heap (o := 0) (heap_new2 w2 (.cells #[.slice A t.length c0] 72) (.cells #[.slice A2 c.length c2] 23)) rfl; rw [← hw3] at hb q1 q2; have HT3 := Lib.hid (HT2.out.lt hb); have HI3 := Lib.hid (ints_lt7 HI2.out hb); have HB3 := Lib.hid (hb0to HB2.out hb); have HQ3 := Lib.hid ((hb.block _ (heap_lt HQ2.out)).trans HQ2.out); have HQA := Lib.hid q1; have HQB := Lib.hid q2; clear hb q1 q2 hw3)
    | (go_at_call 31; refine (HSPAN.out _ _ _ HT3.out HI3.out HQA.out HQB.out).mono ?_; clear HSPAN; rintro e w5 ⟨rfl, hb5⟩; have HB6 := Lib.hid (hb0to HB3.out hb5); have HQ5 := Lib.hid ((hb5.block _ (heap_lt HQ3.out)).trans HQ3.out); have g1 := cell_of_heap (o := 0) HQ5.out rfl; have g2 := cell_of_heap (o := 1) HQ5.out rfl; have g3 := frozen_of_heap HQ5.out; clear hb5))
  clear g1 g2 g3
  have hk5 := heap_set (o := 1) (.int .i64 hi) (heap_set (o := 0) (.int .i64 lo) HQ5.out)
  have hb9 := (HB6.out.setCell (p := ⟨w.heap.size, 0, none⟩) (Nat.le_refl _) (.int .i64 lo)).setCell (p := ⟨w.heap.size, 1, none⟩) (Nat.le_refl _) (.int .i64 hi)
  obtain ⟨W9, hW9⟩ : ∃ W9, (w5.setCell ⟨w.heap.size, 0, none⟩ (.int .i64 lo)).setCell ⟨w.heap.size, 1, none⟩ (.int .i64 hi) = W9 := ⟨_, rfl⟩
  rw [hW9] at hk5 hb9 ⊢
  clear hW9
  (try simp only [Exit.inBlock, Exit.then])
  refine bodyPost_ret (results_ct rfl rfl rfl (load35 hk5)) rfl ?_
  exact ⟨rfl, hb9⟩
end Go.Proofs.YtmbcpmnigggbaabGreat.Cu
namespace Go.Proofs.YtmbcpmnigggbaabGreat.Cu
open Go.RowKit
attribute [local go_sem] Oper.semAt_some
theorem load51 {W : World} {b : Nat} {x0 x1 x2 x3 x4 x5 : Int} (h : W.heap[b]? = some (.cells #[.int .i64 x0, .int .i64 x1, .int .i64 x2, .int .i64 x3, .int .i64 x4, .int .i64 x5] 34 (0, 0))) : (Instr.loadAt 34 (.pointer (some ⟨b, 0, none⟩))).run Tryz.prog W = .ok (.agg #[.int .i64 x0, .int .i64 x1, .int .i64 x2, .int .i64 x3, .int .i64 x4, .int .i64 x5]) W :=
  run_loadAt_mid W b 0 34 [.int .i64 x0, .int .i64 x1, .int .i64 x2, .int .i64 x3, .int .i64 x4, .int .i64 x5] _ (fun j v hj => cell_of_heap (o := 0 + j) h (by rw [Nat.zero_add, List.getElem?_toArray]; exact hj)) Tryz.underlying34 rfl (by kernel_rfl)
theorem info51 : (Tryz.prog.info? 34).map (fun i => (i.zero, i.size, i.bytes)) = some (some (.agg #[.int .i64 0, .int .i64 0, .int .i64 0, .int .i64 0, .int .i64 0, .int .i64 0]), 6, 48) := by kernel_rfl
theorem results_c {P : Program} {fn : Func} {t1 : Tmp} {ty1 : TypeId} (h : fn.results = #[.cell t1 ty1]) {tmps : Array Value} {w : World} {v1 : Value} {p1 : Addr} (ht1 : tmps.getD t1 undef = .pointer (some p1))
    (hl1 : (Instr.loadAt ty1 (.pointer (some p1))).run P w = .ok v1 w) : (results fn tmps).run P w = .ok v1 w := by
  have a1 : tmps[t1]?.getD undef = .pointer (some p1) := by simpa using ht1
  simp [Instr.loadAt, Instr.sureAddr, asAddr] at hl1
  simp [results, h, a1, Instr.loadAt, Instr.sureAddr, asAddr, hl1]
set_option maxRecDepth 100000 in
set_option maxHeartbeats 4000000 in
theorem part_any (of lo hi le mo pe : Int) (w : World) : Calls Tryz.prog 44 #[.int .i64 of, .int .i64 lo, .int .i64 hi, .int .i64 le, .int .i64 mo, .int .i64 pe] w fun e w' => e = .returned (.agg #[.int .i64 of, .int .i64 lo, .int .i64 hi, .int .i64 le, .int .i64 mo, .int .i64 pe]) ∧ Below w.heap.size w w' := by
  go_enter Tryz.func44, Tryz.ntmps44
  go_wp2
  (try simp only [Exit.inBlock, Exit.then])
  refine bodyPost_ret (results_c rfl rfl (load51 (heap_new1 w _))) rfl ?_
  exact ⟨rfl, al_below _ _⟩
set_option maxRecDepth 100000 in
set_option maxHeartbeats 4000000 in
theorem example7_any (w : World) : Calls Tryz.prog 22 #[] w fun e w' => (∃ b u, e = .returned (.tuple #[.slice (some ⟨b, 0, none⟩) 5 5, u]) ∧ TableAt w' w'.heap.size (some ⟨b, 0, none⟩) exT) ∧ Below w.heap.size w w' := by
  have B := Lib.hid (Below.refl w.heap.size w)
  go_enter Tryz.func22, Tryz.ntmps22
  go_upto_region 2 with (go_at_call 44; refine (part_any _ _ _ _ _ _ _).mono ?_; rintro e w1 ⟨rfl, hb⟩; have BN := Lib.hid (hb0to B.out hb); clear B hb; have B := BN; clear BN)
  have hX := heap_new1 w1 (.cells #[.int .i64 (-1), .int .i64 20, .int .i64 24, .int .i64 1, .int .i64 3, .int .i64 2, .int .i64 0, .int .i64 8, .int .i64 12, .int .i64 0, .int .i64 2, .int .i64 3, .int .i64 0, .int .i64 9, .int .i64 10, .int .i64 0, .int .i64 0, .int .i64 4, .int .i64 1, .int .i64 6, .int .i64 7, .int .i64 0, .int .i64 0, .int .i64 6, .int .i64 1, .int .i64 0, .int .i64 30, .int .i64 0, .int .i64 0, .int .i64 1] 34)
  have hb2 := hb0to B.out (al_below w1 (.cells #[.int .i64 (-1), .int .i64 20, .int .i64 24, .int .i64 1, .int .i64 3, .int .i64 2, .int .i64 0, .int .i64 8, .int .i64 12, .int .i64 0, .int .i64 2, .int .i64 3, .int .i64 0, .int .i64 9, .int .i64 10, .int .i64 0, .int .i64 0, .int .i64 4, .int .i64 1, .int .i64 6, .int .i64 7, .int .i64 0, .int .i64 0, .int .i64 6, .int .i64 1, .int .i64 0, .int .i64 30, .int .i64 0, .int .i64 0, .int .i64 1] 34))
  obtain ⟨b, hbe⟩ : ∃ b, w1.heap.size = b := ⟨_, rfl⟩
  obtain ⟨W2, hW2⟩ : ∃ W2, w1.alloc (.cells #[.int .i64 (-1), .int .i64 20, .int .i64 24, .int .i64 1, .int .i64 3, .int .i64 2, .int .i64 0, .int .i64 8, .int .i64 12, .int .i64 0, .int .i64 2, .int .i64 3, .int .i64 0, .int .i64 9, .int .i64 10, .int .i64 0, .int .i64 0, .int .i64 4, .int .i64 1, .int .i64 6, .int .i64 7, .int .i64 0, .int .i64 0, .int .i64 6, .int .i64 1, .int .i64 0, .int .i64 30, .int .i64 0, .int .i64 0, .int .i64 1] 34) = W2 := ⟨_, rfl⟩
  rw [hW2, hbe] at hX
  rw [hW2] at hb2 ⊢
  rw [hbe]
  have HX := Lib.hid hX
  have HB2 := Lib.hid hb2
  have hbl := heap_lt hX
  clear hX hb2 hW2 hbe B
  obtain ⟨i0, hi, hz0, hz1, hz2⟩ := info_parts info51
  have HOWN := Lib.hid (show (W2.alloc (.cells #[] 34)).ownsRow W2.heap.size 34 6 (.slice (some ⟨W2.heap.size, 0, none⟩) 0 0) 0 [] from World.ownsRow_made W2 #[] 0 (Nat.le_refl _) (by unfold maxLen; omega) rfl)
  go_upto_region 3 with (refine wpList_append_own _ rfl (.tmp 8) (.tmp 9) 22 rfl W2.heap.size 34 i0 (.agg #[.int .i64 0, .int .i64 0, .int .i64 0, .int .i64 0, .int .i64 0, .int .i64 0]) 6 48 Tryz.underlying22 hi hz0 hz1 hz2 rfl (by decide) (.slice (some ⟨W2.heap.size, 0, none⟩) 0 0) 0 [] rfl HOWN.out ⟨b, 0, none⟩ 5 5 [.int .i64 (-1), .int .i64 20, .int .i64 24, .int .i64 1, .int .i64 3, .int .i64 2, .int .i64 0, .int .i64 8, .int .i64 12, .int .i64 0, .int .i64 2, .int .i64 3, .int .i64 0, .int .i64 9, .int .i64 10, .int .i64 0, .int .i64 0, .int .i64 4, .int .i64 1, .int .i64 6, .int .i64 7, .int .i64 0, .int .i64 0, .int .i64 6, .int .i64 1, .int .i64 0, .int .i64 30, .int .i64 0, .int .i64 0, .int .i64 1] rfl rfl ?_ (by simp [Value.oneCell']) (by unfold maxLen; omega) (by omega) (by simp) ?_)
  · intro j u hj
    rw [addr_add, Nat.zero_add]
    exact cell_of_heap (heap_keep HX.out) (by rw [List.getElem?_toArray]; exact hj)
  intro v' w3 h2 h3 _
  have hb3 := own_below HOWN.out h3 (by simp) (Nat.le_refl _)
  rcases h2.2 with ⟨-, h0⟩ | ⟨g, cap, cur, rfl, hgb, hg, hcap, -, hcs, hct⟩
  · cases h0
  have hcell : ∀ (j : Nat) (u : Value), ([.int .i64 (-1), .int .i64 20, .int .i64 24, .int .i64 1, .int .i64 3, .int .i64 2, .int .i64 0, .int .i64 8, .int .i64 12, .int .i64 0, .int .i64 2, .int .i64 3, .int .i64 0, .int .i64 9, .int .i64 10, .int .i64 0, .int .i64 0, .int .i64 4, .int .i64 1, .int .i64 6, .int .i64 7, .int .i64 0, .int .i64 0, .int .i64 6, .int .i64 1, .int .i64 0, .int .i64 30, .int .i64 0, .int .i64 0, .int .i64 1] : List Value)[j]? = some u → cur[j]? = some u := fun j u hj => by
    have hl := (List.getElem?_eq_some_iff.1 hj).1
    have e : cur.toList.take ((0 + 5) * 6) = [.int .i64 (-1), .int .i64 20, .int .i64 24, .int .i64 1, .int .i64 3, .int .i64 2, .int .i64 0, .int .i64 8, .int .i64 12, .int .i64 0, .int .i64 2, .int .i64 3, .int .i64 0, .int .i64 9, .int .i64 10, .int .i64 0, .int .i64 0, .int .i64 4, .int .i64 1, .int .i64 6, .int .i64 7, .int .i64 0, .int .i64 0, .int .i64 6, .int .i64 1, .int .i64 0, .int .i64 30, .int .i64 0, .int .i64 0, .int .i64 1] := hct
    rw [← e, List.getElem?_take_of_lt (by simp at hl; omega)] at hj
    rwa [Array.getElem?_toList] at hj
  have HCE := Lib.hid (show ∃ z0 z1 z2 z3 z4 z5, cur[6]? = some z0 ∧ cur[7]? = some z1 ∧ cur[8]? = some z2 ∧ cur[9]? = some z3 ∧ cur[10]? = some z4 ∧ cur[11]? = some z5 from ⟨_, _, _, _, _, _, hcell 6 _ rfl, hcell 7 _ rfl, hcell 8 _ rfl, hcell 9 _ rfl, hcell 10 _ rfl, hcell 11 _ rfl⟩)
  have hbW3 := hb0to HB2.out ((al_below W2 (.cells #[] 34)).trans (hb3.mono (Nat.le_refl _)))
  have hX3 := (((al_below W2 (.cells #[] 34)).trans hb3).block b hbl).trans HX.out
  have HG := Lib.hid hg
  have HX3 := Lib.hid hX3
  have HB3 := Lib.hid hbW3
  have hbg : b < g := by omega
  clear h2 h3 hb3 hg hcell hct hcs hbW3 hX3 HOWN hi hz0 hz1 hz2 hcap
  obtain ⟨z0, z1, z2, z3, z4, z5, e0, e1, e2, e3, e4, e5⟩ := HCE.out
  have g1 := cell_of_heap HG.out e0
  go_wp2_with (go_at_call 44; refine (part_any _ _ _ _ _ _ _).mono ?_; rintro e w4 ⟨rfl, hb4⟩; have HB4 := Lib.hid (hb0to HB3.out hb4); have HX4 := Lib.hid ((hb4.block b (heap_lt HX3.out)).trans HX3.out); have hg4 := (hb4.block g (heap_lt HG.out)).trans HG.out; have HG4 := Lib.hid hg4; have k0 := cell_of_heap hg4 e0; have k1 := cell_of_heap hg4 e1; have k2 := cell_of_heap hg4 e2; have k3 := cell_of_heap hg4 e3; have k4 := cell_of_heap hg4 e4; have k5 := cell_of_heap hg4 e5; have kf := frozen_of_heap hg4; clear hb4 hg4)
  have hK : KpB (fun k => k = g) w4.heap.size w4 ((((((w4.setCell ⟨g, 6, none⟩ (.int .i64 0)).setCell ⟨g, 7, none⟩ (.int .i64 0)).setCell ⟨g, 8, none⟩ (.int .i64 5)).setCell ⟨g, 9, none⟩ (.int .i64 0)).setCell ⟨g, 10, none⟩ (.int .i64 2)).setCell ⟨g, 11, none⟩ (.int .i64 3)) := ((((((KpB.refl (fun k => k = g) w4.heap.size w4).set 6 _ (.inl rfl)).set 7 _ (.inl rfl)).set 8 _ (.inl rfl)).set 9 _ (.inl rfl)).set 10 _ (.inl rfl)).set 11 _ (.inl rfl)
  obtain ⟨W9, hW9⟩ : ∃ W9, ((((((w4.setCell ⟨g, 6, none⟩ (.int .i64 0)).setCell ⟨g, 7, none⟩ (.int .i64 0)).setCell ⟨g, 8, none⟩ (.int .i64 5)).setCell ⟨g, 9, none⟩ (.int .i64 0)).setCell ⟨g, 10, none⟩ (.int .i64 2)).setCell ⟨g, 11, none⟩ (.int .i64 3)) = W9 := ⟨_, rfl⟩
  rw [hW9] at hK ⊢
  clear hW9 k0 k1 k2 k3 k4 k5 kf
  have hX9 := (hK.block b (heap_lt HX4.out) (by omega)).trans HX4.out
  have hb9 := HB4.out.trans (hK.belowOf HB4.out.size (fun k hk => by have := HB2.out.size; omega))
  go_ret2
  refine ⟨⟨b, _, rfl, .inr ⟨b, 0, rfl, heap_lt hX9, fun i p hp => ?_⟩⟩, hb9⟩
  have hi : i < 5 := (List.getElem?_eq_some_iff.1 hp).1
  match i, hi with
  | 0, _ => cases hp; exact ⟨cell_of_heap hX9 rfl, cell_of_heap hX9 rfl, cell_of_heap hX9 rfl, cell_of_heap hX9 rfl, cell_of_heap hX9 rfl, cell_of_heap hX9 rfl⟩
  | 1, _ => cases hp; exact ⟨cell_of_heap hX9 rfl, cell_of_heap hX9 rfl, cell_of_heap hX9 rfl, cell_of_heap hX9 rfl, cell_of_heap hX9 rfl, cell_of_heap hX9 rfl⟩
  | 2, _ => cases hp; exact ⟨cell_of_heap hX9 rfl, cell_of_heap hX9 rfl, cell_of_heap hX9 rfl, cell_of_heap hX9 rfl, cell_of_heap hX9 rfl, cell_of_heap hX9 rfl⟩
  | 3, _ => cases hp; exact ⟨cell_of_heap hX9 rfl, cell_of_heap hX9 rfl, cell_of_heap hX9 rfl, cell_of_heap hX9 rfl, cell_of_heap hX9 rfl, cell_of_heap hX9 rfl⟩
  | 4, _ => cases hp; exact ⟨cell_of_heap hX9 rfl, cell_of_heap hX9 rfl, cell_of_heap hX9 rfl, cell_of_heap hX9 rfl, cell_of_heap hX9 rfl, cell_of_heap hX9 rfl⟩

end Go.Proofs.YtmbcpmnigggbaabGreat.Cu
