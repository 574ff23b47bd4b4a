import Derived.Test.YtohoonbbjkefaaaE0
import Derived.Test.YtohoonbbjkefaaaA1
namespace Go.Proofs.Ytohoonbbjkefaaa
open Go.RowKit

theorem within_any (n lo hi : Int) (w : World) : Calls Try.prog 83 #[.int .i64 n, .int .i64 lo, .int .i64 hi] w fun e w' => e = .returned (.bool (inR n lo hi)) ∧ w = w' := by
  by_cases h : lo ≤ n <;> by_cases h2 : n ≤ hi
  all_goals
    have e : inR n lo hi = (decide (lo ≤ n) && decide (n ≤ hi)) := rfl
    have E := Lib.hid e
    clear e
    go_enter Try.func83, Try.ntmps83
    go_wp2
    go_ret
    exact ⟨by rw [E.out]; simp <;> omega, rfl⟩
theorem refWithin_any (n lo hi : Int) (w : World) : Calls Try.prog 34 #[.int .i64 n, .int .i64 lo, .int .i64 hi] w fun e w' => e = .returned (.bool (inR n lo hi)) ∧ w = w' := by
  by_cases h : lo ≤ n <;> by_cases h2 : n ≤ hi
  all_goals
    have e : inR n lo hi = (decide (lo ≤ n) && decide (n ≤ hi)) := rfl
    have E := Lib.hid e
    clear e
    go_enter Try.func34, Try.ntmps34
    go_wp2
    go_ret
    exact ⟨by rw [E.out]; simp <;> omega, rfl⟩
theorem refWithin2_any (n lo hi : Int) (w : World) : Calls Try.prog 71 #[.int .i64 n, .int .i64 lo, .int .i64 hi] w fun e w' => e = .returned (.bool (inR n lo hi)) ∧ w = w' := by
  go_enter Try.func71, Try.ntmps71
  go_wp2_with (go_at_call 34; refine (refWithin_any _ _ _ _).mono ?_; rintro e w' ⟨rfl, rfl⟩)
  go_ret
  exact ⟨rfl, rfl⟩
theorem isPence_any (n : Int) (w : World) : Calls Try.prog 62 #[.int .i64 n] w fun e w' => e = .returned (.bool (inR n 0 400)) ∧ w = w' := by
  go_enter Try.func62, Try.ntmps62
  go_wp2_with (go_at_call 83; refine (within_any _ _ _ _).mono ?_; rintro e w' ⟨rfl, rfl⟩)
  go_ret
  exact ⟨rfl, rfl⟩
theorem refIsPence_any (n : Int) (w : World) : Calls Try.prog 32 #[.int .i64 n] w fun e w' => e = .returned (.bool (inR n 0 400)) ∧ w = w' := by
  go_enter Try.func32, Try.ntmps32
  go_wp2_with (go_at_call 71; refine (refWithin2_any _ _ _ _).mono ?_; rintro e w' ⟨rfl, rfl⟩)
  go_ret
  exact ⟨rfl, rfl⟩
theorem isNode_any (A : Option Addr) (n c : Nat) (k : Int) (w : World) (hn : n ≤ 1000) : Calls Try.prog 61 #[.agg #[.slice A n c], .int .i64 k] w fun e w' => e = .returned (.bool (inR k 0 (n - 1))) ∧ Below w.heap.size w w' := by
  go_enter Try.func61, Try.ntmps61
  go_wp2_with (go_at_call 83; refine (within_any _ _ _ _).mono ?_; rintro e w' ⟨rfl, rfl⟩)
  go_ret
  exact ⟨rfl, (Below.refl _ _).alloc (Nat.le_refl _) _⟩
theorem refIsNode_any (A : Option Addr) (n c : Nat) (k : Int) (w : World) (hn : n ≤ 1000) : Calls Try.prog 27 #[.agg #[.slice A n c], .int .i64 k] w fun e w' => e = .returned (.bool (inR k 0 (n - 1))) ∧ Below w.heap.size w w' := by
  go_enter Try.func27, Try.ntmps27
  go_wp2_with (go_at_call 71; refine (refWithin2_any _ _ _ _).mono ?_; rintro e w' ⟨rfl, rfl⟩)
  go_ret
  exact ⟨rfl, (Below.refl _ _).alloc (Nat.le_refl _) _⟩

theorem Nodes.at_ {W : World} {B : Nat} {A : Option Addr} {ns : List Node} (h : Nodes W B A ns) {k : Nat} {x : Node} (hx : ns[k]? = some x) : ∃ b off, A = some ⟨b, off, none⟩ ∧ b < B ∧
    W.cell? ⟨b, off + k * 3, none⟩ = some (.int .i64 x.u) ∧ W.cell? ⟨b, off + k * 3 + 1, none⟩ = some (.int .i64 x.w) ∧ W.cell? ⟨b, off + k * 3 + 2, none⟩ = some (.int .i64 x.f) := by
  rcases h with h | ⟨b, off, hA, hb, hc⟩
  · subst h; simp at hx
  · exact ⟨b, off, hA, hb, hc k x hx⟩

/-- A custom that is valid. -/
def upOK (i : Nat) (x : Node) : Bool := if i = 0 then decide (x.u = -1) else inR x.u 0 (i - 1)
def nodeOK (i : Nat) (x : Node) : Bool := upOK i x && (inR x.w 0 9 && inR x.f 0 20)
def allOK (ns : List Node) : Bool := (List.range ns.length).all fun i => match ns[i]? with | some x => nodeOK i x | none => true
def validB (ns : List Node) : Bool := inR ns.length 1 8 && allOK ns
def ckE (ns : List Node) : Int := if validB ns then 0 else 100
theorem ckE_yes {ns : List Node} (h : validB ns = true) : ckE ns = 0 := by simp [ckE, h]
theorem ckE_no {ns : List Node} (h : validB ns = false) : ckE ns = 100 := by simp [ckE, h]
theorem validB_bad {ns : List Node} {i : Nat} {x : Node} (hx : ns[i]? = some x) (h : nodeOK i x = false) : validB ns = false := by
  have hi : i < ns.length := (List.getElem?_eq_some_iff.1 hx).1
  have : allOK ns = false := by
    rw [allOK, List.all_eq_false]
    exact ⟨i, List.mem_range.2 hi, by simp only [hx]; simp [h]⟩
  simp [validB, this]
theorem okStep {ns : List Node} {k : Nat} {x : Node} (h : ∀ j x, j < k → ns[j]? = some x → nodeOK j x = true) (hx : ns[k]? = some x) (hk : nodeOK k x = true) : ∀ j x, j < k + 1 → ns[j]? = some x → nodeOK j x = true := by
  intro j y hj hy
  by_cases e : j = k
  · subst e; rw [hx] at hy; cases hy; exact hk
  · exact h j y (by omega) hy
theorem validB_good {ns : List Node} (hl : inR ns.length 1 8 = true) (h : ∀ i x, ns[i]? = some x → nodeOK i x = true) : validB ns = true := by
  have : allOK ns = true := by
    rw [allOK, List.all_eq_true]
    intro i hi
    cases hx : ns[i]? with
    | none => rfl
    | some x => exact h i x hx
  simp [validB, this, hl]

set_option maxRecDepth 100000 in
set_option maxHeartbeats 4000000 in
theorem check_any (A : Option Addr) (c : Nat) (ns : List Node) (hn : ns.length ≤ 1000) (w : World) (hN : Nodes w w.heap.size A ns) : Calls Try.prog 46 #[.agg #[.slice A ns.length c]] w fun e w' => e = .returned (.int .i64 (ckE ns)) ∧ Below w.heap.size w w' := by
  by_cases hl : inR ns.length 1 8 = true
  · go_enter Try.func46, Try.ntmps46
    go_wp2_with (go_at_call 83; refine (within_any _ _ _ _).mono ?_; rintro e w' ⟨rfl, rfl⟩)
    have HL := Lib.hid hl
    go_loopw [3, 4, 5, 14] (fun _ _ _ i wr => ∃ k : Nat, k ≤ ns.length ∧ i = .int .i64 k ∧ (∀ j x, j < k → ns[j]? = some x → nodeOK j x = true) ∧ Below w.heap.size w wr) (fun _ _ _ i _ => ns.length - (intOf i).toNat)
    case atStart => exact ⟨0, Nat.zero_le _, rfl, fun j x hj => by omega, (Below.refl _ _).alloc (Nat.le_refl _) _⟩
    case round =>
      obtain ⟨k, hk, rfl, hok, hb⟩ := hrel
      by_cases hlt : k < ns.length
      · obtain ⟨x, hx⟩ : ∃ x, ns[k]? = some x := ⟨_, List.getElem?_eq_getElem hlt⟩
        obtain ⟨b, off, rfl, hbb, c1, c2, c3⟩ := hN.at_ hx
        have d1 := below_cell hb c1
        have d2 := below_cell hb c2
        have d3 := below_cell hb c3
        have HX := Lib.hid hx
        have HO := Lib.hid hok
        clear hx hok c1 c2 c3
        have hwr : w.heap.size ≤ wr.heap.size := hb.size
        cases hup : upOK k x <;> cases hw : inR x.w 0 9 <;> cases hf : inR x.f 0 20
        all_goals
          have HUP := Lib.hid hup
          clear hup
          by_cases hk0 : k = 0
          · have hk1 : k ≤ 0 := by omega
            have hkb : ((k : Int) == 0) = true := by simpa using hk0
            have hub : (x.u == -1) = upOK k x := by rw [upOK, if_pos hk0, Bool.eq_iff_iff]; simp
            rw [HUP.out] at hub
            clear hk0
            have hno : Hid (nodeOK k x = _) := Lib.hid (show nodeOK k x = _ from by rw [nodeOK, HUP.out, hw, hf])
            go_wp2_with (go_at_call 83; refine (within_any _ _ _ _).mono ?_; rintro e w' ⟨rfl, rfl⟩)
            first
              | (go_ret; exact ⟨by rw [ckE_no (validB_bad HX.out hno.out)]; rfl, hb.alloc hwr _⟩)
              | (go_roundw
                 case rel => exact ⟨k + 1, by omega, by go_num, okStep HO.out HX.out hno.out, hb.alloc hwr _⟩
                 case measure => simp [intOf]; omega)
          · have hk1 : 0 < k := by omega
            have hkb : ((k : Int) == 0) = false := by simpa using hk0
            have hub : inR x.u 0 (k - 1) = upOK k x := by rw [upOK, if_neg hk0]
            rw [HUP.out] at hub
            clear hk0
            have hno : Hid (nodeOK k x = _) := Lib.hid (show nodeOK k x = _ from by rw [nodeOK, HUP.out, hw, hf])
            go_wp2_with (go_at_call 83; refine (within_any _ _ _ _).mono ?_; rintro e w' ⟨rfl, rfl⟩)
            first
              | (go_ret; exact ⟨by rw [ckE_no (validB_bad HX.out hno.out)]; rfl, hb.alloc hwr _⟩)
              | (go_roundw
                 case rel => exact ⟨k + 1, by omega, by go_num, okStep HO.out HX.out hno.out, hb.alloc hwr _⟩
                 case measure => simp [intOf]; omega)
      · obtain rfl : k = ns.length := by omega
        go_wp2
        go_ret
        exact ⟨by rw [ckE_yes (validB_good HL.out (fun i x hx => hok i x (List.getElem?_eq_some_iff.1 hx).1 hx))]; rfl, hb⟩
  · go_enter Try.func46, Try.ntmps46
    have hl' : inR ns.length 1 8 = false := by simpa using hl
    have hv : validB ns = false := by simp [validB, hl']
    have HV := Lib.hid hv
    clear hv
    go_wp2_with (go_at_call 83; refine (within_any _ _ _ _).mono ?_; rintro e w' ⟨rfl, rfl⟩)
    go_ret
    exact ⟨by rw [ckE_no HV.out]; rfl, (Below.refl _ _).alloc (Nat.le_refl _) _⟩
end Go.Proofs.Ytohoonbbjkefaaa
