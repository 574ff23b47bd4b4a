import Derived.Outline
import Derived.Test.YtgemmmdcpbajoaaS5
namespace Go.Proofs.Ytgemmmdcpbajoaa
open Go.RowKit

theorem caskOf_at {l : List Cask} {k : Nat} {c : Cask} (h : l[k]? = some c) : caskOf l k = c := by simp [caskOf, List.getD, h]
theorem at_caskOf {l : List Cask} {k : Nat} (h : k < l.length) : l[k]? = some (caskOf l k) := by simp [caskOf, List.getD, List.getElem?_eq_getElem h]
set_option maxRecDepth 100000 in
theorem index81 {l : List Cask} (hl : l.length = 5) {k : Nat} (hk : k < 5) (w : World) : (Instr.index 81 (encCs l) (.int .i64 k)).run Try.prog w = .ok (caskOf l k).enc w := by
  obtain ⟨a, b, c, d, e, rfl⟩ := list5 hl
  have : k = 0 ∨ k = 1 ∨ k = 2 ∨ k = 3 ∨ k = 4 := by omega
  rcases this with rfl | rfl | rfl | rfl | rfl <;> rfl

/-- 1 if there are parts. -/
def usedC (c : Cask) : Int := if c.n < 1 then c.n else 1
/-- The sum of f over the first k casks. -/
def sumC (f : Cask → Int) (l : List Cask) : Nat → Int
  | 0 => 0
  | k + 1 => sumC f l k + f (caskOf l k)
theorem sumC_bd {f : Cask → Int} {l : List Cask} {m : Int} (h : ∀ j, j < l.length → 0 ≤ f (caskOf l j) ∧ f (caskOf l j) ≤ m) : ∀ k, k ≤ l.length → 0 ≤ sumC f l k ∧ sumC f l k ≤ m * k
  | 0, _ => by simp [sumC]
  | k + 1, hk => by
    have := sumC_bd h k (by omega)
    have := h k (by omega)
    unfold sumC
    constructor
    · omega
    · rw [show ((k + 1 : Nat) : Int) = (k : Int) + 1 by omega, Int.mul_add]; omega

set_option maxRecDepth 100000 in
set_option maxHeartbeats 4000000 in
theorem saltAll_any (L : HL) (h : House) (hf : 0 ≤ h.fl ∧ h.fl ≤ 9) (l : List Cask) (hl : l.length = 5) (hok : ∀ (j : Nat) (c : Cask), l[j]? = some c → c.ok) (w : World) :
    Calls Try.prog 68 #[encCs l, L.enc h] w fun e w' => e = .returned (.int .i64 (sumC (saltC h.fl) l 5)) ∧ Below w.heap.size w w' := by
  have HB := Lib.hid (sumC_bd (f := saltC h.fl) (l := l) (m := 10000) fun j hj => saltC_bd (hok j _ (at_caskOf hj)) hf)
  have HO := Lib.hid hok
  obtain ⟨hf0, hf1⟩ := hf
  clear hok
  obtain ⟨Ak, ck, Ap, cp, Ab, cb⟩ := L
  obtain ⟨fc, hfc⟩ : ∃ fc, fc = flatC l := ⟨_, rfl⟩
  have HF := Lib.hid hfc
  have henc : encCs l = .agg fc.toArray := by rw [hfc]; rfl
  have hC0 : CasksAt (w.alloc (.cells fc.toArray 81)) w.heap.size l := by rw [hfc]; exact World.alloc_heap_new w _
  rw [henc]
  have HE := Lib.hid henc
  clear hfc henc
  have HC : ∀ o, CasksAt ((w.alloc (.cells fc.toArray 81)).alloc o) w.heap.size l := fun o => (Below.heap_alloc _ _ _ (by simp)).trans hC0
  go_enter Try.func68, Try.ntmps68
  go_wp2_with (refine wpl_load81 rfl (.tmp 2) rfl w.heap.size rfl l hl (HC _) ?_)
  go_loopw [5, 9] (fun s i wr => ∃ k : Nat, k ≤ 5 ∧ i = .int .i64 k ∧ s = .int .i64 (sumC (saltC h.fl) l k) ∧ Below w.heap.size w wr ∧ HBox wr (w.heap.size + 1) ⟨Ak, ck, Ap, cp, Ab, cb⟩ h) (fun _ i _ => 5 - (intOf i).toNat)
  case atStart =>
    have hB2 := HBox.new (w.alloc (.cells fc.toArray 81)) ⟨Ak, ck, Ap, cp, Ab, cb⟩ h
    rw [World.size_alloc] at hB2
    exact ⟨0, by omega, rfl, rfl, ((Below.refl _ _).alloc (Nat.le_refl _) _).alloc (by simp) _, hB2⟩
  case round =>
    obtain ⟨k, hk, rfl, rfl, hb, hB⟩ := hrel
    by_cases hlt : k < 5
    · have hix := index81 hl hlt
      have hbd := HB.out k (by omega)
      have hkl : k < l.length := by omega
      have hcok := HO.out k _ (at_caskOf hkl)
      have hsb := saltC_bd hcok ⟨hf0, hf1⟩
      obtain ⟨_, g1, _, _⟩ := hB.cells
      have hb1 : w.heap.size + 1 < wr.heap.size := hB.lt
      have hb2 : ¬ w.heap.size + 1 = wr.heap.size := by omega
      have hsz := hb.size
      go_wp2_with (go_at_call 74; refine (saltC_any (caskOf l k) h.fl hcok ⟨hf0, hf1⟩ _).mono ?_; rintro e W5 ⟨rfl, hb5⟩)
      go_roundw
      case rel =>
        have hb6 : Below wr.heap.size wr W5 := ((Below.refl _ wr).alloc (Nat.le_refl _) _).trans (hb5.mono (by rw [World.size_alloc]; omega))
        exact ⟨k + 1, by omega, by go_num, rfl, hb.trans (hb6.mono hsz), hB.of (hb6.block _ hb1)⟩
      case measure => simp [intOf]; omega
    · obtain rfl : k = 5 := by omega
      go_wp2
      go_ret
      exact ⟨rfl, hb⟩

set_option maxRecDepth 100000 in
set_option maxHeartbeats 4000000 in
theorem used_any (l : List Cask) (hl : l.length = 5) (hok : ∀ (j : Nat) (c : Cask), l[j]? = some c → c.ok) (w : World) :
    Calls Try.prog 89 #[encCs l] w fun e w' => e = .returned (.int .i64 (sumC usedC l 5)) ∧ Below w.heap.size w w' := by
  have HB := Lib.hid (sumC_bd (f := usedC) (l := l) (m := 1) fun j hj => by have := (hok j _ (at_caskOf hj)).n0; unfold usedC; split <;> omega)
  have HO := Lib.hid hok
  clear hok
  obtain ⟨fc, hfc⟩ : ∃ fc, fc = flatC l := ⟨_, rfl⟩
  have HF := Lib.hid hfc
  have henc : encCs l = .agg fc.toArray := by rw [hfc]; rfl
  have hC0 : CasksAt (w.alloc (.cells fc.toArray 81)) w.heap.size l := by rw [hfc]; exact World.alloc_heap_new w _
  rw [henc]
  have HE := Lib.hid henc
  clear hfc henc
  go_enter Try.func89, Try.ntmps89
  go_wp2_with (refine wpl_load81 rfl (.tmp 1) rfl w.heap.size rfl l hl hC0 ?_)
  go_loopw [3, 7] (fun s i wr => ∃ k : Nat, k ≤ 5 ∧ i = .int .i64 k ∧ s = .int .i64 (sumC usedC l k) ∧ Below w.heap.size w wr) (fun _ i _ => 5 - (intOf i).toNat)
  case atStart => exact ⟨0, by omega, rfl, rfl, (Below.refl _ _).alloc (Nat.le_refl _) _⟩
  case round =>
    obtain ⟨k, hk, rfl, rfl, hb⟩ := hrel
    by_cases hlt : k < 5
    · have hix := index81 hl hlt
      have hbd := HB.out k (by omega)
      have hkl : k < l.length := by omega
      have hn0 := (HO.out k _ (at_caskOf hkl)).n0
      have hsz := hb.size
      have hm0 : 0 ≤ (if (caskOf l k).n < 1 then (caskOf l k).n else 1) := by split <;> omega
      have hm1 : (if (caskOf l k).n < 1 then (caskOf l k).n else 1) ≤ 1 := by split <;> omega
      go_wp2
      go_roundw
      case rel => exact ⟨k + 1, by omega, by go_num, rfl, hb.alloc hsz _⟩
      case measure => simp [intOf]; omega
    · obtain rfl : k = 5 := by omega
      go_wp2
      go_ret
      exact ⟨rfl, hb⟩
end Go.Proofs.Ytgemmmdcpbajoaa
