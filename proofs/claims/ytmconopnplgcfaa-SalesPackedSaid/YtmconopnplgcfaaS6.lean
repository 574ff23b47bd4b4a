import Derived.Test.YtmconopnplgcfaaS4
import Derived.Outline
namespace Go.Proofs.Ytmconopnplgcfaa
open Go.RowKit
def caskOf (l : List Cask) (b : Nat) : Cask := l.getD b c0
def roomOK (h : House) (l : List Cask) (b : Nat) : Bool := decide ((caskOf l b).p + saltC h.fl (caskOf l b) ≤ h.bs.getD b 0)
/-- No barrel is over. -/
def fitsC (h : House) (l : List Cask) : Bool := (List.range h.bs.length).all (roomOK h l)

theorem saltC_bd {c : Cask} {fl : Int} (hc : c.ok) (hf : 0 ≤ fl ∧ fl ≤ 9) : 0 ≤ saltC fl c ∧ saltC fl c ≤ 10000 := by
  obtain ⟨hn0, hn1, hp0, hp1, hs0, hs1, hd0, hd1⟩ := hc
  have hps : 0 ≤ c.p * c.s := Int.mul_nonneg hp0 hs0
  have hps2 : c.p * c.s ≤ 10000 * 9 := Int.mul_le_mul hp1 hs1 hs0 (by omega)
  unfold saltC
  split <;> omega

set_option maxRecDepth 100000 in
set_option maxHeartbeats 4000000 in
theorem fits_any (L : HL) (h : House) (hv : HOK h) (l : List Cask) (hl : l.length = 5) (hok : ∀ (j : Nat) (c : Cask), l[j]? = some c → c.ok) (w : World) (hH : HouseAt w w.heap.size L h) :
    Calls Try.prog 126 #[encCs l, L.enc h] w fun e w' => e = .returned (.bool (fitsC h l)) ∧ Below w.heap.size w w' := by
  have hbl := hv.bl
  have hf0 := hv.f0
  have hf1 := hv.f1
  have HH := Lib.hid hH
  have HV := Lib.hid hv
  have HO := Lib.hid hok
  clear hH hv hok
  obtain ⟨Ak, ck, Ap, cp, Ab, cb⟩ := L
  unfold encCs
  go_enter Try.func126, Try.ntmps126
  go_wp2
  go_loopw [10] (fun i wr => ∃ k : Nat, k ≤ h.bs.length ∧ i = .int .i64 k ∧ Below w.heap.size w wr ∧ HBox wr (w.heap.size + 1) ⟨Ak, ck, Ap, cp, Ab, cb⟩ h ∧ CasksAt wr w.heap.size l ∧ ∀ j, j < k → roomOK h l j = true) (fun i _ => h.bs.length - (intOf i).toNat)
  case atStart =>
    have hb2 : Below w.heap.size w ((w.alloc (.cells (flatC l).toArray 121)).alloc (.cells #[.slice Ak h.ks.length ck, .int .i64 h.fl, .slice Ap h.ps.length cp, .slice Ab h.bs.length cb] 26)) := ((Below.refl _ _).alloc (Nat.le_refl _) _).alloc (by simp) _
    have hB2 := HBox.new (w.alloc (.cells (flatC l).toArray 121)) ⟨Ak, ck, Ap, cp, Ab, cb⟩ h
    rw [World.size_alloc] at hB2
    exact ⟨0, Nat.zero_le _, rfl, hb2, hB2, (Below.heap_alloc _ _ _ (by simp)).trans (World.alloc_heap_new w _), fun j hj => by omega⟩
  case round =>
    obtain ⟨k, hk, rfl, hb, hB, hC, hall⟩ := hrel
    have HA := Lib.hid hall
    clear hall
    by_cases hlt : k < h.bs.length
    · obtain ⟨x, hx⟩ : ∃ x, h.bs[k]? = some x := ⟨_, List.getElem?_eq_getElem hlt⟩
      obtain ⟨b1, o1, rfl, b1lt, d1⟩ := IntsAt.at_ (HH.out.b.keep hb.size fun _ _ hlt => hb.cell (p := ⟨_, _, none⟩) hlt) hx
      have hkl : k < l.length := by omega
      obtain ⟨cc, hcc⟩ : ∃ cc, l[k]? = some cc := ⟨_, List.getElem?_eq_getElem hkl⟩
      have hcok := HO.out k cc hcc
      have hsb := saltC_bd hcok ⟨hf0, hf1⟩
      have hp0 := hcok.p0
      have hp1 := hcok.p1
      obtain ⟨f0, f1, f2, f3⟩ := hC.at_ hcc
      have e0 := extB_cell f0
      have e1 := extB_cell f1
      have e2 := extB_cell f2
      have e3 := extB_cell f3
      obtain ⟨_, g1, _, _⟩ := hB.cells
      have e4 := extB_cell g1
      have hro : roomOK h l k = decide (cc.p + saltC h.fl cc ≤ x) := by simp [roomOK, caskOf, List.getD, hcc, hx]
      have RO := Lib.hid hro
      have CK := Lib.hid hcok
      clear hro hcok hx hcc
      by_cases hov : x < cc.p + saltC h.fl cc
      · as_aux_lemma =>
        go_wp2
        refine wp_region_ext (by kernel_rfl) (by kernel_rfl) ?_
        repeat (go_big_quiet_step ((go_at_call 129; exact ext_call (saltC_any cc h.fl CK.out ⟨hf0, hf1⟩ _))))
        refine wpQuiet_nil ?_
        rintro _ ⟨x1, rfl⟩
        have hb1 := hb.trans ((extB_below wr x1).mono hb.size)
        go_wp2
        go_ret
        refine ⟨?_, hb1⟩
        have : fitsC h l = false := by
          rw [fitsC, List.all_eq_false]
          exact ⟨k, List.mem_range.2 hlt, by rw [RO.out]; simp; omega⟩
        rw [this]; rfl
      · as_aux_lemma =>
        go_wp2
        refine wp_region_ext (by kernel_rfl) (by kernel_rfl) ?_
        repeat (go_big_quiet_step ((go_at_call 129; exact ext_call (saltC_any cc h.fl CK.out ⟨hf0, hf1⟩ _))))
        refine wpQuiet_nil ?_
        rintro _ ⟨x1, rfl⟩
        have hb0 := extB_below wr x1
        have hb1 := hb.trans (hb0.mono hb.size)
        go_wp2
        go_roundw
        case rel =>
          refine ⟨k + 1, by omega, by go_num, hb1, hB.of (hb0.block _ hB.lt), (hb0.block _ (Array.getElem?_eq_some_iff.1 hC).1).trans hC, fun j hj => ?_⟩
          by_cases ej : j = k
          · subst ej; rw [RO.out]; simp; omega
          · exact HA.out j (by omega)
        case measure => simp [intOf]; omega
    · obtain rfl : k = h.bs.length := by omega
      go_wp2
      go_ret
      refine ⟨?_, hb⟩
      have : fitsC h l = true := by
        rw [fitsC, List.all_eq_true]
        exact fun j hj => HA.out j (List.mem_range.1 hj)
      rw [this]; rfl
theorem caskOf_at {l : List Cask} {k : Nat} {c : Cask} (h : l[k]? = some c) : caskOf l k = c := by simp [caskOf, List.getD, h]
theorem at_caskOf {l : List Cask} {k : Nat} (h : k < l.length) : l[k]? = some (caskOf l k) := by simp [caskOf, List.getD, List.getElem?_eq_getElem h]
set_option maxRecDepth 100000 in
theorem index81 {l : List Cask} (hl : l.length = 5) {k : Nat} (hk : k < 5) (w : World) : (Instr.index 121 (encCs l) (.int .i64 k)).run Try.prog w = .ok (caskOf l k).enc w := by
  obtain ⟨a, b, c, d, e, rfl⟩ := list5 hl
  have : k = 0 ∨ k = 1 ∨ k = 2 ∨ k = 3 ∨ k = 4 := by omega
  rcases this with rfl | rfl | rfl | rfl | rfl <;> rfl

/-- 1 if there are parts. -/
def usedC (c : Cask) : Int := if c.n < 1 then c.n else 1
/-- The sum of f over the first k casks. -/
def sumC (f : Cask → Int) (l : List Cask) : Nat → Int
  | 0 => 0
  | k + 1 => sumC f l k + f (caskOf l k)
theorem sumC_bd {f : Cask → Int} {l : List Cask} {m : Int} (h : ∀ j, j < l.length → 0 ≤ f (caskOf l j) ∧ f (caskOf l j) ≤ m) : ∀ k, k ≤ l.length → 0 ≤ sumC f l k ∧ sumC f l k ≤ m * k
  | 0, _ => by simp [sumC]
  | k + 1, hk => by
    have := sumC_bd h k (by omega)
    have := h k (by omega)
    unfold sumC
    constructor
    · omega
    · rw [show ((k + 1 : Nat) : Int) = (k : Int) + 1 by omega, Int.mul_add]; omega

end Go.Proofs.Ytmconopnplgcfaa
