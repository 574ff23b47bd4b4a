import Derived.Test.YtgemmmdcpbajoaaS2
namespace Go.Proofs.Ytgemmmdcpbajoaa
open Go.RowKit

/-- A house whose numbers are in their bounds. -/
structure HOK (h : House) : Prop where
  kl : h.ks.length ≤ 3
  f0 : 0 ≤ h.fl
  f1 : h.fl ≤ 9
  pl : h.ps.length ≤ 6
  bl : h.bs.length ≤ 4
  k : ∀ (i : Nat) (x : Int × Int), h.ks[i]? = some x → 0 ≤ x.1 ∧ x.1 ≤ 9 ∧ 0 ≤ x.2 ∧ x.2 ≤ 20
  p : ∀ (i : Nat) (x : Int × Int), h.ps[i]? = some x → 0 ≤ x.1 ∧ x.1 < h.ks.length ∧ 0 ≤ x.2 ∧ x.2 ≤ 40
  b : ∀ (i : Nat) (x : Int), h.bs[i]? = some x → 0 ≤ x ∧ x ≤ 99

def flatC : List Cask → List Value
  | [] => []
  | c :: l => .int .i64 c.n :: .int .i64 c.p :: .int .i64 c.s :: .int .i64 c.d :: flatC l
theorem flatC_len : ∀ l, (flatC l).length = l.length * 4
  | [] => rfl
  | c :: l => by simp only [flatC, List.length_cons, flatC_len l]; omega
theorem flatC_at : ∀ (l : List Cask) (j : Nat) (c : Cask), l[j]? = some c → (flatC l)[j * 4]? = some (.int .i64 c.n) ∧ (flatC l)[j * 4 + 1]? = some (.int .i64 c.p) ∧ (flatC l)[j * 4 + 2]? = some (.int .i64 c.s) ∧ (flatC l)[j * 4 + 3]? = some (.int .i64 c.d)
  | [], j, c, h => by simp at h
  | x :: l, 0, c, h => by simp at h; subst h; exact ⟨rfl, rfl, rfl, rfl⟩
  | x :: l, j + 1, c, h => by
    have := flatC_at l j c (by simpa using h)
    have e : (j + 1) * 4 = j * 4 + 1 + 1 + 1 + 1 := by omega
    rw [e]
    simp only [flatC, List.getElem?_cons_succ]
    exact this
theorem flatC_set : ∀ (l : List Cask) (j : Nat) (c : Cask), ((((flatC l).set (j * 4) (.int .i64 c.n)).set (j * 4 + 1) (.int .i64 c.p)).set (j * 4 + 2) (.int .i64 c.s)).set (j * 4 + 3) (.int .i64 c.d) = flatC (l.set j c)
  | [], j, c => by simp [flatC]
  | x :: l, 0, c => rfl
  | x :: l, j + 1, c => by
    have := flatC_set l j c
    have e : (j + 1) * 4 = j * 4 + 1 + 1 + 1 + 1 := by omega
    rw [e]
    simp only [flatC, List.set_cons_succ]
    rw [this]

/-- All casks of a house, in the block cb. -/
def CasksAt (W : World) (cb : Nat) (l : List Cask) : Prop := W.heap[cb]? = some (.cells (flatC l).toArray 81 (0, 0))
theorem CasksAt.at_ {W : World} {cb : Nat} {l : List Cask} (h : CasksAt W cb l) {j : Nat} {c : Cask} (hj : l[j]? = some c) : CaskAt W cb (j * 4) c := by
  obtain ⟨h1, h2, h3, h4⟩ := flatC_at l j c hj
  have h : W.heap[cb]? = some (.cells (flatC l).toArray 81 (0, 0)) := h
  exact ⟨by simp [World.cell?, h, h1], by simp [World.cell?, h, h2], by simp [World.cell?, h, h3], by simp [World.cell?, h, h4]⟩

def barrelOf (pack : List Int) (k : Nat) : Int := pack.getD k (-1)
def partOf (h : House) (k : Nat) : Int × Int := h.ps.getD k (0, 0)
def kindOf (h : House) (p : Int × Int) : Int × Int := h.ks.getD p.1.toNat (0, 0)
/-- The casks behind the first k parts. -/
def casksTo (h : House) (pack : List Int) : Nat → List Cask
  | 0 => [c0, c0, c0, c0, c0]
  | k + 1 => if barrelOf pack k = -1 then casksTo h pack k else
    (casksTo h pack k).set (barrelOf pack k).toNat (layC ((casksTo h pack k).getD (barrelOf pack k).toNat c0) (kindOf h (partOf h k)) (partOf h k))
theorem casksTo_len (h : House) (pack : List Int) : ∀ k, (casksTo h pack k).length = 5
  | 0 => rfl
  | k + 1 => by
    unfold casksTo
    split
    · exact casksTo_len h pack k
    · rw [List.length_set]; exact casksTo_len h pack k

theorem HOK.part {h : House} (hv : HOK h) {k : Nat} (hk : k < h.ps.length) : ∃ kk : Nat, h.ps[k]? = some (partOf h k) ∧ (partOf h k).1 = (kk : Int) ∧ h.ks[kk]? = some (kindOf h (partOf h k)) ∧ (0 ≤ (partOf h k).2 ∧ (partOf h k).2 ≤ 40) ∧
    0 ≤ (kindOf h (partOf h k)).1 ∧ (kindOf h (partOf h k)).1 ≤ 9 ∧ 0 ≤ (kindOf h (partOf h k)).2 ∧ (kindOf h (partOf h k)).2 ≤ 20 := by
  have e : h.ps[k]? = some (partOf h k) := by simp [partOf, List.getD, List.getElem?_eq_getElem hk]
  obtain ⟨p0, p1, p2, p3⟩ := hv.p k _ e
  obtain ⟨kk, hkk⟩ := Int.eq_ofNat_of_zero_le p0
  have hkk : (partOf h k).1 = (kk : Int) := hkk
  have hlt : kk < h.ks.length := by omega
  have e2 : h.ks[kk]? = some (kindOf h (partOf h k)) := by
    simp [kindOf, hkk, List.getD, List.getElem?_eq_getElem hlt]
  exact ⟨kk, e, hkk, e2, ⟨p2, p3⟩, hv.k kk _ e2⟩

/-- Bounds of a cask with at most k parts. -/
structure Cask.upto (c : Cask) (k : Nat) : Prop where
  n0 : 0 ≤ c.n
  n1 : c.n ≤ k
  p0 : 0 ≤ c.p
  p1 : c.p ≤ 40 * k
  s0 : 0 ≤ c.s
  s1 : c.s ≤ 9
  d0 : 0 ≤ c.d
  d1 : c.d ≤ 20
theorem Cask.upto.ok {c : Cask} {k : Nat} (h : c.upto k) (hk : k ≤ 100) : c.ok := ⟨h.n0, by have := h.n1; omega, h.p0, by have := h.p1; omega, h.s0, h.s1, h.d0, h.d1⟩
theorem casksTo_upto {h : House} (hv : HOK h) (pack : List Int) : ∀ k, k ≤ h.ps.length → ∀ (j : Nat) (c : Cask), (casksTo h pack k)[j]? = some c → c.upto k
  | 0, _, j, c, hc => by
    have : c = c0 := by
      simp only [casksTo] at hc
      have := List.mem_of_getElem? hc
      simpa using this
    subst this
    exact ⟨by decide, by decide, by decide, by decide, by decide, by decide, by decide, by decide⟩
  | k + 1, hk, j, c, hc => by
    have ih := casksTo_upto hv pack k (by omega)
    have up : ∀ {c : Cask}, c.upto k → c.upto (k + 1) := fun h => ⟨h.n0, by have := h.n1; omega, h.p0, by have := h.p1; omega, h.s0, h.s1, h.d0, h.d1⟩
    unfold casksTo at hc
    split at hc
    · exact up (ih j c hc)
    · rw [List.getElem?_set] at hc
      split at hc
      · split at hc
        · obtain rfl := Option.some.inj hc
          rename_i hlt
          have hb := ih (barrelOf pack k).toNat ((casksTo h pack k).getD (barrelOf pack k).toNat c0) (by simp [List.getD, List.getElem?_eq_getElem hlt])
          obtain ⟨kk, -, -, -, ⟨p2, p3⟩, k0, k1, k2, k3⟩ := hv.part (k := k) (by omega)
          obtain ⟨n0, n1, p0, p1, s0, s1, d0, d1⟩ := hb
          exact ⟨by simp only [layC]; omega, by simp only [layC]; omega, by simp only [layC]; omega, by simp only [layC]; omega, by simp only [layC]; omega, by simp only [layC]; omega, by simp only [layC]; omega, by simp only [layC]; omega⟩
        · cases hc
      · exact up (ih j c hc)
/-- All casks of a packing. -/
def packedC (h : House) (pack : List Int) : List Cask := casksTo h pack h.ps.length
def encCs (l : List Cask) : Value := .agg (flatC l).toArray
end Go.Proofs.Ytgemmmdcpbajoaa
