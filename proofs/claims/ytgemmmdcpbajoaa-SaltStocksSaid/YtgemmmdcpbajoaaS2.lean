import Derived.Test.YtgemmmdcpbajoaaS1
namespace Go.Proofs.Ytgemmmdcpbajoaa
open Go.RowKit

/-- The cask at the cells from o on of block b. -/
structure CaskAt (W : World) (b o : Nat) (c : Cask) : Prop where
  n : W.cell? ⟨b, o, none⟩ = some (.int .i64 c.n)
  p : W.cell? ⟨b, o + 1, none⟩ = some (.int .i64 c.p)
  s : W.cell? ⟨b, o + 2, none⟩ = some (.int .i64 c.s)
  d : W.cell? ⟨b, o + 3, none⟩ = some (.int .i64 c.d)

theorem heap_set {W : World} {b o : Nat} {arr : Array Value} {t : TypeId} (v : Value) (h : W.heap[b]? = some (.cells arr t (0, 0))) : (W.setCell ⟨b, o, none⟩ v).heap[b]? = some (.cells (arr.setIfInBounds o v) t (0, 0)) := by
  obtain ⟨hlt, e⟩ := Array.getElem?_eq_some_iff.1 h
  have : (W.setCell ⟨b, o, none⟩ v).heap[b]? = some ((W.setCell ⟨b, o, none⟩ v).heap[b]'(by simp [World.setCell]; exact hlt)) := Array.getElem?_eq_getElem _
  rw [this]
  simp only [World.setCell]
  rw [Array.getElem_modify_self, e]
  rfl

theorem lay_end (w W1 W2 : World) (arr : Array Value) (t : TypeId) (b o : Nat) (c : Cask) (k p : Int × Int) (o1 o2 o3 : Obj) (s' d' : Int)
    (hb : w.heap[b]? = some (.cells arr t (0, 0))) (h1 : W1 = (((w.setCell ⟨b, o, none⟩ (.int .i64 (c.n + 1))).alloc o1).alloc o2).alloc o3) (h2 : W2 = (W1.setCell ⟨b, o + 1, none⟩ (.int .i64 (c.p + p.2))).drew)
    (hs : s' = (layC c k p).s) (hd : d' = (layC c k p).d) :
    KpB (fun k => k = b) w.heap.size w ((W2.setCell ⟨b, o + 2, none⟩ (.int .i64 s')).setCell ⟨b, o + 3, none⟩ (.int .i64 d')).drew ∧
      ((W2.setCell ⟨b, o + 2, none⟩ (.int .i64 s')).setCell ⟨b, o + 3, none⟩ (.int .i64 d')).drew.heap[b]? = some (.cells ((((arr.setIfInBounds o (.int .i64 (layC c k p).n)).setIfInBounds (o + 1) (.int .i64 (layC c k p).p)).setIfInBounds (o + 2) (.int .i64 (layC c k p).s)).setIfInBounds (o + 3) (.int .i64 (layC c k p).d)) t (0, 0)) := by
  subst hs hd
  have hbl : b < w.heap.size := (Array.getElem?_eq_some_iff.1 hb).1
  have k0 : KpB (fun k => k = b) w.heap.size w (w.setCell ⟨b, o, none⟩ (.int .i64 (c.n + 1))) := (KpB.refl _ _ _).set _ _ (.inl rfl)
  have g0 := heap_set (o := o) (.int .i64 (c.n + 1)) hb
  have b1 : Below w.heap.size (w.setCell ⟨b, o, none⟩ (.int .i64 (c.n + 1))) W1 := by
    rw [h1]; exact (((Below.refl _ _).alloc (by simp [World.setCell]) _).alloc (by simp [World.setCell] <;> omega) _).alloc (by simp [World.setCell] <;> omega) _
  have k1 : KpB (fun k => k = b) w.heap.size w W1 := k0.trans (kpB_of_below b1)
  have g1 : W1.heap[b]? = _ := (b1.block b hbl).trans g0
  have g2 := heap_set (o := o + 1) (.int .i64 (c.p + p.2)) g1
  have k2 : KpB (fun k => k = b) w.heap.size w (W1.setCell ⟨b, o + 1, none⟩ (.int .i64 (c.p + p.2))) := k1.set _ _ (.inl rfl)
  have k3 : KpB (fun k => k = b) w.heap.size w W2 := by rw [h2]; exact ⟨k2.os, k2.tape, k2.output, k2.size, k2.block⟩
  have e3 : W2.heap = (W1.setCell ⟨b, o + 1, none⟩ (.int .i64 (c.p + p.2))).heap := by rw [h2]; rfl
  have g3 := g2
  rw [← e3] at g3
  have k4 := (k3.set (o + 2) (.int .i64 (layC c k p).s) (.inl rfl)).set (o + 3) (.int .i64 (layC c k p).d) (.inl rfl)
  exact ⟨⟨k4.os, k4.tape, k4.output, k4.size, k4.block⟩, heap_set _ (heap_set _ g3)⟩

set_option maxRecDepth 100000 in
set_option maxHeartbeats 4000000 in
theorem lay_any (L : HL) (hs : House) (i kk : Nat) (k p : Int × Int) (c : Cask) (hc : c.ok) (b o : Nat) (w : World) (arr : Array Value) (t : TypeId)
    (hH : HouseAt w w.heap.size L hs) (hp : hs.ps[i]? = some p) (hkk : p.1 = (kk : Int)) (hk : hs.ks[kk]? = some k) (hpb : 0 ≤ p.2 ∧ p.2 ≤ 40) (hkb : 0 ≤ k.1 ∧ k.1 ≤ 9 ∧ 0 ≤ k.2 ∧ k.2 ≤ 20) (hi : hs.ps.length ≤ 40 ∧ hs.ks.length ≤ 40)
    (hb : w.heap[b]? = some (.cells arr t (0, 0))) (hC : CaskAt w b o c) :
    Calls Try.prog 97 #[.pointer (some ⟨b, o, none⟩), L.enc hs, .int .i64 i] w fun e w' => (∃ v, e = .returned v) ∧
      KpB (fun k => k = b) w.heap.size w w' ∧ w'.heap[b]? = some (.cells ((((arr.setIfInBounds o (.int .i64 (layC c k p).n)).setIfInBounds (o + 1) (.int .i64 (layC c k p).p)).setIfInBounds (o + 2) (.int .i64 (layC c k p).s)).setIfInBounds (o + 3) (.int .i64 (layC c k p).d)) t (0, 0)) := by
  obtain ⟨Ak, ck, Ap, cp, Ab, cb⟩ := L
  obtain ⟨n0, n1, p0, p1, s0, s1, d0, d1⟩ := hc
  obtain ⟨cn, cp', cs, cd⟩ := hC
  obtain ⟨bp, op, e1, hbp, q1, q2⟩ := hH.p.at_ hp
  obtain ⟨bk, ok, e2, hbk, r1, r2⟩ := hH.k.at_ hk
  simp only at e1 e2
  subst e1 e2
  obtain ⟨pk, pp⟩ := p
  obtain ⟨kS, kD⟩ := k
  simp only at hkk hpb hkb q1 q2 r1 r2
  subst hkk
  have hi1 : i < hs.ps.length := (List.getElem?_eq_some_iff.1 hp).1
  have hi2 : kk < hs.ks.length := (List.getElem?_eq_some_iff.1 hk).1
  have fr : ∀ o, w.frozen? ⟨b, o, none⟩ = false := fun o => by simp [World.frozen?, hb]
  have hbl : b < w.heap.size := (Array.getElem?_eq_some_iff.1 hb).1
  have hb1 : b < w.heap.size + 1 := by omega
  have hb2 : b < w.heap.size + 1 + 1 := by omega
  have hn0 : ¬ b = w.heap.size := by omega
  have hn1 : ¬ b = w.heap.size + 1 := by omega
  have hn2 : ¬ b = w.heap.size + 1 + 1 := by omega
  clear hH hp hk
  have HB := Lib.hid hb
  clear hb
  go_enter Try.func97, Try.ntmps97
  go_wp2
  obtain ⟨W1, hW1⟩ : ∃ W1, W1 = ((((w.setCell ⟨b, o, none⟩ (.int .i64 (c.n + 1))).alloc (.cells #[.slice (some ⟨bk, ok, none⟩) hs.ks.length ck, .int .i64 hs.fl, .slice (some ⟨bp, op, none⟩) hs.ps.length cp, .slice Ab hs.bs.length cb] 26)).alloc (.cells #[.int .i64 kk, .int .i64 pp] 38)).alloc (.cells #[.int .i64 kS, .int .i64 kD] 88)) := ⟨_, rfl⟩
  have f1 : W1.cell? ⟨b, o + 1, none⟩ = some (.int .i64 c.p) := by rw [hW1]; clear hW1; simp [go_sem, *]
  have f2 : W1.cell? ⟨b, o + 2, none⟩ = some (.int .i64 c.s) := by rw [hW1]; clear hW1; simp [go_sem, *]
  have f3 : W1.cell? ⟨b, o + 3, none⟩ = some (.int .i64 c.d) := by rw [hW1]; clear hW1; simp [go_sem, *]
  have g1 : W1.cell? ⟨w.heap.size + 1, 1, none⟩ = some (.int .i64 pp) := by rw [hW1]; clear hW1; simp [go_sem, *]
  have g2 : W1.cell? ⟨w.heap.size + 1 + 1, 0, none⟩ = some (.int .i64 kS) := by rw [hW1]; clear hW1; simp [go_sem, *]
  have g3 : W1.cell? ⟨w.heap.size + 1 + 1, 1, none⟩ = some (.int .i64 kD) := by rw [hW1]; clear hW1; simp [go_sem, *]
  have fr1 : ∀ o, W1.frozen? ⟨b, o, none⟩ = false := fun o => by rw [hW1]; clear hW1; simp [go_sem, *]
  have HW := Lib.hid hW1
  rw [← hW1]
  clear hW1
  go_region
  go_wp2
  obtain ⟨W2, hW2⟩ : ∃ W2, W2 = (W1.setCell ⟨b, o + 1, none⟩ (.int .i64 (c.p + pp))).drew := ⟨_, rfl⟩
  have h2 : W2.cell? ⟨b, o + 2, none⟩ = some (.int .i64 c.s) := by rw [hW2]; clear hW2; simp [go_sem, *]
  have h3 : W2.cell? ⟨b, o + 3, none⟩ = some (.int .i64 c.d) := by rw [hW2]; clear hW2; simp [go_sem, *]
  have k2 : W2.cell? ⟨w.heap.size + 1 + 1, 0, none⟩ = some (.int .i64 kS) := by rw [hW2]; clear hW2; simp [go_sem, *]
  have k3 : W2.cell? ⟨w.heap.size + 1 + 1, 1, none⟩ = some (.int .i64 kD) := by rw [hW2]; clear hW2; simp [go_sem, *]
  have fr2 : ∀ o, W2.frozen? ⟨b, o, none⟩ = false := fun o => by rw [hW2]; clear hW2; simp [go_sem, *]
  have HV := Lib.hid hW2
  rw [← hW2]
  clear hW2
  go_region
  all_goals go_wp2
  all_goals
    go_end0
    exact ⟨⟨_, rfl⟩, lay_end w W1 W2 arr t b o c (kS, kD) (kk, pp) _ _ _ _ _ HB.out HW.out HV.out (by simp [layC] <;> omega) (by simp [layC] <;> omega)⟩
end Go.Proofs.Ytgemmmdcpbajoaa
