import Derived.Test.YtgjpllmmpclgaaaN6
import Derived.Test.YtgjpllmmpclgaaaNA
namespace Go.Proofs.Ytgjpllmmpclgaaa
open Go.RowKit

/-! The exchange of two boats. -/
theorem Ints.setAt {W : World} {base n c g : Nat} {l : List Int} (h : Ints W base (.slice (some ⟨g, 0, none⟩) n c) l) {i : Nat} (hi : i < l.length) (x : Int) : Ints (W.setCell ⟨g, i, none⟩ (.int .i64 x)) base (.slice (some ⟨g, 0, none⟩) n c) (l.set i x) ∧ (∀ o, W.frozen? ⟨g, o, none⟩ = false) ∧ ∃ y, W.cell? ⟨g, i, none⟩ = some (.int .i64 y) := by
  rcases h.2 with ⟨e, h0⟩ | ⟨g', cap, cur, e, hb, hg, h1, h5, h2, h3⟩
  · cases e
  · cases e
    have h3' : cur.toList.take l.length = l.map (Value.int .i64) := by simpa using h3
    refine ⟨⟨by simp, .inr ⟨g, c, _, by rw [List.length_set], hb, heap_set (.int .i64 x) hg, by rw [List.length_set]; exact h1, h5, by simpa using h2, ?_⟩⟩, fun o => by simp [World.frozen?, hg], l[i], ?_⟩
    · rw [List.length_set, Nat.mul_one, Array.toList_setIfInBounds, List.take_set, h3', List.map_set]
    · have : cur[i]? = some (.int .i64 l[i]) := by
        have e2 : (cur.toList.take l.length)[i]? = some (.int .i64 l[i]) := by rw [h3', List.getElem?_map, List.getElem?_eq_getElem hi]; rfl
        rw [List.getElem?_take_of_lt hi] at e2
        simpa using e2
      simp [World.cell?, hg, this]
theorem Ints.some_ {W : World} {base : Nat} {v : Value} {l : List Int} (h : Ints W base v l) (hl : l ≠ []) : ∃ g k, v = .slice (some ⟨g, 0, none⟩) l.length k ∧ base ≤ g := by
  rcases h.2 with ⟨e, h0⟩ | ⟨g', cap, cur, e, hb, _⟩
  · exact absurd (List.length_eq_zero_iff.1 h0) hl
  · exact ⟨g', cap, e, hb⟩
/-- A crew in which two places have exchanged their boats. -/
def exchL (c : List Int) (a b : Nat) : List Int := (c.set a (c.getD b 0)).set b (c.getD a 0)
theorem exchL_len (c : List Int) (a b : Nat) : (exchL c a b).length = c.length := by simp [exchL]
theorem getD_some {c : List Int} {a : Nat} {x : Int} (h : c[a]? = some x) : c.getD a 0 = x := by rw [List.getD_eq_getElem?_getD, h]; rfl
theorem exchL_eq {c : List Int} {a b : Nat} {x y : Int} (hx : c[a]? = some x) (hy : c[b]? = some y) : exchL c a b = (c.set a y).set b x := by
  unfold exchL; rw [getD_some hx, getD_some hy]
theorem exch_perm {c : List Int} {a b : Nat} (ha : a < c.length) (hb : b < c.length) : (exchL c a b).Perm c := by
  rw [exchL_eq (List.getElem?_eq_getElem ha) (List.getElem?_eq_getElem hb)]
  exact List.set_set_perm ha hb
theorem exch_in {c : List Int} {a b n : Nat} (ha : a < c.length) (hb : b < c.length) (hc : ∀ x ∈ c, 0 ≤ x ∧ x < n) : ∀ x ∈ exchL c a b, 0 ≤ x ∧ x < n := fun x hx => hc x ((exch_perm ha hb).mem_iff.1 hx)
theorem exch_crew {c : List Int} {a b nb np : Nat} (ha : a < c.length) (hb : b < c.length) (hc : CrewOf nb np c) : CrewOf nb np (exchL c a b) :=
  ⟨by rw [exchL_len]; exact hc.1, exch_in ha hb hc.2.1, (exch_perm ha hb).nodup_iff.2 hc.2.2⟩
set_option maxRecDepth 100000 in
set_option maxHeartbeats 4000000 in
theorem exchanged_any (c : List Int) (hcl : c.length ≤ 1000) (a b : Nat) (ha : a < c.length) (hb : b < c.length) (A : Option Addr) (cv : Nat) (w : World) (hI : IntsAt w w.heap.size A c) : Calls Try.prog 63 #[.slice A c.length cv, .agg #[.int .i64 a, .int .i64 b]] w fun e w' => (∃ v, e = .returned v ∧ Ints w' w.heap.size v (exchL c a b)) ∧ Below w.heap.size w w' := by
  have hbw := al_below w (.cells #[.int .i64 a, .int .i64 b] 75)
  have hp0 : (w.alloc (.cells #[.int .i64 a, .int .i64 b] 75)).cell? ⟨w.heap.size, 0, none⟩ = some (.int .i64 (a : Int)) := by simp [go_sem]
  have hp1 : (w.alloc (.cells #[.int .i64 a, .int .i64 b] 75)).cell? ⟨w.heap.size, 1, none⟩ = some (.int .i64 (b : Int)) := by simp [go_sem]
  obtain ⟨W0, hW0⟩ : ∃ W0, w.alloc (.cells #[.int .i64 a, .int .i64 b] 75) = W0 := ⟨_, rfl⟩
  rw [hW0] at hbw hp0 hp1
  have HBW := Lib.hid hbw
  have HW0 := Lib.hid hW0
  have HI := Lib.hid (ints_later hI hbw)
  have HI1 := Lib.hid (ints_later HI.out (al_below W0 (.cells #[] 3)))
  have HL := Lib.hid hcl
  obtain ⟨x, hx⟩ : ∃ x, c[a]? = some x := ⟨_, List.getElem?_eq_getElem ha⟩
  obtain ⟨y, hy⟩ : ∃ y, c[b]? = some y := ⟨_, List.getElem?_eq_getElem hb⟩
  have HE := Lib.hid (exchL_eq hx hy)
  have HX := Lib.hid (And.intro hx hy)
  have HCN := Lib.hid (show c ≠ [] by rintro rfl; simp at ha)
  clear hbw hW0 hI hx hy
  obtain ⟨bi, oi, eA, blt, _⟩ := HI.out.at_ HX.out.1
  subst eA
  go_enter Try.func63, Try.ntmps63
  go_upto_region 1 with (fail)
  have e := HW0.out
  rw [e]
  clear e
  go_upto_region 2 with (refine wpl_copyI (by rfl) _ _ (by rfl) W0.heap.size _ [] (by rfl) (ints_made W0 W0.heap.size (Nat.le_refl _)) (some ⟨bi, oi, none⟩) cv c (fun h => by cases h) (by rfl) HI1.out (by simp) HL.out (by simp) ?_; intro v3 w3 h1 h2; have H3 := Lib.hid (show Ints w3 W0.heap.size v3 c from h1); have hb3 := (al_below W0 (.cells #[] 3)).trans h2; have B3 := Lib.hid hb3; have p0 := below_cell hb3 hp0; have p1 := below_cell hb3 hp1; have I3 := Lib.hid (ints_later HI.out hb3); clear h1 h2 hb3)
  obtain ⟨g, k, rfl, hg⟩ := H3.out.some_ HCN.out
  obtain ⟨_, _, e1, _, d1⟩ := I3.out.at_ HX.out.1
  cases e1
  obtain ⟨_, _, e1, _, d2⟩ := I3.out.at_ HX.out.2
  cases e1
  obtain ⟨hs1, gf, _, gy1⟩ := H3.out.setAt ha y
  obtain ⟨hs2, gf2, _, gy2⟩ := hs1.setAt (i := b) (by rw [List.length_set]; exact hb) x
  have HS2 := Lib.hid hs2
  have HGS := Lib.hid hg
  have hw0 : w.heap.size < W0.heap.size := cell_lt hp0
  have n1 : ¬ g = w.heap.size := by omega
  have n2 : ¬ w.heap.size = g := by omega
  have n3 : ¬ g = bi := by omega
  have n4 : ¬ bi = g := by omega
  clear hs1 hs2 hp0 hp1
  go_region
  all_goals
    go_wp2_with (fail)
    go_ret
    refine ⟨⟨_, rfl, ?_⟩, ?_⟩
    · rw [HE.out]
      exact HS2.out.drew.mono HBW.out.size
    · exact (((hb0to HBW.out B3.out).setCell (p := ⟨g, a, none⟩) (by show w.heap.size ≤ g; omega) _).setCell (p := ⟨g, b, none⟩) (by show w.heap.size ≤ g; omega) _).drew
end Go.Proofs.Ytgjpllmmpclgaaa
