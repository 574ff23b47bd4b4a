import Derived.Test.YtmconopnplgcfaaPK
import Derived.Test.YtmconopnplgcfaaFO
import Derived.Test.YtmconopnplgcfaaLC
namespace Go.Proofs.Ytmconopnplgcfaa
open Go.RowKit

/-! Repack: its closure 95. -/
/-- What Repack's closure finds: pre is laid, st is the best so far. -/
structure RepM (W : World) (n0 fb ob s : Nat) (F : FL) (f : Fair) (pre : List Int) (st : List Int × Int) (cnt : Nat) : Prop where
  H : FairAt W n0 F f
  x : FBox W fb F f
  c0 : W.cell? ⟨s, 0, none⟩ = some (.pointer (some ⟨ob, 0, none⟩))
  c2 : W.cell? ⟨s + 2, 0, none⟩ = some (.map (some (s + 1)))
  best : ∃ A c, W.heap[s + 3]? = some (.cells #[.slice A st.1.length c] 24 (0, 0)) ∧ (A = none → c = 0 ∧ st.1 = []) ∧ IntsIn W (s + 8) W.heap.size A st.1
  most : W.heap[s + 4]? = some (.cells #[.int .i64 st.2] 3 (0, 0))
  arr : ∃ l : List Int, W.heap[s + 5]? = some (.cells (l.map (Value.int .i64)).toArray 3 (0, 0)) ∧ l.length = f.pk.length ∧ l.take pre.length = pre
  c6 : W.cell? ⟨s + 6, 0, none⟩ = some (.slice (some ⟨s + 5, 0, none⟩) f.pk.length f.pk.length)
  c7 : W.cell? ⟨s + 7, 0, none⟩ = some (.func (.func 95) #[] #[.pointer (some ⟨s + 6, 0, none⟩), .pointer (some ⟨fb, 0, none⟩), .pointer (some ⟨s + 7, 0, none⟩), .pointer (some ⟨s, 0, none⟩), .pointer (some ⟨s + 2, 0, none⟩), .pointer (some ⟨s + 4, 0, none⟩), .pointer (some ⟨s + 3, 0, none⟩)])
  op : ∃ A c u rd, OBox W ob F f (.slice A f.q.length c) u ∧ LotsAt W s A f.q ∧ MaskOf rd u ∧ ∀ g, A = some g → g.block ≠ ob
  K : KnownM W (s + 1) cnt (maskV f.q)
  sz : s + 8 ≤ W.heap.size
  o1 : n0 ≤ fb
  o2 : fb < ob
  o3 : ob < s
theorem packsTo_mono {f : Fair} {m : Nat} {p : List Int} {k n : Nat} (h : k ≤ n) : (packsTo f m p k).length ≤ (packsTo f m p n).length := by
  obtain ⟨d, rfl⟩ := Nat.exists_eq_add_of_le h
  clear h
  induction d with
  | zero => exact Nat.le_refl _
  | succ d ih =>
    rw [← Nat.add_assoc, packsTo_succ, List.length_append]
    omega
theorem good_is2 {h : House} {pk : List Int} (hv : validH h = true) {x : Bool} (hg : goodB h pk = x) : goodRet h pk = (x, 0) := by simp [goodRet, hv, hg]
theorem LotsAt.keptB {W W' : World} {B : Nat} {A : Option Addr} {q : List Bid} (h : LotsAt W B A q) {ob : Nat} (hA : ∀ g, A = some g → g.block ≠ ob) (hk : ∀ b o, b < B → b ≠ ob → W'.cell? ⟨b, o, none⟩ = W.cell? ⟨b, o, none⟩) : LotsAt W' B A q := by
  rcases h with h | ⟨b, off, e, hb, h⟩
  · exact .inl h
  · refine .inr ⟨b, off, e, hb, fun i x hx => ?_⟩
    have hne := hA _ e
    rw [hk _ _ hb hne, hk _ _ hb hne, hk _ _ hb hne]
    exact h i x hx
theorem RepM.keep {W W' : World} {n0 fb ob s : Nat} {F : FL} {f : Fair} {pre : List Int} {st : List Int × Int} {cnt cnt' : Nat} (h : RepM W n0 fb ob s F f pre st cnt) (hk : KpB (fun k => k = ob ∨ k = s + 1) W.heap.size W W')
    (op : ∃ A c u rd, OBox W' ob F f (.slice A f.q.length c) u ∧ LotsAt W' s A f.q ∧ MaskOf rd u ∧ ∀ g, A = some g → g.block ≠ ob) (K : KnownM W' (s + 1) cnt' (maskV f.q)) : RepM W' n0 fb ob s F f pre st cnt' := by
  have sz := h.sz
  have o1 := h.o1
  have o2 := h.o2
  have o3 := h.o3
  have hb : ∀ k, k < W.heap.size → k ≠ ob → k ≠ s + 1 → W'.heap[k]? = W.heap[k]? := fun k h1 h2 h3 => hk.block k h1 (by rintro (e | e); exact h2 e; exact h3 e)
  have hc : ∀ k o, k < W.heap.size → k ≠ ob → k ≠ s + 1 → W'.cell? ⟨k, o, none⟩ = W.cell? ⟨k, o, none⟩ := fun k o h1 h2 h3 => World.cell?_of_block (hb k h1 h2 h3)
  obtain ⟨A, c, e1, e2, e3⟩ := h.best
  obtain ⟨l, a1, a2, a3⟩ := h.arr
  exact ⟨h.H.keep (Nat.le_refl _) fun b o hlt => hc b o (by omega) (by omega) (by omega), h.x.of (hb _ (by omega) (by omega) (by omega)),
    (hc _ _ (by omega) (by omega) (by omega)).trans h.c0, (hc _ _ (by omega) (by omega) (by omega)).trans h.c2,
    ⟨A, c, (hb _ (by omega) (by omega) (by omega)).trans e1, e2, e3.keep (Nat.le_refl _) hk.size fun b o h1 h2 => hc b o h2 (by omega) (by omega)⟩,
    (hb _ (by omega) (by omega) (by omega)).trans h.most, ⟨l, (hb _ (by omega) (by omega) (by omega)).trans a1, a2, a3⟩,
    (hc _ _ (by omega) (by omega) (by omega)).trans h.c6, (hc _ _ (by omega) (by omega) (by omega)).trans h.c7, op, K, Nat.le_trans sz hk.size, o1, o2, o3⟩
theorem RepM.below {W W' : World} {n0 fb ob s : Nat} {F : FL} {f : Fair} {pre : List Int} {st : List Int × Int} {cnt : Nat} (h : RepM W n0 fb ob s F f pre st cnt) (hb : Below W.heap.size W W') : RepM W' n0 fb ob s F f pre st cnt := by
  obtain ⟨A, c, u, rd, h1, h2, h3, h4⟩ := h.op
  have sz := h.sz
  exact h.keep (kpB_of_below hb) ⟨A, c, u, rd, h1.of (hb.block _ h1.lt), h2.keep (Nat.le_refl _) (fun b o hlt => hb.cell (p := ⟨b, o, none⟩) (by show b < _; omega)), h3, h4⟩ (h.K.below hb)
theorem RepM.cut {W : World} {n0 fb ob s : Nat} {F : FL} {f : Fair} {pre : List Int} {y : Int} {st : List Int × Int} {cnt : Nat} (h : RepM W n0 fb ob s F f (pre ++ [y]) st cnt) : RepM W n0 fb ob s F f pre st cnt := by
  obtain ⟨l, a1, a2, a3⟩ := h.arr
  refine ⟨h.H, h.x, h.c0, h.c2, h.best, h.most, ⟨l, a1, a2, ?_⟩, h.c6, h.c7, h.op, h.K, h.sz, h.o1, h.o2, h.o3⟩
  have := congrArg (List.take pre.length) a3
  rw [List.take_take, List.take_append_of_le_length (Nat.le_refl _), List.take_length] at this
  rwa [List.length_append, Nat.min_eq_left (by omega)] at this
theorem RepM.put {W : World} {n0 fb ob s : Nat} {F : FL} {f : Fair} {pre : List Int} {st : List Int × Int} {cnt : Nat} (h : RepM W n0 fb ob s F f pre st cnt) (hj : pre.length < f.pk.length) (y : Int) : RepM (W.setCell ⟨s + 5, pre.length, none⟩ (.int .i64 y)) n0 fb ob s F f (pre ++ [y]) st cnt := by
  have sz := h.sz
  have o1 := h.o1
  have o2 := h.o2
  have o3 := h.o3
  have hb : ∀ k, k < W.heap.size → k ≠ s + 5 → (W.setCell ⟨s + 5, pre.length, none⟩ (.int .i64 y)).heap[k]? = W.heap[k]? := fun k h1 h2 => set_other_heap h1 h2
  have hc : ∀ k o, k < W.heap.size → k ≠ s + 5 → (W.setCell ⟨s + 5, pre.length, none⟩ (.int .i64 y)).cell? ⟨k, o, none⟩ = W.cell? ⟨k, o, none⟩ := fun k o h1 h2 => World.cell?_of_block (hb k h1 h2)
  obtain ⟨A, c, e1, e2, e3⟩ := h.best
  obtain ⟨l, a1, a2, a3⟩ := h.arr
  obtain ⟨A', c', u, rd, h1, h2, h3, h4⟩ := h.op
  have hs := World.size_setCell W ⟨s + 5, pre.length, none⟩ (.int .i64 y)
  refine ⟨h.H.keep (Nat.le_refl _) fun b o hlt => hc b o (by omega) (by omega), h.x.of (hb _ (by omega) (by omega)), (hc _ _ (by omega) (by omega)).trans h.c0, (hc _ _ (by omega) (by omega)).trans h.c2,
    ⟨A, c, (hb _ (by omega) (by omega)).trans e1, e2, e3.keep (Nat.le_refl _) (by rw [hs]; exact Nat.le_refl _) fun b o h1 h2 => hc b o h2 (by omega)⟩, (hb _ (by omega) (by omega)).trans h.most,
    ⟨l.set pre.length y, ?_, by rw [List.length_set]; exact a2, ?_⟩, (hc _ _ (by omega) (by omega)).trans h.c6, (hc _ _ (by omega) (by omega)).trans h.c7,
    ⟨A', c', u, rd, h1.of (hb _ h1.lt (by omega)), h2.keep (Nat.le_refl _) (fun b o hlt => hc b o (by omega) (by omega)), h3, h4⟩, h.K.set (by omega) _ _, by rw [hs]; exact sz, o1, o2, o3⟩
  · rw [heap_set _ a1]
    simp [List.map_set]
  · rw [List.length_append, List.length_singleton, List.take_add_one, List.getElem?_set_self (by omega), List.take_set_of_le (Nat.le_refl _), a3]
    rfl
theorem RepM.full {W : World} {n0 fb ob s : Nat} {F : FL} {f : Fair} {pre : List Int} {st : List Int × Int} {cnt : Nat} (h : RepM W n0 fb ob s F f pre st cnt) (hj : pre.length = f.pk.length) : IntsAt W W.heap.size (some ⟨s + 5, 0, none⟩) pre := by
  obtain ⟨l, a1, a2, a3⟩ := h.arr
  rw [hj, ← a2, List.take_length] at a3
  subst a3
  exact ints_lay a1
theorem RepM.open_ {W : World} {n0 fb ob s : Nat} {F : FL} {f : Fair} {pre : List Int} {st : List Int × Int} {cnt : Nat} (h : RepM W n0 fb ob s F f pre st cnt) : ∃ rd, OpenAt W ob F f rd := by
  obtain ⟨A, c, u, rd, h1, h2, h3, h4⟩ := h.op
  have sz := h.sz
  refine ⟨rd, ⟨A, c, u, h1, h2.keep (by omega) (fun _ _ _ => rfl), h3⟩, fun A2 c2 u2 k g e => ?_⟩
  have := h1.uniq k
  injection this with e1 e2 e3
  subst e1
  exact h4 g e
theorem RepM.on {W W' : World} {n0 fb ob s : Nat} {F : FL} {f : Fair} {pre : List Int} {st : List Int × Int} {cnt cnt' : Nat} {rd : List Int} (h : RepM W n0 fb ob s F f pre st cnt) (hk : KpB (fun k => k = ob ∨ k = s + 1) W.heap.size W W') (hO : OpenAt W' ob F f rd) (h8 : W'.cell? ⟨ob, 8, none⟩ = W.cell? ⟨ob, 8, none⟩) (K : KnownM W' (s + 1) cnt' (maskV f.q)) : RepM W' n0 fb ob s F f pre st cnt' := by
  obtain ⟨A, c, u, rd0, h1, h2, h3, h4⟩ := h.op
  obtain ⟨A2, c2, u2, g1, g2, g3⟩ := hO.ex
  have sz := h.sz
  have e1 := g1.cells.2.2.2.2.2.2.2.2.1
  rw [h8, h1.cells.2.2.2.2.2.2.2.2.1] at e1
  injection e1 with e1
  injection e1 with e2 e3 e4
  subst e2
  exact h.keep hk ⟨A, c2, u2, rd, g1, h2.keptB h4 (fun b o hb hne => hk.cell (by omega) (by rintro (e | e) <;> omega)), g3, h4⟩ K
theorem RepM.take {W : World} {n0 fb ob s : Nat} {F : FL} {f : Fair} {pre : List Int} {st : List Int × Int} {cnt : Nat} {v : Int} {A : Option Addr} {c : Nat} (h : RepM W n0 fb ob s F f pre st cnt) (hA : A = none → c = 0 ∧ pre = []) (hI : IntsIn W (s + 8) W.heap.size A pre) :
    RepM ((W.setCell ⟨s + 3, 0, none⟩ (.slice A pre.length c)).setCell ⟨s + 4, 0, none⟩ (.int .i64 v)) n0 fb ob s F f pre (pre, v) cnt := by
  have sz := h.sz
  have o1 := h.o1
  have o2 := h.o2
  have o3 := h.o3
  obtain ⟨A0, c0, e1, e2, e3⟩ := h.best
  obtain ⟨l, a1, a2, a3⟩ := h.arr
  obtain ⟨A', c', u, rd, h1, h2, h3, h4⟩ := h.op
  have s1 := heap_set (.slice A pre.length c) (o := 0) e1
  have hs1 := World.size_setCell W ⟨s + 3, 0, none⟩ (.slice A pre.length c)
  have hs2 := World.size_setCell (W.setCell ⟨s + 3, 0, none⟩ (.slice A pre.length c)) ⟨s + 4, 0, none⟩ (.int .i64 v)
  have hb : ∀ k, k < W.heap.size → k ≠ s + 3 → k ≠ s + 4 → ((W.setCell ⟨s + 3, 0, none⟩ (.slice A pre.length c)).setCell ⟨s + 4, 0, none⟩ (.int .i64 v)).heap[k]? = W.heap[k]? := fun k h1 h2 h3 => (set_other_heap (by rw [hs1]; exact h1) h3).trans (set_other_heap h1 h2)
  have hc : ∀ k o, k < W.heap.size → k ≠ s + 3 → k ≠ s + 4 → ((W.setCell ⟨s + 3, 0, none⟩ (.slice A pre.length c)).setCell ⟨s + 4, 0, none⟩ (.int .i64 v)).cell? ⟨k, o, none⟩ = W.cell? ⟨k, o, none⟩ := fun k o h1 h2 h3 => World.cell?_of_block (hb k h1 h2 h3)
  have m1 : (W.setCell ⟨s + 3, 0, none⟩ (.slice A pre.length c)).heap[s + 4]? = some (.cells #[.int .i64 st.2] 3 (0, 0)) := (set_other_heap (by omega) (by omega)).trans h.most
  have s2 := heap_set (.int .i64 v) (o := 0) m1
  refine ⟨h.H.keep (Nat.le_refl _) fun b o hlt => hc b o (by omega) (by omega) (by omega), h.x.of (hb _ (by omega) (by omega) (by omega)), (hc _ _ (by omega) (by omega) (by omega)).trans h.c0, (hc _ _ (by omega) (by omega) (by omega)).trans h.c2,
    ⟨A, c, ?_, hA, hI.keep (Nat.le_refl _) (by rw [hs2, hs1]; exact Nat.le_refl _) fun b o h1 h2 => hc b o h2 (by omega) (by omega)⟩, s2, ⟨l, (hb _ (by omega) (by omega) (by omega)).trans a1, a2, a3⟩,
    (hc _ _ (by omega) (by omega) (by omega)).trans h.c6, (hc _ _ (by omega) (by omega) (by omega)).trans h.c7,
    ⟨A', c', u, rd, h1.of (hb _ h1.lt (by omega) (by omega)), h2.keep (Nat.le_refl _) (fun b o hlt => hc b o (by omega) (by omega) (by omega)), h3, h4⟩, (h.K.set (by omega) _ _).set (by omega) _ _, by rw [hs2, hs1]; exact sz, o1, o2, o3⟩
  exact (set_other_heap (by rw [hs1]; omega) (by omega)).trans s1
set_option maxRecDepth 100000 in
set_option maxHeartbeats 4000000 in
theorem rep_end (F : FL) (f : Fair) (hn : FN f) (hf : FOK f) (n0 fb ob s : Nat) (pre : List Int) (hp : pre.length = f.pk.length) (st : List Int × Int) (cnt : Nat) (w : World) (hR : RepM w n0 fb ob s F f pre st cnt) (hcnt : cnt ≤ 1000) :
    Calls Try.prog 95 #[.int .i64 (pre.length : Int), .pointer (some ⟨s + 6, 0, none⟩), .pointer (some ⟨fb, 0, none⟩), .pointer (some ⟨s + 7, 0, none⟩), .pointer (some ⟨s, 0, none⟩), .pointer (some ⟨s + 2, 0, none⟩), .pointer (some ⟨s + 4, 0, none⟩), .pointer (some ⟨s + 3, 0, none⟩)] w fun e w' => e = .returned (.tuple #[]) ∧ KpB (fun k => k = ob ∨ k = s + 1 ∨ k = s + 3 ∨ k = s + 4 ∨ k = s + 5) w.heap.size w w' ∧ RepM w' n0 fb ob s F f pre (bestP f st (packsF f 0 pre)) (cnt + (packsF f 0 pre).length) := by
  have hl1000 : pre.length ≤ 1000 := by rw [hp]; exact hn.p
  have H86 := Lib.hid (fun W hW hI => by
    have h := Good_any F.L f.h hn.h pre hl1000 (some ⟨s + 5, 0, none⟩) f.pk.length W hW hI
    rw [hp] at h
    exact h)
  have hsz := hR.sz
  have o1 := hR.o1
  have o2 := hR.o2
  have o3 := hR.o3
  obtain ⟨x0, x1, x2, x3, x4, x5, x6, x7⟩ := hR.x.cells
  have y6 := hR.c6
  have hdl : decide ((pre.length : Int) < (f.pk.length : Int)) = false := decide_eq_false (by omega)
  have hdl2 : decide (pre.length < f.pk.length) = false := decide_eq_false (by omega)
  have HR := Lib.hid hR
  have HI := Lib.hid (hR.full hp)
  have HH := Lib.hid (hR.H.keep (B' := w.heap.size) (by omega) fun _ _ _ => rfl)
  have HPL := Lib.hid hp
  cases hg : goodB f.h pre
  · have HPK := Lib.hid (show packsF f 0 pre = [] by unfold packsF; rw [hg]; rfl)
    rw [good_is2 hf.h hg] at H86
    clear hR hn hf hg hp
    obtain ⟨L, Ap, cp, Aq, cq⟩ := F
    go_enter Try.func95, Try.ntmps95
    go_wp2_with (go_at_call 86; refine (H86.out _ HH.out.h HI.out).mono ?_; rintro e w1 ⟨rfl, hb⟩; have B1 := Lib.hid hb; have R1 := Lib.hid (HR.out.below hb); clear hb)
    refine bodyPost_end (results_none rfl _ _ _) rfl ⟨rfl, kpB_of_below B1.out, ?_⟩
    rw [HPK.out]
    exact R1.out
  · have HPK := Lib.hid (show packsF f 0 pre = [pre] by unfold packsF; rw [hg]; rfl)
    rw [good_is2 hf.h hg] at H86
    have HON := Lib.hid (fun rd W (hW : n0 ≤ W.heap.size) hF hP hO hM => (by
      have h := on8_any F f hn hf rd ob (s + 1) n0 pre hg (some ⟨s + 5, 0, none⟩) f.pk.length f.day cnt (by omega) W hW hF hP hO hM
      rw [hp] at h
      exact h : Calls Try.prog 71 #[.pointer (some ⟨ob, 0, none⟩), .slice (some ⟨s + 5, 0, none⟩) f.pk.length f.pk.length, .int .i64 f.day, .map (some (s + 1))] W fun e w' => e = .returned (.int .i64 (gP f pre)) ∧ KpB (fun k => k = ob ∨ k = s + 1) W.heap.size W w' ∧ OpenAt w' ob F f (readyL f.h pre f.day) ∧ w'.cell? ⟨ob, 8, none⟩ = W.cell? ⟨ob, 8, none⟩ ∧ KnownM w' (s + 1) (cnt + 1) (maskV f.q)))
    have HST := Lib.hid (show bestP f st [pre] = if st.2 < gP f pre then (pre, gP f pre) else st from rfl)
    have HCL := Lib.hid (fun W hI => (by
      have h := cloneI_any (s + 5) 0 f.pk.length pre hl1000 W hI
      rw [hp] at h
      exact h : Calls Try.prog 96 #[.slice (some ⟨s + 5, 0, none⟩) f.pk.length f.pk.length] W fun e w' => (∃ v, e = .returned v ∧ Ints w' W.heap.size v pre) ∧ Below W.heap.size W w'))
    generalize gP f pre = g at HON HST
    clear hR hn hf hg hp
    obtain ⟨L, Ap, cp, Aq, cq⟩ := F
    by_cases hlt : st.2 < g
    · have hd : decide (st.2 < g) = true := decide_eq_true hlt
      rw [if_pos hlt] at HST
      clear hlt
      go_enter Try.func95, Try.ntmps95
      go_wp2_with (first
        | (go_at_call 86; refine (H86.out _ HH.out.h HI.out).mono ?_; rintro e w1 ⟨rfl, hb⟩; have B1 := Lib.hid hb; have R1 := Lib.hid (HR.out.below hb); have z0 := R1.out.c0; have z2 := R1.out.c2; have z6 := R1.out.c6; obtain ⟨x0, x1, x2, x3, x4, x5, x6, x7⟩ := R1.out.x.cells; clear hb)
        | (go_at_call 71; obtain ⟨rd1, hO1⟩ := R1.out.open_; refine (HON.out rd1 w1 (by have := B1.out.size; omega) R1.out.H (R1.out.full HPL.out) hO1 R1.out.K).mono ?_; rintro e w2 ⟨rfl, hk2, hO2, h8, hM2⟩; have R2 := Lib.hid (R1.out.on hk2 hO2 h8 hM2); have HK2 : Hid (KpB (fun k => k = ob ∨ k = s + 1 ∨ k = s + 3 ∨ k = s + 4 ∨ k = s + 5) w.heap.size w w2) := Lib.hid ((kpB_of_below B1.out).trans (hk2.mono B1.out.size (fun k _ h => by rcases h with h | h; exact .inl h; exact .inr (.inl h)))); have z6 := R2.out.c6; have z4 := cell_of_heap (o := 0) R2.out.most rfl; clear hk2 hO2 h8 hM2 hO1)
        | (go_at_call 96; refine (HCL.out w2 (R2.out.full HPL.out)).mono ?_; rintro e w3 ⟨⟨v, rfl, hv⟩, hb⟩; have B3 := Lib.hid hb; have R3 := Lib.hid (R2.out.below hb); obtain ⟨A3, c3, rfl, hA3, hle, hI3⟩ := hv.lay; have HA3 := Lib.hid hA3; have HI3 := Lib.hid (hI3.keep (show s + 8 ≤ _ from R2.out.sz) (Nat.le_refl _) fun _ _ _ _ => rfl); obtain ⟨A8, c8, hb3, -, -⟩ := R3.out.best; have q3 := cell_of_heap (o := 0) hb3 rfl; have qf3 := frozen_of_heap hb3; have q4 := cell_of_heap (o := 0) R3.out.most rfl; have qf4 := frozen_of_heap R3.out.most; clear hb hv hI3 hA3 hb3))
      refine bodyPost_end (results_none rfl _ _ _) rfl ⟨rfl, ?_, ?_⟩
      · exact ((HK2.out.trans ((kpB_of_below B3.out).mono HK2.out.size fun _ _ h => h)).set 0 _ (.inl (.inr (.inr (.inl rfl))))).set 0 _ (.inl (.inr (.inr (.inr (.inl rfl)))))
      · rw [HPK.out, HST.out]
        exact R3.out.take HA3.out HI3.out
    · have hd : decide (st.2 < g) = false := decide_eq_false hlt
      rw [if_neg hlt] at HST
      clear hlt
      go_enter Try.func95, Try.ntmps95
      go_wp2_with (first
        | (go_at_call 86; refine (H86.out _ HH.out.h HI.out).mono ?_; rintro e w1 ⟨rfl, hb⟩; have B1 := Lib.hid hb; have R1 := Lib.hid (HR.out.below hb); have z0 := R1.out.c0; have z2 := R1.out.c2; have z6 := R1.out.c6; obtain ⟨x0, x1, x2, x3, x4, x5, x6, x7⟩ := R1.out.x.cells; clear hb)
        | (go_at_call 71; obtain ⟨rd1, hO1⟩ := R1.out.open_; refine (HON.out rd1 w1 (by have := B1.out.size; omega) R1.out.H (R1.out.full HPL.out) hO1 R1.out.K).mono ?_; rintro e w2 ⟨rfl, hk2, hO2, h8, hM2⟩; have R2 := Lib.hid (R1.out.on hk2 hO2 h8 hM2); have HK2 : Hid (KpB (fun k => k = ob ∨ k = s + 1 ∨ k = s + 3 ∨ k = s + 4 ∨ k = s + 5) w.heap.size w w2) := Lib.hid ((kpB_of_below B1.out).trans (hk2.mono B1.out.size (fun k _ h => by rcases h with h | h; exact .inl h; exact .inr (.inl h)))); have z6 := R2.out.c6; have z4 := cell_of_heap (o := 0) R2.out.most rfl; clear hk2 hO2 h8 hM2 hO1))
      refine bodyPost_end (results_none rfl _ _ _) rfl ⟨rfl, HK2.out, ?_⟩
      rw [HPK.out, HST.out]
      exact R2.out
set_option maxRecDepth 100000 in
set_option maxHeartbeats 4000000 in
theorem rep_any (F : FL) (f : Fair) (hn : FN f) (hf : FOK f) (n0 fb ob s : Nat) : ∀ (m : Nat) (pre : List Int), pre.length + m = f.pk.length → ∀ (st : List Int × Int) (cnt : Nat) (w : World), RepM w n0 fb ob s F f pre st cnt → cnt + (packsF f m pre).length ≤ 1000 →
    Calls Try.prog 95 #[.int .i64 (pre.length : Int), .pointer (some ⟨s + 6, 0, none⟩), .pointer (some ⟨fb, 0, none⟩), .pointer (some ⟨s + 7, 0, none⟩), .pointer (some ⟨s, 0, none⟩), .pointer (some ⟨s + 2, 0, none⟩), .pointer (some ⟨s + 4, 0, none⟩), .pointer (some ⟨s + 3, 0, none⟩)] w fun e w' => e = .returned (.tuple #[]) ∧ KpB (fun k => k = ob ∨ k = s + 1 ∨ k = s + 3 ∨ k = s + 4 ∨ k = s + 5) w.heap.size w w' ∧ RepM w' n0 fb ob s F f pre (bestP f st (packsF f m pre)) (cnt + (packsF f m pre).length) := by
  intro m
  induction m with
  | zero =>
    intro pre hp st cnt w hR hc
    exact rep_end F f hn hf n0 fb ob s pre (by omega) st cnt w hR (by omega)
  | succ m ih =>
    intro pre hp st cnt w hR hc
    have hpn := hn.p
    have hdl : decide ((pre.length : Int) < (f.pk.length : Int)) = true := decide_eq_true (by omega)
    have hdl2 : decide (pre.length < f.pk.length) = true := decide_eq_true (by omega)
    have hj : pre.length < f.pk.length := by omega
    have hbl := hf.bl
    have HIH := Lib.hid (fun (k : Nat) (st : List Int × Int) (cnt : Nat) W (hR : RepM W n0 fb ob s F f (pre ++ [(k : Int)]) st cnt) (hc : cnt + (packsF f m (pre ++ [(k : Int)])).length ≤ 1000) => (by
      have h := ih (pre ++ [(k : Int)]) (by rw [List.length_append, List.length_singleton]; omega) st cnt W hR hc
      rw [show (((pre ++ [(k : Int)]).length : Nat) : Int) = (pre.length : Int) + 1 by simp] at h
      exact h : Calls Try.prog 95 #[.int .i64 ((pre.length : Int) + 1), .pointer (some ⟨s + 6, 0, none⟩), .pointer (some ⟨fb, 0, none⟩), .pointer (some ⟨s + 7, 0, none⟩), .pointer (some ⟨s, 0, none⟩), .pointer (some ⟨s + 2, 0, none⟩), .pointer (some ⟨s + 4, 0, none⟩), .pointer (some ⟨s + 3, 0, none⟩)] W fun e w' => e = .returned (.tuple #[]) ∧ KpB (fun k => k = ob ∨ k = s + 1 ∨ k = s + 3 ∨ k = s + 4 ∨ k = s + 5) W.heap.size W w' ∧ RepM w' n0 fb ob s F f (pre ++ [(k : Int)]) (bestP f st (packsF f m (pre ++ [(k : Int)]))) (cnt + (packsF f m (pre ++ [(k : Int)])).length)))
    have HLE := Lib.hid (fun k (hk : k ≤ f.h.bs.length) => (by
      rw [← packsTo_all] at hc
      have h1 : (packsTo f m pre k).length ≤ (packsTo f m pre f.h.bs.length).length := by
        exact packsTo_mono hk
      omega : cnt + (packsTo f m pre k).length ≤ 1000))
    have HR := Lib.hid hR
    obtain ⟨x0, x1, x2, x3, x4, x5, x6, x7⟩ := hR.x.cells
    have y6 := hR.c6
    clear ih hR hn hf hc hp
    obtain ⟨L, Ap, cp, Aq, cq⟩ := F
    go_enter Try.func95, Try.ntmps95
    go_wp2_with (fail)
    clear x0 x1 x2 x3 x4 x5 x6 x7 y6
    go_loopw [20] (fun i wr => ∃ k : Nat, k ≤ f.h.bs.length ∧ i = .int .i64 k ∧ Hid (RepM wr n0 fb ob s ⟨L, Ap, cp, Aq, cq⟩ f pre (bestP f st (packsTo f m pre k)) (cnt + (packsTo f m pre k).length)) ∧ Hid (KpB (fun k => k = ob ∨ k = s + 1 ∨ k = s + 3 ∨ k = s + 4 ∨ k = s + 5) w.heap.size w wr)) (fun i _ => f.h.bs.length - (intOf i).toNat)
    case atStart => exact ⟨0, Nat.zero_le _, rfl, HR, Lib.hid (KpB.refl _ _ _)⟩
    case round =>
      obtain ⟨k, hk, rfl, hRr, hkp⟩ := hrel
      by_cases hlt : k < f.h.bs.length
      · have hP := hRr.out.put hj (k : Int)
        have HT := Lib.hid (packsTo_succ f m pre k)
        have hc2 := HLE.out (k + 1) hlt
        rw [HT.out, List.length_append, ← Nat.add_assoc] at hc2
        have HC := Lib.hid (HIH.out k _ _ _ hP hc2)
        obtain ⟨l, a1, a2, a3⟩ := hRr.out.arr
        have q5 : ∃ v, wr.cell? ⟨s + 5, pre.length, none⟩ = some v := by
          have hlt3 : pre.length < (l.map (Value.int .i64)).toArray.size := by simp; omega
          exact ⟨_, cell_of_heap a1 (Array.getElem?_eq_getElem hlt3)⟩
        obtain ⟨v5, q5⟩ := q5
        have qf := frozen_of_heap a1
        have z6 := hRr.out.c6
        have z7 := hP.c7
        have HP := Lib.hid hP
        clear hP hc2 a1 a2 a3
        go_wp2_with (go_at_call 95; refine HC.out.mono ?_; rintro e w5 ⟨rfl, hk5, hR5⟩; have HK5 := Lib.hid hk5; have HR5 := Lib.hid hR5; clear hk5 hR5)
        go_roundw
        case rel => exact ⟨k + 1, by omega, by go_num, Lib.hid (by rw [HT.out, bestP_app, List.length_append, ← Nat.add_assoc]; exact HR5.out.cut), Lib.hid ((hkp.out.set _ _ (.inl (.inr (.inr (.inr (.inr rfl)))))).trans (HK5.out.mono (by rw [World.size_setCell]; exact hkp.out.size) fun _ _ h => h))⟩
        case measure => simp [intOf]; omega
      · obtain rfl : k = f.h.bs.length := by omega
        go_wp2_with (fail)
        refine bodyPost_ret (results_none rfl _ _ _) rfl ⟨rfl, hkp.out, ?_⟩
        have h := hRr.out
        rw [packsTo_all] at h
        exact h

end Go.Proofs.Ytmconopnplgcfaa
