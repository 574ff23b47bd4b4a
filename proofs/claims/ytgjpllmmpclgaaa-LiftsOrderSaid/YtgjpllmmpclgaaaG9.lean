import Derived.Test.YtgjpllmmpclgaaaG8
import Derived.Test.YtgjpllmmpclgaaaM11
namespace Go.Proofs.Ytgjpllmmpclgaaa
open Go.RowKit

/-! LiftsOrder: the walk. -/
/-- What LiftsOrder keeps. -/
structure TurnM (w W : World) (L : SL) (s : Sea) : Prop where
  B : Below w.heap.size w W
  x : SBox W w.heap.size L s
  H : SeaAt w w.heap.size L s
theorem TurnM.sea {w W : World} {L : SL} {s : Sea} (M : TurnM w W L s) : SeaAt W W.heap.size L s := M.H.below M.B
theorem TurnM.next {w W W' : World} {L : SL} {s : Sea} (M : TurnM w W L s) (hb : Below W.heap.size W W') : TurnM w W' L s := ⟨hb0to M.B hb, M.x.of (hb.block _ M.x.lt), M.H⟩
theorem TurnM.set {w W : World} {L : SL} {s : Sea} (M : TurnM w W L s) {g o : Nat} {u : Value} (hg : w.heap.size + 1 ≤ g) : TurnM w (W.setCell ⟨g, o, none⟩ u) L s :=
  ⟨M.B.setCell (p := ⟨g, o, none⟩) (by show w.heap.size ≤ g; omega) u, M.x.of (set_other_heap M.x.lt (by omega)), M.H⟩
theorem TurnM.new {w : World} {L : SL} {s : Sea} (hH : SeaAt w w.heap.size L s) : TurnM w (w.alloc (.cells #[.int .i64 s.wl, .int .i64 s.wh, .slice L.Ap s.ps.length L.cp, .slice L.Ab s.bs.length L.cb] 27)) L s := ⟨al_below w _, SBox.new w L s, hH⟩
/-- A slot of the copy's places, or boats, can be written. -/
theorem OBox.putP {W : World} {n0 z : Nat} {L : SL} {s : Sea} (h : OBox W n0 z L s) {i : Nat} (hi : i < s.ps.length) : ∃ g, L.Ap = some ⟨g, 0, none⟩ ∧ n0 ≤ g ∧ g ≠ z ∧ (∀ q, W.frozen? ⟨g, q, none⟩ = false) ∧ (∃ y x, W.cell? ⟨g, i * 2, none⟩ = some (.int .i64 y) ∧ W.cell? ⟨g, i * 2 + 1, none⟩ = some (.int .i64 x)) ∧ ∀ x : Int × Int, OBox ((W.setCell ⟨g, i * 2, none⟩ (.int .i64 x.1)).setCell ⟨g, i * 2 + 1, none⟩ (.int .i64 x.2)) n0 z L { s with ps := s.ps.set i x } := by
  obtain ⟨g, hA, hg, arr, harr⟩ := h.C.p.some_ (by omega)
  have hp := h.C.p
  rw [hA] at hp
  obtain ⟨_, f1, f2⟩ := OwnsP.setAt hp hi (0, 0)
  refine ⟨g, hA, hg, fun e => ?_, f1, f2, fun x => h.setP hA hi x⟩
  have hz := h.x
  unfold SBox at hz
  rw [← e, harr] at hz
  cases hz
theorem OBox.putB {W : World} {n0 z : Nat} {L : SL} {s : Sea} (h : OBox W n0 z L s) {i : Nat} (hi : i < s.bs.length) : ∃ g, L.Ab = some ⟨g, 0, none⟩ ∧ n0 ≤ g ∧ g ≠ z ∧ (∀ q, W.frozen? ⟨g, q, none⟩ = false) ∧ (∃ y x, W.cell? ⟨g, i * 2, none⟩ = some (.int .i64 y) ∧ W.cell? ⟨g, i * 2 + 1, none⟩ = some (.int .i64 x)) ∧ ∀ x : Int × Int, OBox ((W.setCell ⟨g, i * 2, none⟩ (.int .i64 x.1)).setCell ⟨g, i * 2 + 1, none⟩ (.int .i64 x.2)) n0 z L { s with bs := s.bs.set i x } := by
  obtain ⟨g, hA, hg, arr, harr⟩ := h.C.b.some_ (by omega)
  have hp := h.C.b
  rw [hA] at hp
  obtain ⟨_, f1, f2⟩ := OwnsP.setAt hp hi (0, 0)
  refine ⟨g, hA, hg, fun e => ?_, f1, f2, fun x => h.setB hA hi x⟩
  have hz := h.x
  unfold SBox at hz
  rw [← e, harr] at hz
  cases hz
theorem OBox.grow0 {W : World} {n0 n z : Nat} {L : SL} {s : Sea} (h : OBox W n0 z L s) (hn : n ≤ n0) : OBox W n z L s := ⟨⟨h.C.p.mono hn, h.C.b.mono hn⟩, h.x⟩
set_option maxRecDepth 100000 in
set_option maxHeartbeats 4000000 in
theorem order_lt (L : SL) (s : Sea) (hS : SOK s) (hok : SLOK L s) (xp xb : Int) (hlt3 : xp < xb) (h0 : 0 ≤ xp ∧ xp ≤ 100 ∧ 0 ≤ xb ∧ xb ≤ 100) (q r : Nat) (hq : q ≤ s.ps.length) (hr : r ≤ s.bs.length)
    (Hq : Hid (∀ k : Nat, k < s.ps.length → ((k : Int) + xp) % (s.ps.length : Int) = (fromP s.ps.length q k : Int)))
    (Hr : Hid (∀ k : Nat, k < s.bs.length → ((k : Int) + xb) % (s.bs.length : Int) = (fromP s.bs.length r k : Int))) (ch mo : Int)
    (HR : Hid (∀ W, SeaAt W W.heap.size L s → Calls Try.prog 16 #[L.enc s] W fun e w' => e = .returned (.bool true) ∧ Below W.heap.size W w'))
    (H36 : Hid (∀ (L2 : SL) (g : Sea), g = s ∨ g = turnS s q r → ∀ W, SeaAt W W.heap.size L2 g → Calls Try.prog 36 #[L2.enc g] W fun e w' => e = .returned (.tuple #[.int .i64 ch, .bool true]) ∧ Below W.heap.size W w'))
    (H34 : Hid (∀ (L2 : SL) (g : Sea), g = s ∨ g = turnS s q r → ∀ W, SeaAt W W.heap.size L2 g → Calls Try.prog 34 #[L2.enc g] W fun e w' => e = .returned (.tuple #[.int .i64 mo, .bool true]) ∧ Below W.heap.size W w'))
    (w : World) (hH : SeaAt w w.heap.size L s) :
    Calls Try.prog 7 #[L.enc s, .int .i64 xp, .int .i64 xb] w fun e w' => e = .returned (.bool true) ∧ Below w.heap.size w w' := by
  have HW0 := Lib.hid (show w.alloc (.cells #[.int .i64 s.wl, .int .i64 s.wh, .slice L.Ap s.ps.length L.cp, .slice L.Ab s.bs.length L.cb] 27) = w.alloc (.cells #[.int .i64 s.wl, .int .i64 s.wh, .slice L.Ap s.ps.length L.cp, .slice L.Ab s.bs.length L.cb] 27) from rfl)
  have hM := TurnM.new hH
  obtain ⟨W0, hW0⟩ : ∃ W0, w.alloc (.cells #[.int .i64 s.wl, .int .i64 s.wh, .slice L.Ap s.ps.length L.cp, .slice L.Ab s.bs.length L.cb] 27) = W0 := ⟨_, rfl⟩
  rw [hW0] at hM
  have HW0 := Lib.hid hW0
  have M0 := Lib.hid hM
  have HN := Lib.hid (show s.ps.length ≤ 1000 ∧ s.bs.length ≤ 1000 from ⟨by have := hS.pl; omega, by have := hS.bl; omega⟩)
  have hbl := hS.bl
  have hpl := hS.pl
  obtain ⟨c0, c1, c2, c3⟩ := M0.out.x.cells
  have HOK' := Lib.hid hok
  have HRR := Lib.hid hr
  have HQQ := Lib.hid hq
  clear hW0 hM hH hS hok hr hq
  obtain ⟨xp0, xp1, xb0, xb1⟩ := h0
  have hle3 : xp ≤ xb := by omega
  obtain ⟨Ap, cp, Ab, cb⟩ := L
  go_enter Try.func7, Try.ntmps7
  go_upto_region 1 with (fail)
  have e := HW0.out
  rw [e]
  clear e
  go_wp2_with (first
    | (go_at_call 16; refine (HR.out W0 M0.out.sea).mono ?_; rintro e w1 ⟨rfl, hb1⟩; have M1 := Lib.hid (M0.out.next hb1); obtain ⟨r0, r1, r2, r3⟩ := M1.out.x.cells; clear hb1)
    | (go_at_call 37; refine (copy_any _ s HN.out HOK'.out w1 M1.out.sea).mono ?_; rintro e w2 ⟨⟨⟨Bp, dp, Bb, db⟩, rfl, hC⟩, hb2⟩; have hM2 := M1.out.next hb2; have hO2 := (OBox.new hC).grow0 (n := w.heap.size + 1) M1.out.x.lt; have M2 := Lib.hid (hM2.next (al_below w2 (.cells #[.int .i64 s.wl, .int .i64 s.wh, .slice Bp s.ps.length dp, .slice Bb s.bs.length db] 27))); have O2 := Lib.hid hO2; obtain ⟨s0, s1, s2, s3⟩ := M2.out.x.cells; have hs2 : w.heap.size < w2.heap.size := hM2.x.lt; clear hC hb2 hM2 hO2))
  clear c0 c1 c2 c3 r0 r1 r2 r3 s0 s1 s2 s3
  have hne1 : ¬ w2.heap.size = w.heap.size := by omega
  have hne2 : ¬ w.heap.size = w2.heap.size := by omega
  go_loopw [8] (fun i wr => ∃ k : Nat, k ≤ s.ps.length ∧ i = .int .i64 k ∧ Hid (TurnM w wr ⟨Ap, cp, Ab, cb⟩ s) ∧ Hid (OBox wr (w.heap.size + 1) w2.heap.size ⟨Bp, dp, Bb, db⟩ { s with ps := mixL s.ps (rotL s.ps q) k })) (fun i _ => s.ps.length - (intOf i).toNat)
  case atStart => exact ⟨0, Nat.zero_le _, rfl, M2, Lib.hid (by rw [mixL_zero]; exact O2.out)⟩
  case round =>
    obtain ⟨k, hk, rfl, MR, OR⟩ := hrel
    obtain ⟨g0, g1, g2, g3⟩ := MR.out.x.cells
    obtain ⟨z0, z1, z2, z3⟩ := OR.out.x.cells
    have hml : (mixL s.ps (rotL s.ps q) k).length = s.ps.length := mixL_len (rotL_len _ _) k
    simp only [hml] at z2
    by_cases hlt : k < s.ps.length
    · obtain ⟨gB, eB, hgs, hgb, hfz, ⟨y, yy, hy, hy2⟩, hput⟩ := OR.out.putP (i := k) (by show k < (mixL s.ps (rotL s.ps q) k).length; rw [hml]; exact hlt)
      simp only at eB
      rw [eB] at z2
      have hrem := Hq.out k hlt
      have hidl : fromP s.ps.length q k < s.ps.length := by have := HQQ.out; unfold fromP; split <;> omega
      have hrx0 : (rotL s.ps q)[k]? = s.ps[fromP s.ps.length q k]? := rotL_at HQQ.out hlt
      obtain ⟨idx, hidx⟩ : ∃ idx, fromP s.ps.length q k = idx := ⟨_, rfl⟩
      rw [hidx] at hrem hidl hrx0
      obtain ⟨⟨x, xx⟩, hx⟩ : ∃ x, s.ps[idx]? = some x := ⟨_, List.getElem?_eq_getElem hidl⟩
      have hrx := hrx0.trans hx
      obtain ⟨b1, o1, eA, b1lt, cx0, cy0⟩ := MR.out.H.p.at_ hx
      have cx := (MR.out.B.cell (p := ⟨b1, o1 + idx * 2, none⟩) b1lt).trans cx0
      have cy := (MR.out.B.cell (p := ⟨b1, o1 + idx * 2 + 1, none⟩) b1lt).trans cy0
      simp only at eA cx cy
      rw [eA] at g2
      have n8' : ¬ gB = b1 := by omega
      have n9' : ¬ b1 = gB := by omega
      have PUT := Lib.hid (hput (x, xx))
      have HNX := Lib.hid (mixL_next (rotL_len s.ps q) hlt hrx)
      have n1' : ¬ gB = w.heap.size := by omega
      have n5' : ¬ w.heap.size = gB := by omega
      have n7' : ¬ w2.heap.size = gB := fun e => hgb e.symm
      clear hx hrx hrx0 hidx hput eA eB hml z0 z1 z3 g0 g1 g3 cx0 cy0
      have hn0 : ¬ (s.ps.length : Int) = 0 := by omega
      have hn1 : ¬ s.ps = [] := fun e => by rw [e] at hlt; simp at hlt
      have hwr : IntKind.i64.wrap ((k : Int) + xp) = (k : Int) + xp := IntWalk.i64_in _ (by omega)
      have hk0 : (0 : Int) ≤ (k : Int) + xp := by omega
      have htm : Int.tmod ((k : Int) + xp) (s.ps.length : Int) = (idx : Int) := by rw [Int.tmod_eq_emod_of_nonneg hk0]; exact hrem
      go_upto_region 7 with (fail)
      go_region_held3 (fun w' => w'.cell? ⟨w.heap.size, 2, none⟩ = some (.slice (some ⟨b1, o1, none⟩) s.ps.length cp) ∧ w'.cell? ⟨w2.heap.size, 2, none⟩ = some (.slice (some ⟨gB, 0, none⟩) s.ps.length dp) ∧ w'.cell? ⟨b1, o1 + idx * 2, none⟩ = some (.int .i64 x) ∧ w'.cell? ⟨b1, o1 + idx * 2 + 1, none⟩ = some (.int .i64 xx)) (first | go_keep) (fail)
      go_wp2_with (fail)
      go_roundw
      case rel => exact ⟨k + 1, by omega, by go_num, Lib.hid (((MR.out.set (o := k * 2) (u := .int .i64 x) hgs).set (o := k * 2 + 1) (u := .int .i64 xx) hgs).next (drew_below _)), Lib.hid (by rw [HNX.out]; exact PUT.out.below (drew_below _))⟩
      case measure => simp [intOf]; omega
    · obtain rfl : k = s.ps.length := by omega
      have O3 := OR.out
      rw [mixL_all (rotL_len _ _)] at O3
      have OB := Lib.hid (show OBox wr (w.heap.size + 1) w2.heap.size ⟨Bp, dp, Bb, db⟩ { s with ps := rotL s.ps q } from O3)
      have MB := MR
      clear O3 z0 z1 z2 z3 hml OR MR
      go_wp2_with (fail)
      go_loopw [9] (fun i wr => ∃ k : Nat, k ≤ s.bs.length ∧ i = .int .i64 k ∧ Hid (TurnM w wr ⟨Ap, cp, Ab, cb⟩ s) ∧ Hid (OBox wr (w.heap.size + 1) w2.heap.size ⟨Bp, dp, Bb, db⟩ { s with ps := rotL s.ps q, bs := mixL s.bs (rotL s.bs r) k })) (fun i _ => s.bs.length - (intOf i).toNat)
      case atStart => exact ⟨0, Nat.zero_le _, rfl, MB, Lib.hid (by rw [mixL_zero]; exact OB.out)⟩
      case round =>
        clear MB OB g0 g1 g2 g3
        obtain ⟨k, hk, rfl, MR, OR⟩ := hrel
        obtain ⟨g0, g1, g2, g3⟩ := MR.out.x.cells
        obtain ⟨z0, z1, z2, z3⟩ := OR.out.x.cells
        have hml : (mixL s.bs (rotL s.bs r) k).length = s.bs.length := mixL_len (rotL_len _ _) k
        simp only [hml] at z3
        by_cases hlt : k < s.bs.length
        · obtain ⟨gB, eB, hgs, hgb, hfz, ⟨y, yy, hy, hy2⟩, hput⟩ := OR.out.putB (i := k) (by show k < (mixL s.bs (rotL s.bs r) k).length; rw [hml]; exact hlt)
          simp only at eB
          rw [eB] at z3
          have hrem := Hr.out k hlt
          have hidl : fromP s.bs.length r k < s.bs.length := by have := HRR.out; unfold fromP; split <;> omega
          have hrx0 : (rotL s.bs r)[k]? = s.bs[fromP s.bs.length r k]? := rotL_at HRR.out hlt
          obtain ⟨idx, hidx⟩ : ∃ idx, fromP s.bs.length r k = idx := ⟨_, rfl⟩
          rw [hidx] at hrem hidl hrx0
          obtain ⟨⟨x, xx⟩, hx⟩ : ∃ x, s.bs[idx]? = some x := ⟨_, List.getElem?_eq_getElem hidl⟩
          have hrx := hrx0.trans hx
          obtain ⟨b1, o1, eA, b1lt, cx0, cy0⟩ := MR.out.H.b.at_ hx
          have cx := (MR.out.B.cell (p := ⟨b1, o1 + idx * 2, none⟩) b1lt).trans cx0
          have cy := (MR.out.B.cell (p := ⟨b1, o1 + idx * 2 + 1, none⟩) b1lt).trans cy0
          simp only at eA cx cy
          rw [eA] at g3
          have n8' : ¬ gB = b1 := by omega
          have n9' : ¬ b1 = gB := by omega
          have PUT := Lib.hid (hput (x, xx))
          have HNX := Lib.hid (mixL_next (rotL_len s.bs r) hlt hrx)
          have n1' : ¬ gB = w.heap.size := by omega
          have n5' : ¬ w.heap.size = gB := by omega
          have n7' : ¬ w2.heap.size = gB := fun e => hgb e.symm
          clear hx hrx hrx0 hidx hput eA eB hml z0 z1 z2 g0 g1 g2 cx0 cy0
          have hn0 : ¬ (s.bs.length : Int) = 0 := by omega
          have hn1 : ¬ s.bs = [] := fun e => by rw [e] at hlt; simp at hlt
          have hwr : IntKind.i64.wrap ((k : Int) + xb) = (k : Int) + xb := IntWalk.i64_in _ (by omega)
          have hk0 : (0 : Int) ≤ (k : Int) + xb := by omega
          have htm : Int.tmod ((k : Int) + xb) (s.bs.length : Int) = (idx : Int) := by rw [Int.tmod_eq_emod_of_nonneg hk0]; exact hrem
          go_upto_region 11 with (fail)
          go_region_held3 (fun w' => w'.cell? ⟨w.heap.size, 3, none⟩ = some (.slice (some ⟨b1, o1, none⟩) s.bs.length cb) ∧ w'.cell? ⟨w2.heap.size, 3, none⟩ = some (.slice (some ⟨gB, 0, none⟩) s.bs.length db) ∧ w'.cell? ⟨b1, o1 + idx * 2, none⟩ = some (.int .i64 x) ∧ w'.cell? ⟨b1, o1 + idx * 2 + 1, none⟩ = some (.int .i64 xx)) (first | go_keep) (fail)
          go_wp2_with (fail)
          go_roundw
          case rel => exact ⟨k + 1, by omega, by go_num, Lib.hid (((MR.out.set (o := k * 2) (u := .int .i64 x) hgs).set (o := k * 2 + 1) (u := .int .i64 xx) hgs).next (drew_below _)), Lib.hid (by rw [HNX.out]; exact PUT.out.below (drew_below _))⟩
          case measure => simp [intOf]; omega
        · obtain rfl : k = s.bs.length := by omega
          have O3 := OR.out
          rw [mixL_all (rotL_len _ _)] at O3
          have OB := Lib.hid (show OBox wr (w.heap.size + 1) w2.heap.size ⟨Bp, dp, Bb, db⟩ (turnS s q r) from O3)
          have MB := MR
          clear O3 z0 z1 z2 z3 hml OR MR
          obtain ⟨z0, z1, z2, z3⟩ := OB.out.x.cells
          go_wp2_with (first
            | (go_at_call 36; (with_reducible refine (H36.out ⟨Bp, dp, Bb, db⟩ (turnS s q r) (.inr rfl) v1 OO1.out.C.sea).mono ?_); rintro e v2 ⟨rfl, hb⟩; have MM2 := Lib.hid (MM1.out.next hb); have OO2 := Lib.hid (OO1.out.below hb); obtain ⟨m20, m21, m22, m23⟩ := MM2.out.x.cells; obtain ⟨o20, o21, o22, o23⟩ := OO2.out.x.cells; clear hb)
            | (go_at_call 36; (with_reducible refine (H36.out ⟨Ap, cp, Ab, cb⟩ s (.inl rfl) wr MB.out.sea).mono ?_); rintro e v1 ⟨rfl, hb⟩; have MM1 := Lib.hid (MB.out.next hb); have OO1 := Lib.hid (OB.out.below hb); obtain ⟨m10, m11, m12, m13⟩ := MM1.out.x.cells; obtain ⟨o10, o11, o12, o13⟩ := OO1.out.x.cells; clear hb)
            | (go_at_call 34; (with_reducible refine (H34.out ⟨Bp, dp, Bb, db⟩ (turnS s q r) (.inr rfl) v3 OO3.out.C.sea).mono ?_); rintro e v4 ⟨rfl, hb⟩; have MM4 := Lib.hid (MM3.out.next hb); have OO4 := Lib.hid (OO3.out.below hb); obtain ⟨m40, m41, m42, m43⟩ := MM4.out.x.cells; obtain ⟨o40, o41, o42, o43⟩ := OO4.out.x.cells; clear hb)
            | (go_at_call 34; (with_reducible refine (H34.out ⟨Ap, cp, Ab, cb⟩ s (.inl rfl) v2 MM2.out.sea).mono ?_); rintro e v3 ⟨rfl, hb⟩; have MM3 := Lib.hid (MM2.out.next hb); have OO3 := Lib.hid (OO2.out.below hb); obtain ⟨m30, m31, m32, m33⟩ := MM3.out.x.cells; obtain ⟨o30, o31, o32, o33⟩ := OO3.out.x.cells; clear hb)
            | (go_at_call 17; refine (works_any v4).mono ?_; rintro e v5 ⟨rfl, hb⟩; have MM5 := Lib.hid (MM4.out.next hb); clear hb))
          go_ret
          exact ⟨rfl, MM5.out.B⟩
set_option maxRecDepth 100000 in
set_option maxHeartbeats 4000000 in
theorem order_gt (L : SL) (s : Sea) (hS : SOK s) (hok : SLOK L s) (xp xb : Int) (hlt3 : xb < xp) (h0 : 0 ≤ xp ∧ xp ≤ 100 ∧ 0 ≤ xb ∧ xb ≤ 100) (q r : Nat) (hq : q ≤ s.ps.length) (hr : r ≤ s.bs.length)
    (Hq : Hid (∀ k : Nat, k < s.ps.length → ((k : Int) + xp) % (s.ps.length : Int) = (fromP s.ps.length q k : Int)))
    (Hr : Hid (∀ k : Nat, k < s.bs.length → ((k : Int) + xb) % (s.bs.length : Int) = (fromP s.bs.length r k : Int))) (ch mo : Int)
    (HR : Hid (∀ W, SeaAt W W.heap.size L s → Calls Try.prog 16 #[L.enc s] W fun e w' => e = .returned (.bool true) ∧ Below W.heap.size W w'))
    (H36 : Hid (∀ (L2 : SL) (g : Sea), g = s ∨ g = turnS s q r → ∀ W, SeaAt W W.heap.size L2 g → Calls Try.prog 36 #[L2.enc g] W fun e w' => e = .returned (.tuple #[.int .i64 ch, .bool true]) ∧ Below W.heap.size W w'))
    (H34 : Hid (∀ (L2 : SL) (g : Sea), g = s ∨ g = turnS s q r → ∀ W, SeaAt W W.heap.size L2 g → Calls Try.prog 34 #[L2.enc g] W fun e w' => e = .returned (.tuple #[.int .i64 mo, .bool true]) ∧ Below W.heap.size W w'))
    (w : World) (hH : SeaAt w w.heap.size L s) :
    Calls Try.prog 7 #[L.enc s, .int .i64 xp, .int .i64 xb] w fun e w' => e = .returned (.bool true) ∧ Below w.heap.size w w' := by
  have HW0 := Lib.hid (show w.alloc (.cells #[.int .i64 s.wl, .int .i64 s.wh, .slice L.Ap s.ps.length L.cp, .slice L.Ab s.bs.length L.cb] 27) = w.alloc (.cells #[.int .i64 s.wl, .int .i64 s.wh, .slice L.Ap s.ps.length L.cp, .slice L.Ab s.bs.length L.cb] 27) from rfl)
  have hM := TurnM.new hH
  obtain ⟨W0, hW0⟩ : ∃ W0, w.alloc (.cells #[.int .i64 s.wl, .int .i64 s.wh, .slice L.Ap s.ps.length L.cp, .slice L.Ab s.bs.length L.cb] 27) = W0 := ⟨_, rfl⟩
  rw [hW0] at hM
  have HW0 := Lib.hid hW0
  have M0 := Lib.hid hM
  have HN := Lib.hid (show s.ps.length ≤ 1000 ∧ s.bs.length ≤ 1000 from ⟨by have := hS.pl; omega, by have := hS.bl; omega⟩)
  have hbl := hS.bl
  have hpl := hS.pl
  obtain ⟨c0, c1, c2, c3⟩ := M0.out.x.cells
  have HOK' := Lib.hid hok
  have HRR := Lib.hid hr
  have HQQ := Lib.hid hq
  clear hW0 hM hH hS hok hr hq
  obtain ⟨xp0, xp1, xb0, xb1⟩ := h0
  have hle3 : xb ≤ xp := by omega
  obtain ⟨Ap, cp, Ab, cb⟩ := L
  go_enter Try.func7, Try.ntmps7
  go_upto_region 1 with (fail)
  have e := HW0.out
  rw [e]
  clear e
  go_wp2_with (first
    | (go_at_call 16; refine (HR.out W0 M0.out.sea).mono ?_; rintro e w1 ⟨rfl, hb1⟩; have M1 := Lib.hid (M0.out.next hb1); obtain ⟨r0, r1, r2, r3⟩ := M1.out.x.cells; clear hb1)
    | (go_at_call 37; refine (copy_any _ s HN.out HOK'.out w1 M1.out.sea).mono ?_; rintro e w2 ⟨⟨⟨Bp, dp, Bb, db⟩, rfl, hC⟩, hb2⟩; have hM2 := M1.out.next hb2; have hO2 := (OBox.new hC).grow0 (n := w.heap.size + 1) M1.out.x.lt; have M2 := Lib.hid (hM2.next (al_below w2 (.cells #[.int .i64 s.wl, .int .i64 s.wh, .slice Bp s.ps.length dp, .slice Bb s.bs.length db] 27))); have O2 := Lib.hid hO2; obtain ⟨s0, s1, s2, s3⟩ := M2.out.x.cells; have hs2 : w.heap.size < w2.heap.size := hM2.x.lt; clear hC hb2 hM2 hO2))
  clear c0 c1 c2 c3 r0 r1 r2 r3 s0 s1 s2 s3
  have hne1 : ¬ w2.heap.size = w.heap.size := by omega
  have hne2 : ¬ w.heap.size = w2.heap.size := by omega
  go_loopw [8] (fun i wr => ∃ k : Nat, k ≤ s.ps.length ∧ i = .int .i64 k ∧ Hid (TurnM w wr ⟨Ap, cp, Ab, cb⟩ s) ∧ Hid (OBox wr (w.heap.size + 1) w2.heap.size ⟨Bp, dp, Bb, db⟩ { s with ps := mixL s.ps (rotL s.ps q) k })) (fun i _ => s.ps.length - (intOf i).toNat)
  case atStart => exact ⟨0, Nat.zero_le _, rfl, M2, Lib.hid (by rw [mixL_zero]; exact O2.out)⟩
  case round =>
    obtain ⟨k, hk, rfl, MR, OR⟩ := hrel
    obtain ⟨g0, g1, g2, g3⟩ := MR.out.x.cells
    obtain ⟨z0, z1, z2, z3⟩ := OR.out.x.cells
    have hml : (mixL s.ps (rotL s.ps q) k).length = s.ps.length := mixL_len (rotL_len _ _) k
    simp only [hml] at z2
    by_cases hlt : k < s.ps.length
    · obtain ⟨gB, eB, hgs, hgb, hfz, ⟨y, yy, hy, hy2⟩, hput⟩ := OR.out.putP (i := k) (by show k < (mixL s.ps (rotL s.ps q) k).length; rw [hml]; exact hlt)
      simp only at eB
      rw [eB] at z2
      have hrem := Hq.out k hlt
      have hidl : fromP s.ps.length q k < s.ps.length := by have := HQQ.out; unfold fromP; split <;> omega
      have hrx0 : (rotL s.ps q)[k]? = s.ps[fromP s.ps.length q k]? := rotL_at HQQ.out hlt
      obtain ⟨idx, hidx⟩ : ∃ idx, fromP s.ps.length q k = idx := ⟨_, rfl⟩
      rw [hidx] at hrem hidl hrx0
      obtain ⟨⟨x, xx⟩, hx⟩ : ∃ x, s.ps[idx]? = some x := ⟨_, List.getElem?_eq_getElem hidl⟩
      have hrx := hrx0.trans hx
      obtain ⟨b1, o1, eA, b1lt, cx0, cy0⟩ := MR.out.H.p.at_ hx
      have cx := (MR.out.B.cell (p := ⟨b1, o1 + idx * 2, none⟩) b1lt).trans cx0
      have cy := (MR.out.B.cell (p := ⟨b1, o1 + idx * 2 + 1, none⟩) b1lt).trans cy0
      simp only at eA cx cy
      rw [eA] at g2
      have n8' : ¬ gB = b1 := by omega
      have n9' : ¬ b1 = gB := by omega
      have PUT := Lib.hid (hput (x, xx))
      have HNX := Lib.hid (mixL_next (rotL_len s.ps q) hlt hrx)
      have n1' : ¬ gB = w.heap.size := by omega
      have n5' : ¬ w.heap.size = gB := by omega
      have n7' : ¬ w2.heap.size = gB := fun e => hgb e.symm
      clear hx hrx hrx0 hidx hput eA eB hml z0 z1 z3 g0 g1 g3 cx0 cy0
      have hn0 : ¬ (s.ps.length : Int) = 0 := by omega
      have hn1 : ¬ s.ps = [] := fun e => by rw [e] at hlt; simp at hlt
      have hwr : IntKind.i64.wrap ((k : Int) + xp) = (k : Int) + xp := IntWalk.i64_in _ (by omega)
      have hk0 : (0 : Int) ≤ (k : Int) + xp := by omega
      have htm : Int.tmod ((k : Int) + xp) (s.ps.length : Int) = (idx : Int) := by rw [Int.tmod_eq_emod_of_nonneg hk0]; exact hrem
      go_upto_region 7 with (fail)
      go_region_held3 (fun w' => w'.cell? ⟨w.heap.size, 2, none⟩ = some (.slice (some ⟨b1, o1, none⟩) s.ps.length cp) ∧ w'.cell? ⟨w2.heap.size, 2, none⟩ = some (.slice (some ⟨gB, 0, none⟩) s.ps.length dp) ∧ w'.cell? ⟨b1, o1 + idx * 2, none⟩ = some (.int .i64 x) ∧ w'.cell? ⟨b1, o1 + idx * 2 + 1, none⟩ = some (.int .i64 xx)) (first | go_keep) (fail)
      go_wp2_with (fail)
      go_roundw
      case rel => exact ⟨k + 1, by omega, by go_num, Lib.hid (((MR.out.set (o := k * 2) (u := .int .i64 x) hgs).set (o := k * 2 + 1) (u := .int .i64 xx) hgs).next (drew_below _)), Lib.hid (by rw [HNX.out]; exact PUT.out.below (drew_below _))⟩
      case measure => simp [intOf]; omega
    · obtain rfl : k = s.ps.length := by omega
      have O3 := OR.out
      rw [mixL_all (rotL_len _ _)] at O3
      have OB := Lib.hid (show OBox wr (w.heap.size + 1) w2.heap.size ⟨Bp, dp, Bb, db⟩ { s with ps := rotL s.ps q } from O3)
      have MB := MR
      clear O3 z0 z1 z2 z3 hml OR MR
      go_wp2_with (fail)
      go_loopw [9] (fun i wr => ∃ k : Nat, k ≤ s.bs.length ∧ i = .int .i64 k ∧ Hid (TurnM w wr ⟨Ap, cp, Ab, cb⟩ s) ∧ Hid (OBox wr (w.heap.size + 1) w2.heap.size ⟨Bp, dp, Bb, db⟩ { s with ps := rotL s.ps q, bs := mixL s.bs (rotL s.bs r) k })) (fun i _ => s.bs.length - (intOf i).toNat)
      case atStart => exact ⟨0, Nat.zero_le _, rfl, MB, Lib.hid (by rw [mixL_zero]; exact OB.out)⟩
      case round =>
        clear MB OB g0 g1 g2 g3
        obtain ⟨k, hk, rfl, MR, OR⟩ := hrel
        obtain ⟨g0, g1, g2, g3⟩ := MR.out.x.cells
        obtain ⟨z0, z1, z2, z3⟩ := OR.out.x.cells
        have hml : (mixL s.bs (rotL s.bs r) k).length = s.bs.length := mixL_len (rotL_len _ _) k
        simp only [hml] at z3
        by_cases hlt : k < s.bs.length
        · obtain ⟨gB, eB, hgs, hgb, hfz, ⟨y, yy, hy, hy2⟩, hput⟩ := OR.out.putB (i := k) (by show k < (mixL s.bs (rotL s.bs r) k).length; rw [hml]; exact hlt)
          simp only at eB
          rw [eB] at z3
          have hrem := Hr.out k hlt
          have hidl : fromP s.bs.length r k < s.bs.length := by have := HRR.out; unfold fromP; split <;> omega
          have hrx0 : (rotL s.bs r)[k]? = s.bs[fromP s.bs.length r k]? := rotL_at HRR.out hlt
          obtain ⟨idx, hidx⟩ : ∃ idx, fromP s.bs.length r k = idx := ⟨_, rfl⟩
          rw [hidx] at hrem hidl hrx0
          obtain ⟨⟨x, xx⟩, hx⟩ : ∃ x, s.bs[idx]? = some x := ⟨_, List.getElem?_eq_getElem hidl⟩
          have hrx := hrx0.trans hx
          obtain ⟨b1, o1, eA, b1lt, cx0, cy0⟩ := MR.out.H.b.at_ hx
          have cx := (MR.out.B.cell (p := ⟨b1, o1 + idx * 2, none⟩) b1lt).trans cx0
          have cy := (MR.out.B.cell (p := ⟨b1, o1 + idx * 2 + 1, none⟩) b1lt).trans cy0
          simp only at eA cx cy
          rw [eA] at g3
          have n8' : ¬ gB = b1 := by omega
          have n9' : ¬ b1 = gB := by omega
          have PUT := Lib.hid (hput (x, xx))
          have HNX := Lib.hid (mixL_next (rotL_len s.bs r) hlt hrx)
          have n1' : ¬ gB = w.heap.size := by omega
          have n5' : ¬ w.heap.size = gB := by omega
          have n7' : ¬ w2.heap.size = gB := fun e => hgb e.symm
          clear hx hrx hrx0 hidx hput eA eB hml z0 z1 z2 g0 g1 g2 cx0 cy0
          have hn0 : ¬ (s.bs.length : Int) = 0 := by omega
          have hn1 : ¬ s.bs = [] := fun e => by rw [e] at hlt; simp at hlt
          have hwr : IntKind.i64.wrap ((k : Int) + xb) = (k : Int) + xb := IntWalk.i64_in _ (by omega)
          have hk0 : (0 : Int) ≤ (k : Int) + xb := by omega
          have htm : Int.tmod ((k : Int) + xb) (s.bs.length : Int) = (idx : Int) := by rw [Int.tmod_eq_emod_of_nonneg hk0]; exact hrem
          go_upto_region 11 with (fail)
          go_region_held3 (fun w' => w'.cell? ⟨w.heap.size, 3, none⟩ = some (.slice (some ⟨b1, o1, none⟩) s.bs.length cb) ∧ w'.cell? ⟨w2.heap.size, 3, none⟩ = some (.slice (some ⟨gB, 0, none⟩) s.bs.length db) ∧ w'.cell? ⟨b1, o1 + idx * 2, none⟩ = some (.int .i64 x) ∧ w'.cell? ⟨b1, o1 + idx * 2 + 1, none⟩ = some (.int .i64 xx)) (first | go_keep) (fail)
          go_wp2_with (fail)
          go_roundw
          case rel => exact ⟨k + 1, by omega, by go_num, Lib.hid (((MR.out.set (o := k * 2) (u := .int .i64 x) hgs).set (o := k * 2 + 1) (u := .int .i64 xx) hgs).next (drew_below _)), Lib.hid (by rw [HNX.out]; exact PUT.out.below (drew_below _))⟩
          case measure => simp [intOf]; omega
        · obtain rfl : k = s.bs.length := by omega
          have O3 := OR.out
          rw [mixL_all (rotL_len _ _)] at O3
          have OB := Lib.hid (show OBox wr (w.heap.size + 1) w2.heap.size ⟨Bp, dp, Bb, db⟩ (turnS s q r) from O3)
          have MB := MR
          clear O3 z0 z1 z2 z3 hml OR MR
          obtain ⟨z0, z1, z2, z3⟩ := OB.out.x.cells
          go_wp2_with (first
            | (go_at_call 36; (with_reducible refine (H36.out ⟨Bp, dp, Bb, db⟩ (turnS s q r) (.inr rfl) v1 OO1.out.C.sea).mono ?_); rintro e v2 ⟨rfl, hb⟩; have MM2 := Lib.hid (MM1.out.next hb); have OO2 := Lib.hid (OO1.out.below hb); obtain ⟨m20, m21, m22, m23⟩ := MM2.out.x.cells; obtain ⟨o20, o21, o22, o23⟩ := OO2.out.x.cells; clear hb)
            | (go_at_call 36; (with_reducible refine (H36.out ⟨Ap, cp, Ab, cb⟩ s (.inl rfl) wr MB.out.sea).mono ?_); rintro e v1 ⟨rfl, hb⟩; have MM1 := Lib.hid (MB.out.next hb); have OO1 := Lib.hid (OB.out.below hb); obtain ⟨m10, m11, m12, m13⟩ := MM1.out.x.cells; obtain ⟨o10, o11, o12, o13⟩ := OO1.out.x.cells; clear hb)
            | (go_at_call 34; (with_reducible refine (H34.out ⟨Bp, dp, Bb, db⟩ (turnS s q r) (.inr rfl) v3 OO3.out.C.sea).mono ?_); rintro e v4 ⟨rfl, hb⟩; have MM4 := Lib.hid (MM3.out.next hb); have OO4 := Lib.hid (OO3.out.below hb); obtain ⟨m40, m41, m42, m43⟩ := MM4.out.x.cells; obtain ⟨o40, o41, o42, o43⟩ := OO4.out.x.cells; clear hb)
            | (go_at_call 34; (with_reducible refine (H34.out ⟨Ap, cp, Ab, cb⟩ s (.inl rfl) v2 MM2.out.sea).mono ?_); rintro e v3 ⟨rfl, hb⟩; have MM3 := Lib.hid (MM2.out.next hb); have OO3 := Lib.hid (OO2.out.below hb); obtain ⟨m30, m31, m32, m33⟩ := MM3.out.x.cells; obtain ⟨o30, o31, o32, o33⟩ := OO3.out.x.cells; clear hb)
            | (go_at_call 17; refine (works_any v4).mono ?_; rintro e v5 ⟨rfl, hb⟩; have MM5 := Lib.hid (MM4.out.next hb); clear hb))
          go_ret
          exact ⟨rfl, MM5.out.B⟩
set_option maxRecDepth 100000 in
set_option maxHeartbeats 4000000 in
theorem order_eq (L : SL) (s : Sea) (hS : SOK s) (hok : SLOK L s) (xp : Int) (h0 : 0 ≤ xp ∧ xp ≤ 100 ∧ 0 ≤ xp ∧ xp ≤ 100) (q r : Nat) (hq : q ≤ s.ps.length) (hr : r ≤ s.bs.length)
    (Hq : Hid (∀ k : Nat, k < s.ps.length → ((k : Int) + xp) % (s.ps.length : Int) = (fromP s.ps.length q k : Int)))
    (Hr : Hid (∀ k : Nat, k < s.bs.length → ((k : Int) + xp) % (s.bs.length : Int) = (fromP s.bs.length r k : Int))) (ch mo : Int)
    (HR : Hid (∀ W, SeaAt W W.heap.size L s → Calls Try.prog 16 #[L.enc s] W fun e w' => e = .returned (.bool true) ∧ Below W.heap.size W w'))
    (H36 : Hid (∀ (L2 : SL) (g : Sea), g = s ∨ g = turnS s q r → ∀ W, SeaAt W W.heap.size L2 g → Calls Try.prog 36 #[L2.enc g] W fun e w' => e = .returned (.tuple #[.int .i64 ch, .bool true]) ∧ Below W.heap.size W w'))
    (H34 : Hid (∀ (L2 : SL) (g : Sea), g = s ∨ g = turnS s q r → ∀ W, SeaAt W W.heap.size L2 g → Calls Try.prog 34 #[L2.enc g] W fun e w' => e = .returned (.tuple #[.int .i64 mo, .bool true]) ∧ Below W.heap.size W w'))
    (w : World) (hH : SeaAt w w.heap.size L s) :
    Calls Try.prog 7 #[L.enc s, .int .i64 xp, .int .i64 xp] w fun e w' => e = .returned (.bool true) ∧ Below w.heap.size w w' := by
  have HW0 := Lib.hid (show w.alloc (.cells #[.int .i64 s.wl, .int .i64 s.wh, .slice L.Ap s.ps.length L.cp, .slice L.Ab s.bs.length L.cb] 27) = w.alloc (.cells #[.int .i64 s.wl, .int .i64 s.wh, .slice L.Ap s.ps.length L.cp, .slice L.Ab s.bs.length L.cb] 27) from rfl)
  have hM := TurnM.new hH
  obtain ⟨W0, hW0⟩ : ∃ W0, w.alloc (.cells #[.int .i64 s.wl, .int .i64 s.wh, .slice L.Ap s.ps.length L.cp, .slice L.Ab s.bs.length L.cb] 27) = W0 := ⟨_, rfl⟩
  rw [hW0] at hM
  have HW0 := Lib.hid hW0
  have M0 := Lib.hid hM
  have HN := Lib.hid (show s.ps.length ≤ 1000 ∧ s.bs.length ≤ 1000 from ⟨by have := hS.pl; omega, by have := hS.bl; omega⟩)
  have hbl := hS.bl
  have hpl := hS.pl
  obtain ⟨c0, c1, c2, c3⟩ := M0.out.x.cells
  have HOK' := Lib.hid hok
  have HRR := Lib.hid hr
  have HQQ := Lib.hid hq
  clear hW0 hM hH hS hok hr hq
  obtain ⟨xp0, xp1, xb0, xb1⟩ := h0
  obtain ⟨Ap, cp, Ab, cb⟩ := L
  go_enter Try.func7, Try.ntmps7
  go_upto_region 1 with (fail)
  have e := HW0.out
  rw [e]
  clear e
  go_wp2_with (first
    | (go_at_call 16; refine (HR.out W0 M0.out.sea).mono ?_; rintro e w1 ⟨rfl, hb1⟩; have M1 := Lib.hid (M0.out.next hb1); obtain ⟨r0, r1, r2, r3⟩ := M1.out.x.cells; clear hb1)
    | (go_at_call 37; refine (copy_any _ s HN.out HOK'.out w1 M1.out.sea).mono ?_; rintro e w2 ⟨⟨⟨Bp, dp, Bb, db⟩, rfl, hC⟩, hb2⟩; have hM2 := M1.out.next hb2; have hO2 := (OBox.new hC).grow0 (n := w.heap.size + 1) M1.out.x.lt; have M2 := Lib.hid (hM2.next (al_below w2 (.cells #[.int .i64 s.wl, .int .i64 s.wh, .slice Bp s.ps.length dp, .slice Bb s.bs.length db] 27))); have O2 := Lib.hid hO2; obtain ⟨s0, s1, s2, s3⟩ := M2.out.x.cells; have hs2 : w.heap.size < w2.heap.size := hM2.x.lt; clear hC hb2 hM2 hO2))
  clear c0 c1 c2 c3 r0 r1 r2 r3 s0 s1 s2 s3
  have hne1 : ¬ w2.heap.size = w.heap.size := by omega
  have hne2 : ¬ w.heap.size = w2.heap.size := by omega
  go_loopw [8] (fun i wr => ∃ k : Nat, k ≤ s.ps.length ∧ i = .int .i64 k ∧ Hid (TurnM w wr ⟨Ap, cp, Ab, cb⟩ s) ∧ Hid (OBox wr (w.heap.size + 1) w2.heap.size ⟨Bp, dp, Bb, db⟩ { s with ps := mixL s.ps (rotL s.ps q) k })) (fun i _ => s.ps.length - (intOf i).toNat)
  case atStart => exact ⟨0, Nat.zero_le _, rfl, M2, Lib.hid (by rw [mixL_zero]; exact O2.out)⟩
  case round =>
    obtain ⟨k, hk, rfl, MR, OR⟩ := hrel
    obtain ⟨g0, g1, g2, g3⟩ := MR.out.x.cells
    obtain ⟨z0, z1, z2, z3⟩ := OR.out.x.cells
    have hml : (mixL s.ps (rotL s.ps q) k).length = s.ps.length := mixL_len (rotL_len _ _) k
    simp only [hml] at z2
    by_cases hlt : k < s.ps.length
    · obtain ⟨gB, eB, hgs, hgb, hfz, ⟨y, yy, hy, hy2⟩, hput⟩ := OR.out.putP (i := k) (by show k < (mixL s.ps (rotL s.ps q) k).length; rw [hml]; exact hlt)
      simp only at eB
      rw [eB] at z2
      have hrem := Hq.out k hlt
      have hidl : fromP s.ps.length q k < s.ps.length := by have := HQQ.out; unfold fromP; split <;> omega
      have hrx0 : (rotL s.ps q)[k]? = s.ps[fromP s.ps.length q k]? := rotL_at HQQ.out hlt
      obtain ⟨idx, hidx⟩ : ∃ idx, fromP s.ps.length q k = idx := ⟨_, rfl⟩
      rw [hidx] at hrem hidl hrx0
      obtain ⟨⟨x, xx⟩, hx⟩ : ∃ x, s.ps[idx]? = some x := ⟨_, List.getElem?_eq_getElem hidl⟩
      have hrx := hrx0.trans hx
      obtain ⟨b1, o1, eA, b1lt, cx0, cy0⟩ := MR.out.H.p.at_ hx
      have cx := (MR.out.B.cell (p := ⟨b1, o1 + idx * 2, none⟩) b1lt).trans cx0
      have cy := (MR.out.B.cell (p := ⟨b1, o1 + idx * 2 + 1, none⟩) b1lt).trans cy0
      simp only at eA cx cy
      rw [eA] at g2
      have n8' : ¬ gB = b1 := by omega
      have n9' : ¬ b1 = gB := by omega
      have PUT := Lib.hid (hput (x, xx))
      have HNX := Lib.hid (mixL_next (rotL_len s.ps q) hlt hrx)
      have n1' : ¬ gB = w.heap.size := by omega
      have n5' : ¬ w.heap.size = gB := by omega
      have n7' : ¬ w2.heap.size = gB := fun e => hgb e.symm
      clear hx hrx hrx0 hidx hput eA eB hml z0 z1 z3 g0 g1 g3 cx0 cy0
      have hn0 : ¬ (s.ps.length : Int) = 0 := by omega
      have hn1 : ¬ s.ps = [] := fun e => by rw [e] at hlt; simp at hlt
      have hwr : IntKind.i64.wrap ((k : Int) + xp) = (k : Int) + xp := IntWalk.i64_in _ (by omega)
      have hk0 : (0 : Int) ≤ (k : Int) + xp := by omega
      have htm : Int.tmod ((k : Int) + xp) (s.ps.length : Int) = (idx : Int) := by rw [Int.tmod_eq_emod_of_nonneg hk0]; exact hrem
      go_upto_region 7 with (fail)
      go_region_held3 (fun w' => w'.cell? ⟨w.heap.size, 2, none⟩ = some (.slice (some ⟨b1, o1, none⟩) s.ps.length cp) ∧ w'.cell? ⟨w2.heap.size, 2, none⟩ = some (.slice (some ⟨gB, 0, none⟩) s.ps.length dp) ∧ w'.cell? ⟨b1, o1 + idx * 2, none⟩ = some (.int .i64 x) ∧ w'.cell? ⟨b1, o1 + idx * 2 + 1, none⟩ = some (.int .i64 xx)) (first | go_keep) (fail)
      go_wp2_with (fail)
      go_roundw
      case rel => exact ⟨k + 1, by omega, by go_num, Lib.hid (((MR.out.set (o := k * 2) (u := .int .i64 x) hgs).set (o := k * 2 + 1) (u := .int .i64 xx) hgs).next (drew_below _)), Lib.hid (by rw [HNX.out]; exact PUT.out.below (drew_below _))⟩
      case measure => simp [intOf]; omega
    · obtain rfl : k = s.ps.length := by omega
      have O3 := OR.out
      rw [mixL_all (rotL_len _ _)] at O3
      have OB := Lib.hid (show OBox wr (w.heap.size + 1) w2.heap.size ⟨Bp, dp, Bb, db⟩ { s with ps := rotL s.ps q } from O3)
      have MB := MR
      clear O3 z0 z1 z2 z3 hml OR MR
      go_wp2_with (fail)
      go_loopw [9] (fun i wr => ∃ k : Nat, k ≤ s.bs.length ∧ i = .int .i64 k ∧ Hid (TurnM w wr ⟨Ap, cp, Ab, cb⟩ s) ∧ Hid (OBox wr (w.heap.size + 1) w2.heap.size ⟨Bp, dp, Bb, db⟩ { s with ps := rotL s.ps q, bs := mixL s.bs (rotL s.bs r) k })) (fun i _ => s.bs.length - (intOf i).toNat)
      case atStart => exact ⟨0, Nat.zero_le _, rfl, MB, Lib.hid (by rw [mixL_zero]; exact OB.out)⟩
      case round =>
        clear MB OB g0 g1 g2 g3
        obtain ⟨k, hk, rfl, MR, OR⟩ := hrel
        obtain ⟨g0, g1, g2, g3⟩ := MR.out.x.cells
        obtain ⟨z0, z1, z2, z3⟩ := OR.out.x.cells
        have hml : (mixL s.bs (rotL s.bs r) k).length = s.bs.length := mixL_len (rotL_len _ _) k
        simp only [hml] at z3
        by_cases hlt : k < s.bs.length
        · obtain ⟨gB, eB, hgs, hgb, hfz, ⟨y, yy, hy, hy2⟩, hput⟩ := OR.out.putB (i := k) (by show k < (mixL s.bs (rotL s.bs r) k).length; rw [hml]; exact hlt)
          simp only at eB
          rw [eB] at z3
          have hrem := Hr.out k hlt
          have hidl : fromP s.bs.length r k < s.bs.length := by have := HRR.out; unfold fromP; split <;> omega
          have hrx0 : (rotL s.bs r)[k]? = s.bs[fromP s.bs.length r k]? := rotL_at HRR.out hlt
          obtain ⟨idx, hidx⟩ : ∃ idx, fromP s.bs.length r k = idx := ⟨_, rfl⟩
          rw [hidx] at hrem hidl hrx0
          obtain ⟨⟨x, xx⟩, hx⟩ : ∃ x, s.bs[idx]? = some x := ⟨_, List.getElem?_eq_getElem hidl⟩
          have hrx := hrx0.trans hx
          obtain ⟨b1, o1, eA, b1lt, cx0, cy0⟩ := MR.out.H.b.at_ hx
          have cx := (MR.out.B.cell (p := ⟨b1, o1 + idx * 2, none⟩) b1lt).trans cx0
          have cy := (MR.out.B.cell (p := ⟨b1, o1 + idx * 2 + 1, none⟩) b1lt).trans cy0
          simp only at eA cx cy
          rw [eA] at g3
          have n8' : ¬ gB = b1 := by omega
          have n9' : ¬ b1 = gB := by omega
          have PUT := Lib.hid (hput (x, xx))
          have HNX := Lib.hid (mixL_next (rotL_len s.bs r) hlt hrx)
          have n1' : ¬ gB = w.heap.size := by omega
          have n5' : ¬ w.heap.size = gB := by omega
          have n7' : ¬ w2.heap.size = gB := fun e => hgb e.symm
          clear hx hrx hrx0 hidx hput eA eB hml z0 z1 z2 g0 g1 g2 cx0 cy0
          have hn0 : ¬ (s.bs.length : Int) = 0 := by omega
          have hn1 : ¬ s.bs = [] := fun e => by rw [e] at hlt; simp at hlt
          have hwr : IntKind.i64.wrap ((k : Int) + xp) = (k : Int) + xp := IntWalk.i64_in _ (by omega)
          have hk0 : (0 : Int) ≤ (k : Int) + xp := by omega
          have htm : Int.tmod ((k : Int) + xp) (s.bs.length : Int) = (idx : Int) := by rw [Int.tmod_eq_emod_of_nonneg hk0]; exact hrem
          go_upto_region 11 with (fail)
          go_region_held3 (fun w' => w'.cell? ⟨w.heap.size, 3, none⟩ = some (.slice (some ⟨b1, o1, none⟩) s.bs.length cb) ∧ w'.cell? ⟨w2.heap.size, 3, none⟩ = some (.slice (some ⟨gB, 0, none⟩) s.bs.length db) ∧ w'.cell? ⟨b1, o1 + idx * 2, none⟩ = some (.int .i64 x) ∧ w'.cell? ⟨b1, o1 + idx * 2 + 1, none⟩ = some (.int .i64 xx)) (first | go_keep) (fail)
          go_wp2_with (fail)
          go_roundw
          case rel => exact ⟨k + 1, by omega, by go_num, Lib.hid (((MR.out.set (o := k * 2) (u := .int .i64 x) hgs).set (o := k * 2 + 1) (u := .int .i64 xx) hgs).next (drew_below _)), Lib.hid (by rw [HNX.out]; exact PUT.out.below (drew_below _))⟩
          case measure => simp [intOf]; omega
        · obtain rfl : k = s.bs.length := by omega
          have O3 := OR.out
          rw [mixL_all (rotL_len _ _)] at O3
          have OB := Lib.hid (show OBox wr (w.heap.size + 1) w2.heap.size ⟨Bp, dp, Bb, db⟩ (turnS s q r) from O3)
          have MB := MR
          clear O3 z0 z1 z2 z3 hml OR MR
          obtain ⟨z0, z1, z2, z3⟩ := OB.out.x.cells
          go_wp2_with (first
            | (go_at_call 36; (with_reducible refine (H36.out ⟨Bp, dp, Bb, db⟩ (turnS s q r) (.inr rfl) v1 OO1.out.C.sea).mono ?_); rintro e v2 ⟨rfl, hb⟩; have MM2 := Lib.hid (MM1.out.next hb); have OO2 := Lib.hid (OO1.out.below hb); obtain ⟨m20, m21, m22, m23⟩ := MM2.out.x.cells; obtain ⟨o20, o21, o22, o23⟩ := OO2.out.x.cells; clear hb)
            | (go_at_call 36; (with_reducible refine (H36.out ⟨Ap, cp, Ab, cb⟩ s (.inl rfl) wr MB.out.sea).mono ?_); rintro e v1 ⟨rfl, hb⟩; have MM1 := Lib.hid (MB.out.next hb); have OO1 := Lib.hid (OB.out.below hb); obtain ⟨m10, m11, m12, m13⟩ := MM1.out.x.cells; obtain ⟨o10, o11, o12, o13⟩ := OO1.out.x.cells; clear hb)
            | (go_at_call 34; (with_reducible refine (H34.out ⟨Bp, dp, Bb, db⟩ (turnS s q r) (.inr rfl) v3 OO3.out.C.sea).mono ?_); rintro e v4 ⟨rfl, hb⟩; have MM4 := Lib.hid (MM3.out.next hb); have OO4 := Lib.hid (OO3.out.below hb); obtain ⟨m40, m41, m42, m43⟩ := MM4.out.x.cells; obtain ⟨o40, o41, o42, o43⟩ := OO4.out.x.cells; clear hb)
            | (go_at_call 34; (with_reducible refine (H34.out ⟨Ap, cp, Ab, cb⟩ s (.inl rfl) v2 MM2.out.sea).mono ?_); rintro e v3 ⟨rfl, hb⟩; have MM3 := Lib.hid (MM2.out.next hb); have OO3 := Lib.hid (OO2.out.below hb); obtain ⟨m30, m31, m32, m33⟩ := MM3.out.x.cells; obtain ⟨o30, o31, o32, o33⟩ := OO3.out.x.cells; clear hb)
            | (go_at_call 17; refine (works_any v4).mono ?_; rintro e v5 ⟨rfl, hb⟩; have MM5 := Lib.hid (MM4.out.next hb); clear hb))
          go_ret
          exact ⟨rfl, MM5.out.B⟩
end Go.Proofs.Ytgjpllmmpclgaaa
