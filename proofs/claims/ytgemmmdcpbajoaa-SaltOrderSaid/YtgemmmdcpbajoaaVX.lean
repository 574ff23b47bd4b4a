import Derived.Test.YtgemmmdcpbajoaaVW
namespace Go.Proofs.Ytgemmmdcpbajoaa
open Go.RowKit

theorem rot_ex (n : Nat) (x : Int) : ∃ r, r ≤ n ∧ ∀ k : Nat, k < n → ((k : Int) + x) % (n : Int) = ((if k + r < n then k + r else k + r - n : Nat) : Int) := by
  by_cases h : n = 0
  · exact ⟨0, by omega, fun k hk => by omega⟩
  · refine ⟨(x % n).toNat, ?_, fun k hk => rem_idx hk⟩
    have h1 := Int.emod_nonneg x (show (n : Int) ≠ 0 by omega)
    have h2 := Int.emod_lt_of_pos x (show (0 : Int) < n by omega)
    omega
set_option maxRecDepth 100000 in
set_option maxHeartbeats 4000000 in
theorem order_lt (L : HL) (hu : House) (hV : HOK hu) (hok : HLOK L hu) (xb xp xd xs : Int) (hlt3 : xb < xp) (h0 : 0 ≤ xb ∧ xb ≤ 100 ∧ 0 ≤ xp ∧ xp ≤ 100) (r q : Nat) (hr : r ≤ hu.bs.length) (hq : q ≤ hu.ps.length)
    (Hr : Hid (∀ k : Nat, k < hu.bs.length → ((k : Int) + xb) % (hu.bs.length : Int) = ((if k + r < hu.bs.length then k + r else k + r - hu.bs.length : Nat) : Int)))
    (Hq : Hid (∀ k : Nat, k < hu.ps.length → ((k : Int) + xp) % (hu.ps.length : Int) = ((if k + q < hu.ps.length then k + q else k + q - hu.ps.length : Nat) : Int)))
    (m n ea es eb va vs vb : Int) (is : Bool)
    (HR : Hid (∀ W, HouseAt W W.heap.size L hu → Calls Try.prog 23 #[L.enc hu] W fun e w' => e = .returned (.bool true) ∧ Below W.heap.size W w'))
    (H44 : Hid (∀ (L2 : HL) (g : House), g = hu ∨ g = turnH hu r q → ∀ W, HouseAt W W.heap.size L2 g → Calls Try.prog 44 #[L2.enc g] W fun e w' => e = .returned (.tuple #[.int .i64 m, .int .i64 n, .bool is, .bool false]) ∧ Below W.heap.size W w'))
    (H45 : Hid (∀ (L2 : HL) (g : House), g = hu ∨ g = turnH hu r q → ∀ W, HouseAt W W.heap.size L2 g → Calls Try.prog 45 #[L2.enc g, .int .i64 xd] W fun e w' => e = .returned (.tuple #[.int .i64 va, .int .i64 ea]) ∧ Below W.heap.size W w'))
    (H18 : Hid (∀ (L2 : HL) (g : House), g = hu ∨ g = turnH hu r q → ∀ W, HouseAt W W.heap.size L2 g → Calls Try.prog 18 #[L2.enc g, .int .i64 xs] W fun e w' => e = .returned (.tuple #[.int .i64 vs, .int .i64 es]) ∧ Below W.heap.size W w'))
    (H20 : Hid (∀ (L2 : HL) (g : House), g = hu ∨ g = turnH hu r q → (g.bs.length ≤ L2.cb ∧ (L2.Ab = none → L2.cb = 0) ∧ L2.cb ≤ 9223372036854775807) → ∀ W, HouseAt W W.heap.size L2 g → Calls Try.prog 20 #[L2.enc g] W fun e w' => e = .returned (.tuple #[.int .i64 vb, .int .i64 eb]) ∧ Below W.heap.size W w'))
    (hcb : hu.bs.length ≤ L.cb ∧ (L.Ab = none → L.cb = 0) ∧ L.cb ≤ 9223372036854775807) (w : World) (hH : HouseAt w w.heap.size L hu) :
    Calls Try.prog 8 #[L.enc hu, .agg #[.int .i64 xb, .int .i64 xp, .int .i64 xd, .int .i64 xs]] w fun e w' => e = .returned (.bool true) ∧ Below w.heap.size w w' := by
  obtain ⟨W0, hW0, hM⟩ := TurnM.new (L := L) xb xp xd xs hH
  have HN := Lib.hid (show hu.ks.length ≤ 1000 ∧ hu.ps.length ≤ 1000 ∧ hu.bs.length ≤ 1000 from ⟨by have := hV.kl; omega, by have := hV.pl; omega, by have := hV.bl; omega⟩)
  have hbl := hV.bl
  have hpl := hV.pl
  have HW0 := Lib.hid hW0
  have M0 := Lib.hid hM
  have hc0 := hM.c
  have HOK' := Lib.hid hok
  have HCB := Lib.hid hcb
  have HRR := Lib.hid hr
  have HQQ := Lib.hid hq
  clear hW0 hM hH hV hok hcb hr hq
  obtain ⟨Ak, ck, Ap, cp, Ab, cb⟩ := L
  obtain ⟨xb0, xb1, xp0, xp1⟩ := h0
  have hle3 : xb ≤ xp := by omega
  go_enter Try.func8, Try.ntmps8
  go_upto_region 1 with (fail)
  have e := HW0.out
  rw [e]
  clear e
  go_wp2_with (first
    | (go_at_call 23; refine (HR.out W0 M0.out.house).mono ?_; rintro e w1 ⟨rfl, hb1⟩; have M1 := Lib.hid (M0.out.next hb1); have m1 := M1.out.c; clear hb1)
    | (go_at_call 17; refine (copy_any _ hu HN.out HOK'.out w1 M1.out.house).mono ?_; rintro e w2 ⟨⟨⟨Bk, dk, Bp, dp, Bb, db⟩, n1, n2, rfl, hC⟩, hb2⟩; have hM2 := M1.out.next hb2; have hO2 := TurnO.new hC (s := w.heap.size + 2) M1.out.lt; have M2 := Lib.hid (hM2.next ((Below.refl _ w2).alloc (Nat.le_refl _) (.cells #[.slice Bk hu.ks.length dk, .int .i64 hu.fl, .slice Bp hu.ps.length dp, .slice Bb hu.bs.length db] 26))); have O2 := Lib.hid hO2; have m2 := M2.out.c; have hs2 : w.heap.size + 1 < w2.heap.size := hM2.lt; clear hC hb2 hM2 hO2))
  clear hc0 m1 m2
  have hne1 : ¬ w2.heap.size = w.heap.size := by omega
  have hne2 : ¬ w.heap.size = w2.heap.size := by omega
  have hne3 : ¬ w2.heap.size = w.heap.size + 1 := by omega
  have hne4 : ¬ w.heap.size + 1 = w2.heap.size := by omega
  go_loopw [6] (fun i wr => ∃ k : Nat, k ≤ hu.bs.length ∧ i = .int .i64 k ∧ Hid (TurnM w wr ⟨Ak, ck, Ap, cp, Ab, cb⟩ hu xb xp xd xs) ∧ Hid (TurnO wr (w.heap.size + 2) w2.heap.size ⟨Bk, dk, Bp, dp, Bb, db⟩ { hu with bs := mixL hu.bs (rotL hu.bs r) k })) (fun i _ => hu.bs.length - (intOf i).toNat)
  case atStart => exact ⟨0, Nat.zero_le _, rfl, M2, Lib.hid (by rw [mixL_zero]; exact O2.out)⟩
  case round =>
    obtain ⟨k, hk, rfl, MR, OR⟩ := hrel
    obtain ⟨⟨g0, g1, g2, g3⟩, x0, x1, x2, x3⟩ := MR.out.c
    obtain ⟨z0, z1, z2, z3⟩ := OR.out.z.cells
    have hml : (mixL hu.bs (rotL hu.bs r) k).length = hu.bs.length := mixL_len (rotL_len _ _) k
    simp only [hml] at z3
    by_cases hlt : k < hu.bs.length
    · obtain ⟨gB, eB, hgs, hgb, hfz, ⟨y, hy⟩, hput⟩ := OR.out.putB (i := k) (by rw [hml]; exact hlt)
      simp only at eB
      rw [eB] at z3
      have hrem := Hr.out k hlt
      obtain ⟨idx, hidx⟩ : ∃ idx, idx = (if k + r < hu.bs.length then k + r else k + r - hu.bs.length) := ⟨_, rfl⟩
      have hil : idx < hu.bs.length := by have := HRR.out; rw [hidx]; split <;> omega
      rw [← hidx] at hrem
      obtain ⟨x, hx⟩ : ∃ x, hu.bs[idx]? = some x := ⟨_, List.getElem?_eq_getElem hil⟩
      have hrx : (rotL hu.bs r)[k]? = some x := by rw [rotL_at HRR.out hlt, ← hidx]; exact hx
      obtain ⟨b1, o1, eA, b1lt, cx0⟩ := MR.out.H.b.at_ hx
      have cx := (MR.out.B.cell (p := ⟨b1, o1 + idx, none⟩) b1lt).trans cx0
      have n8' : ¬ gB = b1 := by omega
      have n9' : ¬ b1 = gB := by omega
      simp only at eA
      rw [eA] at g3
      have PUT := Lib.hid (hput x)
      have HNX := Lib.hid (mixL_next (rotL_len hu.bs r) hlt hrx)
      have n1' : ¬ gB = w.heap.size := by omega
      have n2' : ¬ gB = w.heap.size + 1 := by omega
      have n5' : ¬ w.heap.size = gB := by omega
      have n6' : ¬ w.heap.size + 1 = gB := by omega
      have n7' : ¬ w2.heap.size = gB := fun e => hgb e.symm
      clear hx hrx hidx hput eA eB cx0 hml z0 z1 z2 g0 g1 g2 x1 x2 x3
      have hn0 : ¬ (hu.bs.length : Int) = 0 := by omega
      have hn1 : ¬ hu.bs = [] := fun e => by rw [e] at hlt; simp at hlt
      have hwr : IntKind.i64.wrap ((k : Int) + xb) = (k : Int) + xb := IntWalk.i64_in _ (by omega)
      have hk0 : (0 : Int) ≤ (k : Int) + xb := by omega
      have htm : Int.tmod ((k : Int) + xb) (hu.bs.length : Int) = (idx : Int) := by rw [Int.tmod_eq_emod_of_nonneg hk0]; exact hrem
      go_upto_region 7 with (fail)
      go_region_held3 (fun w' => w'.cell? ⟨w.heap.size, 3, none⟩ = some (.slice (some ⟨b1, o1, none⟩) hu.bs.length cb) ∧ w'.cell? ⟨w2.heap.size, 3, none⟩ = some (.slice (some ⟨gB, 0, none⟩) hu.bs.length db) ∧ w'.cell? ⟨w.heap.size + 1, 0, none⟩ = some (.int .i64 xb) ∧ w'.cell? ⟨b1, o1 + idx, none⟩ = some (.int .i64 x)) (first | go_keep) (fail)
      go_wp2_with (fail)
      go_roundw
      case rel => exact ⟨k + 1, by omega, by go_num, Lib.hid ((MR.out.set (o := k) (u := .int .i64 x) hgs).next (drew_below _)), Lib.hid (by rw [HNX.out]; exact PUT.out.next (drew_below _))⟩
      case measure => simp [intOf]; omega
    · obtain rfl : k = hu.bs.length := by omega
      have O3 := OR.out
      rw [mixL_all (rotL_len _ _)] at O3
      have OB := Lib.hid O3
      clear O3 z0 z1 z2 z3 hml x0 x1 x2 x3
      go_wp2_with (fail)
      go_loopw [7] (fun i wx => ∃ k : Nat, k ≤ hu.ps.length ∧ i = .int .i64 k ∧ Hid (TurnM w wx ⟨Ak, ck, Ap, cp, Ab, cb⟩ hu xb xp xd xs) ∧ Hid (TurnO wx (w.heap.size + 2) w2.heap.size ⟨Bk, dk, Bp, dp, Bb, db⟩ { hu with bs := rotL hu.bs r, ps := mixL hu.ps (rotL hu.ps q) k })) (fun i _ => hu.ps.length - (intOf i).toNat)
      case atStart => exact ⟨0, Nat.zero_le _, rfl, MR, Lib.hid (by rw [mixL_zero]; exact OB.out)⟩
      case round =>
        clear MR OR OB
        obtain ⟨k, hk, rfl, MR, OR⟩ := hrel
        obtain ⟨⟨g0, g1, g2, g3⟩, x0, x1, x2, x3⟩ := MR.out.c
        obtain ⟨z0, z1, z2, z3⟩ := OR.out.z.cells
        have hml : (mixL hu.ps (rotL hu.ps q) k).length = hu.ps.length := mixL_len (rotL_len _ _) k
        simp only [hml] at z2
        by_cases hlt2 : k < hu.ps.length
        · obtain ⟨gP, eP, hgs, hgb, hfz, ⟨y, yy, hy, hy2⟩, hput⟩ := OR.out.putP (i := k) (by show k < (mixL hu.ps (rotL hu.ps q) k).length; rw [hml]; exact hlt2)
          simp only at eP
          rw [eP] at z2
          have hrem := Hq.out k hlt2
          obtain ⟨idx, hidx⟩ : ∃ idx, idx = (if k + q < hu.ps.length then k + q else k + q - hu.ps.length) := ⟨_, rfl⟩
          have hil : idx < hu.ps.length := by have := HQQ.out; rw [hidx]; split <;> omega
          rw [← hidx] at hrem
          obtain ⟨⟨x, xx⟩, hx⟩ : ∃ x, hu.ps[idx]? = some x := ⟨_, List.getElem?_eq_getElem hil⟩
          have hrx : (rotL hu.ps q)[k]? = some (x, xx) := by rw [rotL_at HQQ.out hlt2, ← hidx]; exact hx
          obtain ⟨b1, o1, eA, b1lt, cx0, cy0⟩ := MR.out.H.p.at_ hx
          have cx := (MR.out.B.cell (p := ⟨b1, o1 + idx * 2, none⟩) b1lt).trans cx0
          have cy := (MR.out.B.cell (p := ⟨b1, o1 + idx * 2 + 1, none⟩) b1lt).trans cy0
          simp only at eA cx cy
          rw [eA] at g2
          have n8' : ¬ gP = b1 := by omega
          have n9' : ¬ b1 = gP := by omega
          have PUT := Lib.hid (hput (x, xx))
          have HNX := Lib.hid (mixL_next (rotL_len hu.ps q) hlt2 hrx)
          have n1' : ¬ gP = w.heap.size := by omega
          have n2' : ¬ gP = w.heap.size + 1 := by omega
          have n5' : ¬ w.heap.size = gP := by omega
          have n6' : ¬ w.heap.size + 1 = gP := by omega
          have n7' : ¬ w2.heap.size = gP := fun e => hgb e.symm
          clear hx hrx hidx hput eA eP hml z0 z1 z3 g0 g1 g3 x0 x2 x3 cx0 cy0
          have hn0 : ¬ (hu.ps.length : Int) = 0 := by omega
          have hn1 : ¬ hu.ps = [] := fun e => by rw [e] at hlt2; simp at hlt2
          have hwr : IntKind.i64.wrap ((k : Int) + xp) = (k : Int) + xp := IntWalk.i64_in _ (by omega)
          have hk0 : (0 : Int) ≤ (k : Int) + xp := by omega
          have htm : Int.tmod ((k : Int) + xp) (hu.ps.length : Int) = (idx : Int) := by rw [Int.tmod_eq_emod_of_nonneg hk0]; exact hrem
          go_upto_region 11 with (fail)
          go_region_held3 (fun w' => w'.cell? ⟨w.heap.size, 2, none⟩ = some (.slice (some ⟨b1, o1, none⟩) hu.ps.length cp) ∧ w'.cell? ⟨w2.heap.size, 2, none⟩ = some (.slice (some ⟨gP, 0, none⟩) hu.ps.length dp) ∧ w'.cell? ⟨w.heap.size + 1, 1, none⟩ = some (.int .i64 xp) ∧ w'.cell? ⟨b1, o1 + idx * 2, none⟩ = some (.int .i64 x) ∧ w'.cell? ⟨b1, o1 + idx * 2 + 1, none⟩ = some (.int .i64 xx)) (first | go_keep) (fail)
          go_wp2_with (fail)
          go_roundw
          case rel => exact ⟨k + 1, by omega, by go_num, Lib.hid (((MR.out.set (o := k * 2) (u := .int .i64 x) hgs).set (o := k * 2 + 1) (u := .int .i64 xx) hgs).next (drew_below _)), Lib.hid (by rw [HNX.out]; exact PUT.out.next (drew_below _))⟩
          case measure => simp [intOf]; omega
        · obtain rfl : k = hu.ps.length := by omega
          have O3 := OR.out
          rw [mixL_all (rotL_len _ _)] at O3
          have OB := Lib.hid (show TurnO wr (w.heap.size + 2) w2.heap.size ⟨Bk, dk, Bp, dp, Bb, db⟩ (turnH hu r q) from O3)
          have hO := OB.out.z.cells
          clear O3 z0 z1 z2 z3 hml OR
          go_wp2_with (first
            | (go_at_call 44; (with_reducible refine (H44.out ⟨Bk, dk, Bp, dp, Bb, db⟩ (turnH hu r q) (.inr rfl) v1 OO1.out.house).mono ?_); rintro e v2 ⟨rfl, hb2⟩; have MM2 := Lib.hid (MM1.out.next hb2); have OO2 := Lib.hid (OO1.out.next hb2); have mm2 := MM2.out.c; have oo2 := OO2.out.z.cells; clear hb2)
            | (go_at_call 44; (with_reducible refine (H44.out ⟨Ak, ck, Ap, cp, Ab, cb⟩ hu (.inl rfl) wr MR.out.house).mono ?_); rintro e v1 ⟨rfl, hb1⟩; have MM1 := Lib.hid (MR.out.next hb1); have OO1 := Lib.hid (OB.out.next hb1); have mm1 := MM1.out.c; have oo1 := OO1.out.z.cells; clear hb1)
            | (go_at_call 45; (with_reducible refine (H45.out ⟨Bk, dk, Bp, dp, Bb, db⟩ (turnH hu r q) (.inr rfl) v3 OO3.out.house).mono ?_); rintro e v4 ⟨rfl, hb4⟩; have MM4 := Lib.hid (MM3.out.next hb4); have OO4 := Lib.hid (OO3.out.next hb4); have mm4 := MM4.out.c; have oo4 := OO4.out.z.cells; clear hb4)
            | (go_at_call 45; (with_reducible refine (H45.out ⟨Ak, ck, Ap, cp, Ab, cb⟩ hu (.inl rfl) v2 MM2.out.house).mono ?_); rintro e v3 ⟨rfl, hb3⟩; have MM3 := Lib.hid (MM2.out.next hb3); have OO3 := Lib.hid (OO2.out.next hb3); have mm3 := MM3.out.c; have oo3 := OO3.out.z.cells; clear hb3)
            | (go_at_call 18; (with_reducible refine (H18.out ⟨Bk, dk, Bp, dp, Bb, db⟩ (turnH hu r q) (.inr rfl) v5 OO5.out.house).mono ?_); rintro e v6 ⟨rfl, hb6⟩; have MM6 := Lib.hid (MM5.out.next hb6); have OO6 := Lib.hid (OO5.out.next hb6); have mm6 := MM6.out.c; have oo6 := OO6.out.z.cells; clear hb6)
            | (go_at_call 18; (with_reducible refine (H18.out ⟨Ak, ck, Ap, cp, Ab, cb⟩ hu (.inl rfl) v4 MM4.out.house).mono ?_); rintro e v5 ⟨rfl, hb5⟩; have MM5 := Lib.hid (MM4.out.next hb5); have OO5 := Lib.hid (OO4.out.next hb5); have mm5 := MM5.out.c; have oo5 := OO5.out.z.cells; clear hb5)
            | (go_at_call 20; (with_reducible refine (H20.out ⟨Bk, dk, Bp, dp, Bb, db⟩ (turnH hu r q) (.inr rfl) OO7.out.cap v7 OO7.out.house).mono ?_); rintro e v8 ⟨rfl, hb8⟩; have MM8 := Lib.hid (MM7.out.next hb8); have OO8 := Lib.hid (OO7.out.next hb8); have mm8 := MM8.out.c; have oo8 := OO8.out.z.cells; clear hb8)
            | (go_at_call 20; (with_reducible refine (H20.out ⟨Ak, ck, Ap, cp, Ab, cb⟩ hu (.inl rfl) HCB.out v6 MM6.out.house).mono ?_); rintro e v7 ⟨rfl, hb7⟩; have MM7 := Lib.hid (MM6.out.next hb7); have OO7 := Lib.hid (OO6.out.next hb7); have mm7 := MM7.out.c; have oo7 := OO7.out.z.cells; clear hb7)
            | (go_at_call 16; refine (works_any v8).mono ?_; rintro e v9 ⟨rfl, hb9⟩; have MM9 := Lib.hid (MM8.out.next hb9); clear hb9))
          go_ret
          exact ⟨rfl, MM9.out.B⟩
set_option maxRecDepth 100000 in
set_option maxHeartbeats 4000000 in
theorem order_gt (L : HL) (hu : House) (hV : HOK hu) (hok : HLOK L hu) (xb xp xd xs : Int) (hlt3 : xp < xb) (h0 : 0 ≤ xb ∧ xb ≤ 100 ∧ 0 ≤ xp ∧ xp ≤ 100) (r q : Nat) (hr : r ≤ hu.bs.length) (hq : q ≤ hu.ps.length)
    (Hr : Hid (∀ k : Nat, k < hu.bs.length → ((k : Int) + xb) % (hu.bs.length : Int) = ((if k + r < hu.bs.length then k + r else k + r - hu.bs.length : Nat) : Int)))
    (Hq : Hid (∀ k : Nat, k < hu.ps.length → ((k : Int) + xp) % (hu.ps.length : Int) = ((if k + q < hu.ps.length then k + q else k + q - hu.ps.length : Nat) : Int)))
    (m n ea es eb va vs vb : Int) (is : Bool)
    (HR : Hid (∀ W, HouseAt W W.heap.size L hu → Calls Try.prog 23 #[L.enc hu] W fun e w' => e = .returned (.bool true) ∧ Below W.heap.size W w'))
    (H44 : Hid (∀ (L2 : HL) (g : House), g = hu ∨ g = turnH hu r q → ∀ W, HouseAt W W.heap.size L2 g → Calls Try.prog 44 #[L2.enc g] W fun e w' => e = .returned (.tuple #[.int .i64 m, .int .i64 n, .bool is, .bool false]) ∧ Below W.heap.size W w'))
    (H45 : Hid (∀ (L2 : HL) (g : House), g = hu ∨ g = turnH hu r q → ∀ W, HouseAt W W.heap.size L2 g → Calls Try.prog 45 #[L2.enc g, .int .i64 xd] W fun e w' => e = .returned (.tuple #[.int .i64 va, .int .i64 ea]) ∧ Below W.heap.size W w'))
    (H18 : Hid (∀ (L2 : HL) (g : House), g = hu ∨ g = turnH hu r q → ∀ W, HouseAt W W.heap.size L2 g → Calls Try.prog 18 #[L2.enc g, .int .i64 xs] W fun e w' => e = .returned (.tuple #[.int .i64 vs, .int .i64 es]) ∧ Below W.heap.size W w'))
    (H20 : Hid (∀ (L2 : HL) (g : House), g = hu ∨ g = turnH hu r q → (g.bs.length ≤ L2.cb ∧ (L2.Ab = none → L2.cb = 0) ∧ L2.cb ≤ 9223372036854775807) → ∀ W, HouseAt W W.heap.size L2 g → Calls Try.prog 20 #[L2.enc g] W fun e w' => e = .returned (.tuple #[.int .i64 vb, .int .i64 eb]) ∧ Below W.heap.size W w'))
    (hcb : hu.bs.length ≤ L.cb ∧ (L.Ab = none → L.cb = 0) ∧ L.cb ≤ 9223372036854775807) (w : World) (hH : HouseAt w w.heap.size L hu) :
    Calls Try.prog 8 #[L.enc hu, .agg #[.int .i64 xb, .int .i64 xp, .int .i64 xd, .int .i64 xs]] w fun e w' => e = .returned (.bool true) ∧ Below w.heap.size w w' := by
  obtain ⟨W0, hW0, hM⟩ := TurnM.new (L := L) xb xp xd xs hH
  have HN := Lib.hid (show hu.ks.length ≤ 1000 ∧ hu.ps.length ≤ 1000 ∧ hu.bs.length ≤ 1000 from ⟨by have := hV.kl; omega, by have := hV.pl; omega, by have := hV.bl; omega⟩)
  have hbl := hV.bl
  have hpl := hV.pl
  have HW0 := Lib.hid hW0
  have M0 := Lib.hid hM
  have hc0 := hM.c
  have HOK' := Lib.hid hok
  have HCB := Lib.hid hcb
  have HRR := Lib.hid hr
  have HQQ := Lib.hid hq
  clear hW0 hM hH hV hok hcb hr hq
  obtain ⟨Ak, ck, Ap, cp, Ab, cb⟩ := L
  obtain ⟨xb0, xb1, xp0, xp1⟩ := h0
  have hle3 : xp ≤ xb := by omega
  go_enter Try.func8, Try.ntmps8
  go_upto_region 1 with (fail)
  have e := HW0.out
  rw [e]
  clear e
  go_wp2_with (first
    | (go_at_call 23; refine (HR.out W0 M0.out.house).mono ?_; rintro e w1 ⟨rfl, hb1⟩; have M1 := Lib.hid (M0.out.next hb1); have m1 := M1.out.c; clear hb1)
    | (go_at_call 17; refine (copy_any _ hu HN.out HOK'.out w1 M1.out.house).mono ?_; rintro e w2 ⟨⟨⟨Bk, dk, Bp, dp, Bb, db⟩, n1, n2, rfl, hC⟩, hb2⟩; have hM2 := M1.out.next hb2; have hO2 := TurnO.new hC (s := w.heap.size + 2) M1.out.lt; have M2 := Lib.hid (hM2.next ((Below.refl _ w2).alloc (Nat.le_refl _) (.cells #[.slice Bk hu.ks.length dk, .int .i64 hu.fl, .slice Bp hu.ps.length dp, .slice Bb hu.bs.length db] 26))); have O2 := Lib.hid hO2; have m2 := M2.out.c; have hs2 : w.heap.size + 1 < w2.heap.size := hM2.lt; clear hC hb2 hM2 hO2))
  clear hc0 m1 m2
  have hne1 : ¬ w2.heap.size = w.heap.size := by omega
  have hne2 : ¬ w.heap.size = w2.heap.size := by omega
  have hne3 : ¬ w2.heap.size = w.heap.size + 1 := by omega
  have hne4 : ¬ w.heap.size + 1 = w2.heap.size := by omega
  go_loopw [6] (fun i wr => ∃ k : Nat, k ≤ hu.bs.length ∧ i = .int .i64 k ∧ Hid (TurnM w wr ⟨Ak, ck, Ap, cp, Ab, cb⟩ hu xb xp xd xs) ∧ Hid (TurnO wr (w.heap.size + 2) w2.heap.size ⟨Bk, dk, Bp, dp, Bb, db⟩ { hu with bs := mixL hu.bs (rotL hu.bs r) k })) (fun i _ => hu.bs.length - (intOf i).toNat)
  case atStart => exact ⟨0, Nat.zero_le _, rfl, M2, Lib.hid (by rw [mixL_zero]; exact O2.out)⟩
  case round =>
    obtain ⟨k, hk, rfl, MR, OR⟩ := hrel
    obtain ⟨⟨g0, g1, g2, g3⟩, x0, x1, x2, x3⟩ := MR.out.c
    obtain ⟨z0, z1, z2, z3⟩ := OR.out.z.cells
    have hml : (mixL hu.bs (rotL hu.bs r) k).length = hu.bs.length := mixL_len (rotL_len _ _) k
    simp only [hml] at z3
    by_cases hlt : k < hu.bs.length
    · obtain ⟨gB, eB, hgs, hgb, hfz, ⟨y, hy⟩, hput⟩ := OR.out.putB (i := k) (by rw [hml]; exact hlt)
      simp only at eB
      rw [eB] at z3
      have hrem := Hr.out k hlt
      obtain ⟨idx, hidx⟩ : ∃ idx, idx = (if k + r < hu.bs.length then k + r else k + r - hu.bs.length) := ⟨_, rfl⟩
      have hil : idx < hu.bs.length := by have := HRR.out; rw [hidx]; split <;> omega
      rw [← hidx] at hrem
      obtain ⟨x, hx⟩ : ∃ x, hu.bs[idx]? = some x := ⟨_, List.getElem?_eq_getElem hil⟩
      have hrx : (rotL hu.bs r)[k]? = some x := by rw [rotL_at HRR.out hlt, ← hidx]; exact hx
      obtain ⟨b1, o1, eA, b1lt, cx0⟩ := MR.out.H.b.at_ hx
      have cx := (MR.out.B.cell (p := ⟨b1, o1 + idx, none⟩) b1lt).trans cx0
      have n8' : ¬ gB = b1 := by omega
      have n9' : ¬ b1 = gB := by omega
      simp only at eA
      rw [eA] at g3
      have PUT := Lib.hid (hput x)
      have HNX := Lib.hid (mixL_next (rotL_len hu.bs r) hlt hrx)
      have n1' : ¬ gB = w.heap.size := by omega
      have n2' : ¬ gB = w.heap.size + 1 := by omega
      have n5' : ¬ w.heap.size = gB := by omega
      have n6' : ¬ w.heap.size + 1 = gB := by omega
      have n7' : ¬ w2.heap.size = gB := fun e => hgb e.symm
      clear hx hrx hidx hput eA eB cx0 hml z0 z1 z2 g0 g1 g2 x1 x2 x3
      have hn0 : ¬ (hu.bs.length : Int) = 0 := by omega
      have hn1 : ¬ hu.bs = [] := fun e => by rw [e] at hlt; simp at hlt
      have hwr : IntKind.i64.wrap ((k : Int) + xb) = (k : Int) + xb := IntWalk.i64_in _ (by omega)
      have hk0 : (0 : Int) ≤ (k : Int) + xb := by omega
      have htm : Int.tmod ((k : Int) + xb) (hu.bs.length : Int) = (idx : Int) := by rw [Int.tmod_eq_emod_of_nonneg hk0]; exact hrem
      go_upto_region 7 with (fail)
      go_region_held3 (fun w' => w'.cell? ⟨w.heap.size, 3, none⟩ = some (.slice (some ⟨b1, o1, none⟩) hu.bs.length cb) ∧ w'.cell? ⟨w2.heap.size, 3, none⟩ = some (.slice (some ⟨gB, 0, none⟩) hu.bs.length db) ∧ w'.cell? ⟨w.heap.size + 1, 0, none⟩ = some (.int .i64 xb) ∧ w'.cell? ⟨b1, o1 + idx, none⟩ = some (.int .i64 x)) (first | go_keep) (fail)
      go_wp2_with (fail)
      go_roundw
      case rel => exact ⟨k + 1, by omega, by go_num, Lib.hid ((MR.out.set (o := k) (u := .int .i64 x) hgs).next (drew_below _)), Lib.hid (by rw [HNX.out]; exact PUT.out.next (drew_below _))⟩
      case measure => simp [intOf]; omega
    · obtain rfl : k = hu.bs.length := by omega
      have O3 := OR.out
      rw [mixL_all (rotL_len _ _)] at O3
      have OB := Lib.hid O3
      clear O3 z0 z1 z2 z3 hml x0 x1 x2 x3
      go_wp2_with (fail)
      go_loopw [7] (fun i wx => ∃ k : Nat, k ≤ hu.ps.length ∧ i = .int .i64 k ∧ Hid (TurnM w wx ⟨Ak, ck, Ap, cp, Ab, cb⟩ hu xb xp xd xs) ∧ Hid (TurnO wx (w.heap.size + 2) w2.heap.size ⟨Bk, dk, Bp, dp, Bb, db⟩ { hu with bs := rotL hu.bs r, ps := mixL hu.ps (rotL hu.ps q) k })) (fun i _ => hu.ps.length - (intOf i).toNat)
      case atStart => exact ⟨0, Nat.zero_le _, rfl, MR, Lib.hid (by rw [mixL_zero]; exact OB.out)⟩
      case round =>
        clear MR OR OB
        obtain ⟨k, hk, rfl, MR, OR⟩ := hrel
        obtain ⟨⟨g0, g1, g2, g3⟩, x0, x1, x2, x3⟩ := MR.out.c
        obtain ⟨z0, z1, z2, z3⟩ := OR.out.z.cells
        have hml : (mixL hu.ps (rotL hu.ps q) k).length = hu.ps.length := mixL_len (rotL_len _ _) k
        simp only [hml] at z2
        by_cases hlt2 : k < hu.ps.length
        · obtain ⟨gP, eP, hgs, hgb, hfz, ⟨y, yy, hy, hy2⟩, hput⟩ := OR.out.putP (i := k) (by show k < (mixL hu.ps (rotL hu.ps q) k).length; rw [hml]; exact hlt2)
          simp only at eP
          rw [eP] at z2
          have hrem := Hq.out k hlt2
          obtain ⟨idx, hidx⟩ : ∃ idx, idx = (if k + q < hu.ps.length then k + q else k + q - hu.ps.length) := ⟨_, rfl⟩
          have hil : idx < hu.ps.length := by have := HQQ.out; rw [hidx]; split <;> omega
          rw [← hidx] at hrem
          obtain ⟨⟨x, xx⟩, hx⟩ : ∃ x, hu.ps[idx]? = some x := ⟨_, List.getElem?_eq_getElem hil⟩
          have hrx : (rotL hu.ps q)[k]? = some (x, xx) := by rw [rotL_at HQQ.out hlt2, ← hidx]; exact hx
          obtain ⟨b1, o1, eA, b1lt, cx0, cy0⟩ := MR.out.H.p.at_ hx
          have cx := (MR.out.B.cell (p := ⟨b1, o1 + idx * 2, none⟩) b1lt).trans cx0
          have cy := (MR.out.B.cell (p := ⟨b1, o1 + idx * 2 + 1, none⟩) b1lt).trans cy0
          simp only at eA cx cy
          rw [eA] at g2
          have n8' : ¬ gP = b1 := by omega
          have n9' : ¬ b1 = gP := by omega
          have PUT := Lib.hid (hput (x, xx))
          have HNX := Lib.hid (mixL_next (rotL_len hu.ps q) hlt2 hrx)
          have n1' : ¬ gP = w.heap.size := by omega
          have n2' : ¬ gP = w.heap.size + 1 := by omega
          have n5' : ¬ w.heap.size = gP := by omega
          have n6' : ¬ w.heap.size + 1 = gP := by omega
          have n7' : ¬ w2.heap.size = gP := fun e => hgb e.symm
          clear hx hrx hidx hput eA eP hml z0 z1 z3 g0 g1 g3 x0 x2 x3 cx0 cy0
          have hn0 : ¬ (hu.ps.length : Int) = 0 := by omega
          have hn1 : ¬ hu.ps = [] := fun e => by rw [e] at hlt2; simp at hlt2
          have hwr : IntKind.i64.wrap ((k : Int) + xp) = (k : Int) + xp := IntWalk.i64_in _ (by omega)
          have hk0 : (0 : Int) ≤ (k : Int) + xp := by omega
          have htm : Int.tmod ((k : Int) + xp) (hu.ps.length : Int) = (idx : Int) := by rw [Int.tmod_eq_emod_of_nonneg hk0]; exact hrem
          go_upto_region 11 with (fail)
          go_region_held3 (fun w' => w'.cell? ⟨w.heap.size, 2, none⟩ = some (.slice (some ⟨b1, o1, none⟩) hu.ps.length cp) ∧ w'.cell? ⟨w2.heap.size, 2, none⟩ = some (.slice (some ⟨gP, 0, none⟩) hu.ps.length dp) ∧ w'.cell? ⟨w.heap.size + 1, 1, none⟩ = some (.int .i64 xp) ∧ w'.cell? ⟨b1, o1 + idx * 2, none⟩ = some (.int .i64 x) ∧ w'.cell? ⟨b1, o1 + idx * 2 + 1, none⟩ = some (.int .i64 xx)) (first | go_keep) (fail)
          go_wp2_with (fail)
          go_roundw
          case rel => exact ⟨k + 1, by omega, by go_num, Lib.hid (((MR.out.set (o := k * 2) (u := .int .i64 x) hgs).set (o := k * 2 + 1) (u := .int .i64 xx) hgs).next (drew_below _)), Lib.hid (by rw [HNX.out]; exact PUT.out.next (drew_below _))⟩
          case measure => simp [intOf]; omega
        · obtain rfl : k = hu.ps.length := by omega
          have O3 := OR.out
          rw [mixL_all (rotL_len _ _)] at O3
          have OB := Lib.hid (show TurnO wr (w.heap.size + 2) w2.heap.size ⟨Bk, dk, Bp, dp, Bb, db⟩ (turnH hu r q) from O3)
          have hO := OB.out.z.cells
          clear O3 z0 z1 z2 z3 hml OR
          go_wp2_with (first
            | (go_at_call 44; (with_reducible refine (H44.out ⟨Bk, dk, Bp, dp, Bb, db⟩ (turnH hu r q) (.inr rfl) v1 OO1.out.house).mono ?_); rintro e v2 ⟨rfl, hb2⟩; have MM2 := Lib.hid (MM1.out.next hb2); have OO2 := Lib.hid (OO1.out.next hb2); have mm2 := MM2.out.c; have oo2 := OO2.out.z.cells; clear hb2)
            | (go_at_call 44; (with_reducible refine (H44.out ⟨Ak, ck, Ap, cp, Ab, cb⟩ hu (.inl rfl) wr MR.out.house).mono ?_); rintro e v1 ⟨rfl, hb1⟩; have MM1 := Lib.hid (MR.out.next hb1); have OO1 := Lib.hid (OB.out.next hb1); have mm1 := MM1.out.c; have oo1 := OO1.out.z.cells; clear hb1)
            | (go_at_call 45; (with_reducible refine (H45.out ⟨Bk, dk, Bp, dp, Bb, db⟩ (turnH hu r q) (.inr rfl) v3 OO3.out.house).mono ?_); rintro e v4 ⟨rfl, hb4⟩; have MM4 := Lib.hid (MM3.out.next hb4); have OO4 := Lib.hid (OO3.out.next hb4); have mm4 := MM4.out.c; have oo4 := OO4.out.z.cells; clear hb4)
            | (go_at_call 45; (with_reducible refine (H45.out ⟨Ak, ck, Ap, cp, Ab, cb⟩ hu (.inl rfl) v2 MM2.out.house).mono ?_); rintro e v3 ⟨rfl, hb3⟩; have MM3 := Lib.hid (MM2.out.next hb3); have OO3 := Lib.hid (OO2.out.next hb3); have mm3 := MM3.out.c; have oo3 := OO3.out.z.cells; clear hb3)
            | (go_at_call 18; (with_reducible refine (H18.out ⟨Bk, dk, Bp, dp, Bb, db⟩ (turnH hu r q) (.inr rfl) v5 OO5.out.house).mono ?_); rintro e v6 ⟨rfl, hb6⟩; have MM6 := Lib.hid (MM5.out.next hb6); have OO6 := Lib.hid (OO5.out.next hb6); have mm6 := MM6.out.c; have oo6 := OO6.out.z.cells; clear hb6)
            | (go_at_call 18; (with_reducible refine (H18.out ⟨Ak, ck, Ap, cp, Ab, cb⟩ hu (.inl rfl) v4 MM4.out.house).mono ?_); rintro e v5 ⟨rfl, hb5⟩; have MM5 := Lib.hid (MM4.out.next hb5); have OO5 := Lib.hid (OO4.out.next hb5); have mm5 := MM5.out.c; have oo5 := OO5.out.z.cells; clear hb5)
            | (go_at_call 20; (with_reducible refine (H20.out ⟨Bk, dk, Bp, dp, Bb, db⟩ (turnH hu r q) (.inr rfl) OO7.out.cap v7 OO7.out.house).mono ?_); rintro e v8 ⟨rfl, hb8⟩; have MM8 := Lib.hid (MM7.out.next hb8); have OO8 := Lib.hid (OO7.out.next hb8); have mm8 := MM8.out.c; have oo8 := OO8.out.z.cells; clear hb8)
            | (go_at_call 20; (with_reducible refine (H20.out ⟨Ak, ck, Ap, cp, Ab, cb⟩ hu (.inl rfl) HCB.out v6 MM6.out.house).mono ?_); rintro e v7 ⟨rfl, hb7⟩; have MM7 := Lib.hid (MM6.out.next hb7); have OO7 := Lib.hid (OO6.out.next hb7); have mm7 := MM7.out.c; have oo7 := OO7.out.z.cells; clear hb7)
            | (go_at_call 16; refine (works_any v8).mono ?_; rintro e v9 ⟨rfl, hb9⟩; have MM9 := Lib.hid (MM8.out.next hb9); clear hb9))
          go_ret
          exact ⟨rfl, MM9.out.B⟩
set_option maxRecDepth 100000 in
set_option maxHeartbeats 4000000 in
theorem order_eq (L : HL) (hu : House) (hV : HOK hu) (hok : HLOK L hu) (xb xd xs : Int) (h0 : 0 ≤ xb ∧ xb ≤ 100 ∧ 0 ≤ xb ∧ xb ≤ 100) (r q : Nat) (hr : r ≤ hu.bs.length) (hq : q ≤ hu.ps.length)
    (Hr : Hid (∀ k : Nat, k < hu.bs.length → ((k : Int) + xb) % (hu.bs.length : Int) = ((if k + r < hu.bs.length then k + r else k + r - hu.bs.length : Nat) : Int)))
    (Hq : Hid (∀ k : Nat, k < hu.ps.length → ((k : Int) + xb) % (hu.ps.length : Int) = ((if k + q < hu.ps.length then k + q else k + q - hu.ps.length : Nat) : Int)))
    (m n ea es eb va vs vb : Int) (is : Bool)
    (HR : Hid (∀ W, HouseAt W W.heap.size L hu → Calls Try.prog 23 #[L.enc hu] W fun e w' => e = .returned (.bool true) ∧ Below W.heap.size W w'))
    (H44 : Hid (∀ (L2 : HL) (g : House), g = hu ∨ g = turnH hu r q → ∀ W, HouseAt W W.heap.size L2 g → Calls Try.prog 44 #[L2.enc g] W fun e w' => e = .returned (.tuple #[.int .i64 m, .int .i64 n, .bool is, .bool false]) ∧ Below W.heap.size W w'))
    (H45 : Hid (∀ (L2 : HL) (g : House), g = hu ∨ g = turnH hu r q → ∀ W, HouseAt W W.heap.size L2 g → Calls Try.prog 45 #[L2.enc g, .int .i64 xd] W fun e w' => e = .returned (.tuple #[.int .i64 va, .int .i64 ea]) ∧ Below W.heap.size W w'))
    (H18 : Hid (∀ (L2 : HL) (g : House), g = hu ∨ g = turnH hu r q → ∀ W, HouseAt W W.heap.size L2 g → Calls Try.prog 18 #[L2.enc g, .int .i64 xs] W fun e w' => e = .returned (.tuple #[.int .i64 vs, .int .i64 es]) ∧ Below W.heap.size W w'))
    (H20 : Hid (∀ (L2 : HL) (g : House), g = hu ∨ g = turnH hu r q → (g.bs.length ≤ L2.cb ∧ (L2.Ab = none → L2.cb = 0) ∧ L2.cb ≤ 9223372036854775807) → ∀ W, HouseAt W W.heap.size L2 g → Calls Try.prog 20 #[L2.enc g] W fun e w' => e = .returned (.tuple #[.int .i64 vb, .int .i64 eb]) ∧ Below W.heap.size W w'))
    (hcb : hu.bs.length ≤ L.cb ∧ (L.Ab = none → L.cb = 0) ∧ L.cb ≤ 9223372036854775807) (w : World) (hH : HouseAt w w.heap.size L hu) :
    Calls Try.prog 8 #[L.enc hu, .agg #[.int .i64 xb, .int .i64 xb, .int .i64 xd, .int .i64 xs]] w fun e w' => e = .returned (.bool true) ∧ Below w.heap.size w w' := by
  obtain ⟨W0, hW0, hM⟩ := TurnM.new (L := L) xb xb xd xs hH
  have HN := Lib.hid (show hu.ks.length ≤ 1000 ∧ hu.ps.length ≤ 1000 ∧ hu.bs.length ≤ 1000 from ⟨by have := hV.kl; omega, by have := hV.pl; omega, by have := hV.bl; omega⟩)
  have hbl := hV.bl
  have hpl := hV.pl
  have HW0 := Lib.hid hW0
  have M0 := Lib.hid hM
  have hc0 := hM.c
  have HOK' := Lib.hid hok
  have HCB := Lib.hid hcb
  have HRR := Lib.hid hr
  have HQQ := Lib.hid hq
  clear hW0 hM hH hV hok hcb hr hq
  obtain ⟨Ak, ck, Ap, cp, Ab, cb⟩ := L
  obtain ⟨xb0, xb1, xp0, xp1⟩ := h0
  go_enter Try.func8, Try.ntmps8
  go_upto_region 1 with (fail)
  have e := HW0.out
  rw [e]
  clear e
  go_wp2_with (first
    | (go_at_call 23; refine (HR.out W0 M0.out.house).mono ?_; rintro e w1 ⟨rfl, hb1⟩; have M1 := Lib.hid (M0.out.next hb1); have m1 := M1.out.c; clear hb1)
    | (go_at_call 17; refine (copy_any _ hu HN.out HOK'.out w1 M1.out.house).mono ?_; rintro e w2 ⟨⟨⟨Bk, dk, Bp, dp, Bb, db⟩, n1, n2, rfl, hC⟩, hb2⟩; have hM2 := M1.out.next hb2; have hO2 := TurnO.new hC (s := w.heap.size + 2) M1.out.lt; have M2 := Lib.hid (hM2.next ((Below.refl _ w2).alloc (Nat.le_refl _) (.cells #[.slice Bk hu.ks.length dk, .int .i64 hu.fl, .slice Bp hu.ps.length dp, .slice Bb hu.bs.length db] 26))); have O2 := Lib.hid hO2; have m2 := M2.out.c; have hs2 : w.heap.size + 1 < w2.heap.size := hM2.lt; clear hC hb2 hM2 hO2))
  clear hc0 m1 m2
  have hne1 : ¬ w2.heap.size = w.heap.size := by omega
  have hne2 : ¬ w.heap.size = w2.heap.size := by omega
  have hne3 : ¬ w2.heap.size = w.heap.size + 1 := by omega
  have hne4 : ¬ w.heap.size + 1 = w2.heap.size := by omega
  go_loopw [6] (fun i wr => ∃ k : Nat, k ≤ hu.bs.length ∧ i = .int .i64 k ∧ Hid (TurnM w wr ⟨Ak, ck, Ap, cp, Ab, cb⟩ hu xb xb xd xs) ∧ Hid (TurnO wr (w.heap.size + 2) w2.heap.size ⟨Bk, dk, Bp, dp, Bb, db⟩ { hu with bs := mixL hu.bs (rotL hu.bs r) k })) (fun i _ => hu.bs.length - (intOf i).toNat)
  case atStart => exact ⟨0, Nat.zero_le _, rfl, M2, Lib.hid (by rw [mixL_zero]; exact O2.out)⟩
  case round =>
    obtain ⟨k, hk, rfl, MR, OR⟩ := hrel
    obtain ⟨⟨g0, g1, g2, g3⟩, x0, x1, x2, x3⟩ := MR.out.c
    obtain ⟨z0, z1, z2, z3⟩ := OR.out.z.cells
    have hml : (mixL hu.bs (rotL hu.bs r) k).length = hu.bs.length := mixL_len (rotL_len _ _) k
    simp only [hml] at z3
    by_cases hlt : k < hu.bs.length
    · obtain ⟨gB, eB, hgs, hgb, hfz, ⟨y, hy⟩, hput⟩ := OR.out.putB (i := k) (by rw [hml]; exact hlt)
      simp only at eB
      rw [eB] at z3
      have hrem := Hr.out k hlt
      obtain ⟨idx, hidx⟩ : ∃ idx, idx = (if k + r < hu.bs.length then k + r else k + r - hu.bs.length) := ⟨_, rfl⟩
      have hil : idx < hu.bs.length := by have := HRR.out; rw [hidx]; split <;> omega
      rw [← hidx] at hrem
      obtain ⟨x, hx⟩ : ∃ x, hu.bs[idx]? = some x := ⟨_, List.getElem?_eq_getElem hil⟩
      have hrx : (rotL hu.bs r)[k]? = some x := by rw [rotL_at HRR.out hlt, ← hidx]; exact hx
      obtain ⟨b1, o1, eA, b1lt, cx0⟩ := MR.out.H.b.at_ hx
      have cx := (MR.out.B.cell (p := ⟨b1, o1 + idx, none⟩) b1lt).trans cx0
      have n8' : ¬ gB = b1 := by omega
      have n9' : ¬ b1 = gB := by omega
      simp only at eA
      rw [eA] at g3
      have PUT := Lib.hid (hput x)
      have HNX := Lib.hid (mixL_next (rotL_len hu.bs r) hlt hrx)
      have n1' : ¬ gB = w.heap.size := by omega
      have n2' : ¬ gB = w.heap.size + 1 := by omega
      have n5' : ¬ w.heap.size = gB := by omega
      have n6' : ¬ w.heap.size + 1 = gB := by omega
      have n7' : ¬ w2.heap.size = gB := fun e => hgb e.symm
      clear hx hrx hidx hput eA eB cx0 hml z0 z1 z2 g0 g1 g2 x1 x2 x3
      have hn0 : ¬ (hu.bs.length : Int) = 0 := by omega
      have hn1 : ¬ hu.bs = [] := fun e => by rw [e] at hlt; simp at hlt
      have hwr : IntKind.i64.wrap ((k : Int) + xb) = (k : Int) + xb := IntWalk.i64_in _ (by omega)
      have hk0 : (0 : Int) ≤ (k : Int) + xb := by omega
      have htm : Int.tmod ((k : Int) + xb) (hu.bs.length : Int) = (idx : Int) := by rw [Int.tmod_eq_emod_of_nonneg hk0]; exact hrem
      go_upto_region 7 with (fail)
      go_region_held3 (fun w' => w'.cell? ⟨w.heap.size, 3, none⟩ = some (.slice (some ⟨b1, o1, none⟩) hu.bs.length cb) ∧ w'.cell? ⟨w2.heap.size, 3, none⟩ = some (.slice (some ⟨gB, 0, none⟩) hu.bs.length db) ∧ w'.cell? ⟨w.heap.size + 1, 0, none⟩ = some (.int .i64 xb) ∧ w'.cell? ⟨b1, o1 + idx, none⟩ = some (.int .i64 x)) (first | go_keep) (fail)
      go_wp2_with (fail)
      go_roundw
      case rel => exact ⟨k + 1, by omega, by go_num, Lib.hid ((MR.out.set (o := k) (u := .int .i64 x) hgs).next (drew_below _)), Lib.hid (by rw [HNX.out]; exact PUT.out.next (drew_below _))⟩
      case measure => simp [intOf]; omega
    · obtain rfl : k = hu.bs.length := by omega
      have O3 := OR.out
      rw [mixL_all (rotL_len _ _)] at O3
      have OB := Lib.hid O3
      clear O3 z0 z1 z2 z3 hml x0 x1 x2 x3
      go_wp2_with (fail)
      go_loopw [7] (fun i wx => ∃ k : Nat, k ≤ hu.ps.length ∧ i = .int .i64 k ∧ Hid (TurnM w wx ⟨Ak, ck, Ap, cp, Ab, cb⟩ hu xb xb xd xs) ∧ Hid (TurnO wx (w.heap.size + 2) w2.heap.size ⟨Bk, dk, Bp, dp, Bb, db⟩ { hu with bs := rotL hu.bs r, ps := mixL hu.ps (rotL hu.ps q) k })) (fun i _ => hu.ps.length - (intOf i).toNat)
      case atStart => exact ⟨0, Nat.zero_le _, rfl, MR, Lib.hid (by rw [mixL_zero]; exact OB.out)⟩
      case round =>
        clear MR OR OB
        obtain ⟨k, hk, rfl, MR, OR⟩ := hrel
        obtain ⟨⟨g0, g1, g2, g3⟩, x0, x1, x2, x3⟩ := MR.out.c
        obtain ⟨z0, z1, z2, z3⟩ := OR.out.z.cells
        have hml : (mixL hu.ps (rotL hu.ps q) k).length = hu.ps.length := mixL_len (rotL_len _ _) k
        simp only [hml] at z2
        by_cases hlt2 : k < hu.ps.length
        · obtain ⟨gP, eP, hgs, hgb, hfz, ⟨y, yy, hy, hy2⟩, hput⟩ := OR.out.putP (i := k) (by show k < (mixL hu.ps (rotL hu.ps q) k).length; rw [hml]; exact hlt2)
          simp only at eP
          rw [eP] at z2
          have hrem := Hq.out k hlt2
          obtain ⟨idx, hidx⟩ : ∃ idx, idx = (if k + q < hu.ps.length then k + q else k + q - hu.ps.length) := ⟨_, rfl⟩
          have hil : idx < hu.ps.length := by have := HQQ.out; rw [hidx]; split <;> omega
          rw [← hidx] at hrem
          obtain ⟨⟨x, xx⟩, hx⟩ : ∃ x, hu.ps[idx]? = some x := ⟨_, List.getElem?_eq_getElem hil⟩
          have hrx : (rotL hu.ps q)[k]? = some (x, xx) := by rw [rotL_at HQQ.out hlt2, ← hidx]; exact hx
          obtain ⟨b1, o1, eA, b1lt, cx0, cy0⟩ := MR.out.H.p.at_ hx
          have cx := (MR.out.B.cell (p := ⟨b1, o1 + idx * 2, none⟩) b1lt).trans cx0
          have cy := (MR.out.B.cell (p := ⟨b1, o1 + idx * 2 + 1, none⟩) b1lt).trans cy0
          simp only at eA cx cy
          rw [eA] at g2
          have n8' : ¬ gP = b1 := by omega
          have n9' : ¬ b1 = gP := by omega
          have PUT := Lib.hid (hput (x, xx))
          have HNX := Lib.hid (mixL_next (rotL_len hu.ps q) hlt2 hrx)
          have n1' : ¬ gP = w.heap.size := by omega
          have n2' : ¬ gP = w.heap.size + 1 := by omega
          have n5' : ¬ w.heap.size = gP := by omega
          have n6' : ¬ w.heap.size + 1 = gP := by omega
          have n7' : ¬ w2.heap.size = gP := fun e => hgb e.symm
          clear hx hrx hidx hput eA eP hml z0 z1 z3 g0 g1 g3 x0 x2 x3 cx0 cy0
          have hn0 : ¬ (hu.ps.length : Int) = 0 := by omega
          have hn1 : ¬ hu.ps = [] := fun e => by rw [e] at hlt2; simp at hlt2
          have hwr : IntKind.i64.wrap ((k : Int) + xb) = (k : Int) + xb := IntWalk.i64_in _ (by omega)
          have hk0 : (0 : Int) ≤ (k : Int) + xb := by omega
          have htm : Int.tmod ((k : Int) + xb) (hu.ps.length : Int) = (idx : Int) := by rw [Int.tmod_eq_emod_of_nonneg hk0]; exact hrem
          go_upto_region 11 with (fail)
          go_region_held3 (fun w' => w'.cell? ⟨w.heap.size, 2, none⟩ = some (.slice (some ⟨b1, o1, none⟩) hu.ps.length cp) ∧ w'.cell? ⟨w2.heap.size, 2, none⟩ = some (.slice (some ⟨gP, 0, none⟩) hu.ps.length dp) ∧ w'.cell? ⟨w.heap.size + 1, 1, none⟩ = some (.int .i64 xb) ∧ w'.cell? ⟨b1, o1 + idx * 2, none⟩ = some (.int .i64 x) ∧ w'.cell? ⟨b1, o1 + idx * 2 + 1, none⟩ = some (.int .i64 xx)) (first | go_keep) (fail)
          go_wp2_with (fail)
          go_roundw
          case rel => exact ⟨k + 1, by omega, by go_num, Lib.hid (((MR.out.set (o := k * 2) (u := .int .i64 x) hgs).set (o := k * 2 + 1) (u := .int .i64 xx) hgs).next (drew_below _)), Lib.hid (by rw [HNX.out]; exact PUT.out.next (drew_below _))⟩
          case measure => simp [intOf]; omega
        · obtain rfl : k = hu.ps.length := by omega
          have O3 := OR.out
          rw [mixL_all (rotL_len _ _)] at O3
          have OB := Lib.hid (show TurnO wr (w.heap.size + 2) w2.heap.size ⟨Bk, dk, Bp, dp, Bb, db⟩ (turnH hu r q) from O3)
          have hO := OB.out.z.cells
          clear O3 z0 z1 z2 z3 hml OR
          go_wp2_with (first
            | (go_at_call 44; (with_reducible refine (H44.out ⟨Bk, dk, Bp, dp, Bb, db⟩ (turnH hu r q) (.inr rfl) v1 OO1.out.house).mono ?_); rintro e v2 ⟨rfl, hb2⟩; have MM2 := Lib.hid (MM1.out.next hb2); have OO2 := Lib.hid (OO1.out.next hb2); have mm2 := MM2.out.c; have oo2 := OO2.out.z.cells; clear hb2)
            | (go_at_call 44; (with_reducible refine (H44.out ⟨Ak, ck, Ap, cp, Ab, cb⟩ hu (.inl rfl) wr MR.out.house).mono ?_); rintro e v1 ⟨rfl, hb1⟩; have MM1 := Lib.hid (MR.out.next hb1); have OO1 := Lib.hid (OB.out.next hb1); have mm1 := MM1.out.c; have oo1 := OO1.out.z.cells; clear hb1)
            | (go_at_call 45; (with_reducible refine (H45.out ⟨Bk, dk, Bp, dp, Bb, db⟩ (turnH hu r q) (.inr rfl) v3 OO3.out.house).mono ?_); rintro e v4 ⟨rfl, hb4⟩; have MM4 := Lib.hid (MM3.out.next hb4); have OO4 := Lib.hid (OO3.out.next hb4); have mm4 := MM4.out.c; have oo4 := OO4.out.z.cells; clear hb4)
            | (go_at_call 45; (with_reducible refine (H45.out ⟨Ak, ck, Ap, cp, Ab, cb⟩ hu (.inl rfl) v2 MM2.out.house).mono ?_); rintro e v3 ⟨rfl, hb3⟩; have MM3 := Lib.hid (MM2.out.next hb3); have OO3 := Lib.hid (OO2.out.next hb3); have mm3 := MM3.out.c; have oo3 := OO3.out.z.cells; clear hb3)
            | (go_at_call 18; (with_reducible refine (H18.out ⟨Bk, dk, Bp, dp, Bb, db⟩ (turnH hu r q) (.inr rfl) v5 OO5.out.house).mono ?_); rintro e v6 ⟨rfl, hb6⟩; have MM6 := Lib.hid (MM5.out.next hb6); have OO6 := Lib.hid (OO5.out.next hb6); have mm6 := MM6.out.c; have oo6 := OO6.out.z.cells; clear hb6)
            | (go_at_call 18; (with_reducible refine (H18.out ⟨Ak, ck, Ap, cp, Ab, cb⟩ hu (.inl rfl) v4 MM4.out.house).mono ?_); rintro e v5 ⟨rfl, hb5⟩; have MM5 := Lib.hid (MM4.out.next hb5); have OO5 := Lib.hid (OO4.out.next hb5); have mm5 := MM5.out.c; have oo5 := OO5.out.z.cells; clear hb5)
            | (go_at_call 20; (with_reducible refine (H20.out ⟨Bk, dk, Bp, dp, Bb, db⟩ (turnH hu r q) (.inr rfl) OO7.out.cap v7 OO7.out.house).mono ?_); rintro e v8 ⟨rfl, hb8⟩; have MM8 := Lib.hid (MM7.out.next hb8); have OO8 := Lib.hid (OO7.out.next hb8); have mm8 := MM8.out.c; have oo8 := OO8.out.z.cells; clear hb8)
            | (go_at_call 20; (with_reducible refine (H20.out ⟨Ak, ck, Ap, cp, Ab, cb⟩ hu (.inl rfl) HCB.out v6 MM6.out.house).mono ?_); rintro e v7 ⟨rfl, hb7⟩; have MM7 := Lib.hid (MM6.out.next hb7); have OO7 := Lib.hid (OO6.out.next hb7); have mm7 := MM7.out.c; have oo7 := OO7.out.z.cells; clear hb7)
            | (go_at_call 16; refine (works_any v8).mono ?_; rintro e v9 ⟨rfl, hb9⟩; have MM9 := Lib.hid (MM8.out.next hb9); clear hb9))
          go_ret
          exact ⟨rfl, MM9.out.B⟩
end Go.Proofs.Ytgemmmdcpbajoaa
