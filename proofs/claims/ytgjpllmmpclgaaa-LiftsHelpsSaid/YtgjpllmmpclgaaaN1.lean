import Derived.Test.YtgjpllmmpclgaaaM12
namespace Go.Proofs.Ytgjpllmmpclgaaa
open Go.RowKit

/-! The specification's crews 80. -/
theorem Ints.drew {W : World} {base : Nat} {v : Value} {l : List Int} (h : Ints W base v l) : Ints W.drew base v l := ⟨h.1, h.2⟩
theorem Ints.layN {W : World} {base : Nat} {v : Value} {l : List Int} (h : Ints W base v l) {n : Nat} (hn : l.length = n) : ∃ A c, v = .slice A n c ∧ (A = none → c = 0 ∧ l = []) ∧ IntsIn W base W.heap.size A l := by
  obtain ⟨A, c, h1, h2, _, h3⟩ := h.lay
  exact ⟨A, c, by rw [← hn]; exact h1, h2, h3⟩
def RowsRet (rs : List (List Int)) (lo : Nat) (w' : World) (e : Ending) : Prop := ∃ A c, e = .returned (.slice A rs.length c) ∧ (A = none → c = 0 ∧ rs = []) ∧ RowsIn w' lo w'.heap.size A rs
theorem rows_below1 (w : World) (o : Obj) : Below w.heap.size w (w.alloc o).drew := ((Below.refl _ _).alloc (Nat.le_refl _) o).drew
theorem rows_below2 (w : World) (o p : Obj) : Below w.heap.size w ((w.alloc o).alloc p).drew := (((Below.refl _ _).alloc (Nat.le_refl _) o).alloc (by simp) p).drew
theorem rows_kept {X w3 : World} {ob : Option Nat} (hg : X.grownBy w3 ob) : ∀ B v, X.cell? ⟨B, 0, none⟩ = some v → some B ≠ ob → w3.cell? ⟨B, 0, none⟩ = some v := fun B _v hc hne => (World.cell?_of_block (hg.block B (cell_lt hc) hne)).trans hc
theorem rows_own {w : World} {lo base : Nat} {v : Value} {rs : List (List Int)} (h : OwnsR w lo base v rs) : ∀ k, v.ownBlock = some k → k < w.heap.size := fun k hk => by
  obtain ⟨vs, h, -⟩ := h
  exact (World.ownsRow.lt h k hk).2
theorem rows_box {w5 w6 : World} {s o : Nat} {v : Value} (hb : Below (s + 1) w5 w6) (h : w5.cell? ⟨s, o, none⟩ = some v) : w6.cell? ⟨s, o, none⟩ = some v := (hb.cell (p := ⟨s, o, none⟩) (Nat.lt_succ_self s)).trans h
theorem rows_box2 {w5 w6 : World} {s o : Nat} {v : Value} (hb : Below (s + 1 + 1) w5 w6) (h : w5.cell? ⟨s, o, none⟩ = some v) : w6.cell? ⟨s, o, none⟩ = some v := (hb.cell (p := ⟨s, o, none⟩) (by show s < s + 1 + 1; omega)).trans h
theorem rows_made1 (w : World) : Ints (w.alloc (.cells #[] 3)).drew w.heap.size (.slice (some ⟨w.heap.size, 0, none⟩) 0 0) [] := (ints_made w w.heap.size (Nat.le_refl _)).drew
theorem rows_made2 (w : World) (o : Obj) : Ints ((w.alloc (.cells #[] 3)).alloc o).drew w.heap.size (.slice (some ⟨w.heap.size, 0, none⟩) 0 0) [] := ((ints_made w w.heap.size (Nat.le_refl _)).alloc o).drew
theorem rows_made3 (w : World) (o : Obj) : Ints ((w.alloc o).alloc (.cells #[] 3)).drew w.heap.size (.slice (some ⟨w.heap.size + 1, 0, none⟩) 0 0) [] := by
  have := (ints_made (w.alloc o) w.heap.size (by simp)).drew
  simpa using this
theorem rows_one {w : World} {B m c : Nat} {A : Option Addr} {f : List Int} (hm : f.length = m) (hA : A = none → c = 0 ∧ f = []) (hI : IntsIn w B w.heap.size A f) (hB : B ≤ w.heap.size) :
    RowsIn (w.alloc (.cells #[.slice A m c] 28)) B (w.alloc (.cells #[.slice A m c] 28)).heap.size (some ⟨w.heap.size, 0, none⟩) [f] := by
  have hb := al_below w (.cells #[.slice A m c] 28)
  refine .inr ⟨w.heap.size, 0, rfl, hB, by simp, fun i r hr => ?_⟩
  match i, hr with
  | 0, hr =>
    simp only [List.getElem?_cons_zero, Option.some.injEq] at hr
    subst hr
    exact ⟨A, c, by rw [hm]; simp [go_sem], hA, hI.keep (Nat.le_refl _) hb.size fun b o _ hlt => hb.cell (p := ⟨b, o, none⟩) hlt⟩
set_option maxRecDepth 100000 in
set_option maxHeartbeats 4000000 in
theorem rcrews_any (L : SL) (s : Sea) (hS : SOK s) : ∀ (n : Nat) (f : List Int) (m : Nat), f.length = m → m + n = s.ps.length → ∀ (A : Option Addr) (c B : Nat) (w : World), (A = none → c = 0 ∧ f = []) → SeaAt w w.heap.size L s → IntsIn w B w.heap.size A f → B ≤ w.heap.size →
    Calls Try.prog 80 #[L.enc s, .slice A m c] w fun e w' => RowsRet (crewsR s.bs.length n f) B w' e ∧ Below w.heap.size w w' := by
  intro n
  induction n with
  | zero =>
    intro f m hm hmn A c B w hA hH hI hB
    have hbw := al_below w (.cells #[.int .i64 s.wl, .int .i64 s.wh, .slice L.Ap s.ps.length L.cp, .slice L.Ab s.bs.length L.cb] 27)
    have hB0 := SBox.new w L s
    have HM := Lib.hid hm
    have HA := Lib.hid hA
    have HI := Lib.hid hI
    have HH := Lib.hid hH
    obtain ⟨c0, c1, c2, c3⟩ := hB0.cells
    obtain ⟨W0, hW0⟩ : ∃ W0, w.alloc (.cells #[.int .i64 s.wl, .int .i64 s.wh, .slice L.Ap s.ps.length L.cp, .slice L.Ab s.bs.length L.cb] 27) = W0 := ⟨_, rfl⟩
    rw [hW0] at hbw hB0 c0 c1 c2 c3
    have HW0 := Lib.hid hW0
    have HBW := Lib.hid hbw
    have HBX0 := Lib.hid hB0
    clear hbw hW0 hB0 hm hA hI hH
    have hpl := hS.pl
    have hbl := hS.bl
    have hd : ((m : Int) == (s.ps.length : Int)) = true := by simp; omega
    obtain ⟨Ap, cp, Ab, cb⟩ := L
    go_enter Try.func80, Try.ntmps80
    go_upto_region 1 with (fail)
    have e := HW0.out
    rw [e]
    clear e
    go_wp2_with (fail)
    go_ret
    refine ⟨⟨some ⟨W0.heap.size, 0, none⟩, 1, rfl, (fun e => by cases e), ?_⟩, HBW.out.alloc HBW.out.size _⟩
    exact rows_one HM.out HA.out (HI.out.keep (Nat.le_refl _) HBW.out.size fun b o _ hlt => HBW.out.cell (p := ⟨b, o, none⟩) hlt) (Nat.le_trans hB HBW.out.size)
  | succ n ih =>
    intro f m hm hmn A c B w hA hH hI hB
    have hbw := al_below w (.cells #[.int .i64 s.wl, .int .i64 s.wh, .slice L.Ap s.ps.length L.cp, .slice L.Ab s.bs.length L.cb] 27)
    have hB0 := SBox.new w L s
    have HM := Lib.hid hm
    have HA := Lib.hid hA
    have HI := Lib.hid hI
    have HH := Lib.hid hH
    obtain ⟨c0, c1, c2, c3⟩ := hB0.cells
    obtain ⟨W0, hW0⟩ : ∃ W0, w.alloc (.cells #[.int .i64 s.wl, .int .i64 s.wh, .slice L.Ap s.ps.length L.cp, .slice L.Ab s.bs.length L.cb] 27) = W0 := ⟨_, rfl⟩
    rw [hW0] at hbw hB0 c0 c1 c2 c3
    have HW0 := Lib.hid hW0
    have HBW := Lib.hid hbw
    have HBX0 := Lib.hid hB0
    clear hbw hW0 hB0 hm hA hI hH
    have hpl := hS.pl
    have hbl := hS.bl
    have HIH := Lib.hid ih
    clear ih
    have hd : ((m : Int) == (s.ps.length : Int)) = false := by simp; omega
    obtain ⟨Ap, cp, Ab, cb⟩ := L
    go_enter Try.func80, Try.ntmps80
    go_upto_region 1 with (fail)
    have e := HW0.out
    rw [e]
    clear e
    go_wp2_with (fail)
    clear c0 c1 c2 c3
    go_loopw [5, 6] (fun v i wr => ∃ k : Nat, k ≤ s.bs.length ∧ i = .int .i64 k ∧ Hid (OwnsR wr B W0.heap.size v (crewsTo s.bs.length n f k)) ∧ Hid (Below W0.heap.size W0 wr)) (fun _ i _ => s.bs.length - (intOf i).toNat)
    case atStart => exact ⟨0, Nat.zero_le _, rfl, Lib.hid (by rw [crewsTo_zero]; exact ownsR_nil _ _ _), Lib.hid (Below.refl _ _)⟩
    case round =>
      obtain ⟨k, hk, rfl, hown, hb⟩ := hrel
      have hBB := HBX0.out.of (hb.out.block _ HBX0.out.lt)
      obtain ⟨r0, r1, r2, r3⟩ := hBB.cells
      by_cases hlt : k < s.bs.length
      · have HIN := Lib.hid (by have := rIn_any f (by have := HM.out; omega) (k : Int) A c wr (ints_later HI.out.at_ (hb0to HBW.out hb.out)); rwa [HM.out] at this)
        have hob := crewsTo_small (n := n) hbl (by omega) f k (by omega)
        have hlb := crewsR_small (n := n) hbl (by omega) (f ++ [(k : Int)])
        have HOS := Lib.hid (crewsTo_succ s.bs.length n f k)
        by_cases hin : (k : Int) ∈ f
        · rw [decide_eq_true hin] at HIN
          rw [if_pos hin, List.append_nil] at HOS
          clear hin
          go_wp2_with (go_at_call 65; refine HIN.out.mono ?_; rintro e w2 ⟨rfl, hb2⟩; have HB2 := Lib.hid hb2; clear hb2)
          go_roundw
          case rel => exact ⟨k + 1, by omega, by go_num, Lib.hid (by rw [HOS.out]; exact hown.out.below_ HB2.out (Nat.le_refl _)), Lib.hid (hb0to hb.out HB2.out)⟩
          case measure => simp [intOf]; omega
        · rw [decide_eq_false hin] at HIN
          rw [if_neg hin] at HOS
          clear hin
          go_wp2_with (go_at_call 65; refine HIN.out.mono ?_; rintro e w2 ⟨rfl, hb2⟩; have HB2 := Lib.hid (hb0to HBW.out (hb0to hb.out hb2)); have hS2 := hBB.of (hb2.block _ hBB.lt); obtain ⟨g0, g1, g2, g3⟩ := hS2.cells; have HS2 := Lib.hid hS2; have HOWN := Lib.hid (hown.out.below_ hb2 (Nat.le_refl _)); have HBZ := Lib.hid (hb0to hb.out hb2); clear hS2 hb2 r0 r1 r2 r3 hown hb hBB)
          have HBB := Lib.hid HB2.out
          have HFI := Lib.hid (fun W (hW : Below w2.heap.size w2 W) => (ints_later HI.out.at_ (hb0to HB2.out hW)))
          go_region_held3 (fun w' => w'.cell? ⟨w.heap.size, 0, none⟩ = some (.int .i64 s.wl) ∧ w'.cell? ⟨w.heap.size, 1, none⟩ = some (.int .i64 s.wh) ∧ w'.cell? ⟨w.heap.size, 2, none⟩ = some (.slice Ap s.ps.length cp) ∧ w'.cell? ⟨w.heap.size, 3, none⟩ = some (.slice Ab s.bs.length cb)) (first | go_keep)
            (first
              | (refine step_copyG (by rfl) _ _ (by rfl) w2.heap.size _ [] (by rfl) (by first | exact rows_made1 _ | exact rows_made2 _ _ | exact rows_made3 _ _) A c f m HM.out HA.out (by rfl) (HFI.out _ (by first | exact rows_below1 _ _ | exact rows_below2 _ _ _)) (by simp) (by omega) (by first | (simp; done) | (simp; omega)) ?_; intro v3 w3 hown3 hb3 hg3; have hb3' : Below w2.heap.size w2 w3 := (by first | exact (rows_below1 _ _).trans hb3 | exact (rows_below2 _ _ _).trans hb3); have hc3 := rows_kept hg3; have x0 := below_cell hb3' g0; have x1 := below_cell hb3' g1; have x2 := below_cell hb3' g2; have x3 := below_cell hb3' g3; have H3 := Lib.hid hown3; have HG3 := Lib.hid hc3; clear hown3 hg3 hc3 hb3)
              | (refine step_appG (by rfl) _ _ (by rfl) w2.heap.size _ f (by rfl) (by first | exact H3.out | exact H3.out.alloc _) _ 1 (k : Int) (by rfl) (by first | (simp [go_sem]; done) | (exact HG3.out _ _ (by simp [go_sem]) (by intro hh; have hh' := Option.some.inj (hh : some _ = some _); simp at hh'))) (by have := HM.out; omega) (by have := hb3'.size; simp; omega) ?_; intro v4 w4 hown4 hb4; obtain ⟨A4, c4, rfl, hA4, hI4⟩ := hown4.layN (n := m + 1) (by have := HM.out; simp; omega); have hb4' : Below w2.heap.size w2 w4 := (by first | exact hb3'.trans hb4 | exact (hb3'.alloc hb3'.size _).trans hb4); have y0 := below_cell hb4' g0; have y1 := below_cell hb4' g1; have y2 := below_cell hb4' g2; have y3 := below_cell hb4' g3; have HA4 := Lib.hid hA4; have HI4 := Lib.hid hI4; clear hown4 hA4 hI4 hb4)
              | (go_at_call 80; refine (HIH.out (f ++ [(k : Int)]) (m + 1) (by have := HM.out; simp; omega) (by omega) A4 c4 w2.heap.size w4 HA4.out (HH.out.below (hb0to HBB.out hb4')) HI4.out hb4'.size).mono ?_; rintro e w5 ⟨⟨A5, c5, rfl, hA5, hR5⟩, hb5⟩; have hb5' := hb0to hb4' hb5; have z0 := below_cell hb5' g0; have z1 := below_cell hb5' g1; have z2 := below_cell hb5' g2; have z3 := below_cell hb5' g3; have HA5 := Lib.hid hA5; have HR5 := Lib.hid hR5; clear hA5 hR5)
              | (refine step_appR 93 Try.underlying93 (by rfl) _ _ (by rfl) W0.heap.size B W0.heap.size _ (crewsTo s.bs.length n f k) (by rfl) (HOWN.out.below_ hb5' (Nat.le_refl _)) A5 c5 w2.heap.size _ HA5.out (by rfl) HR5.out (Nat.le_trans hB HBB.out.size) (rows_own HOWN.out) (by omega) (by omega) (by have h5z := hb5'.size; have hxz := HBZ.out.size; omega) (Nat.le_refl _) ?_; intro v6 w6 hown6 hb6; have H6 := Lib.hid hown6; have t0 := (hb6.cell (p := ⟨w.heap.size, 0, none⟩) HBX0.out.lt).trans z0; have t1 := (hb6.cell (p := ⟨w.heap.size, 1, none⟩) HBX0.out.lt).trans z1; have t2 := (hb6.cell (p := ⟨w.heap.size, 2, none⟩) HBX0.out.lt).trans z2; have t3 := (hb6.cell (p := ⟨w.heap.size, 3, none⟩) HBX0.out.lt).trans z3; clear hown6))
          all_goals
            have hz6 : Below W0.heap.size W0 w6 := (hb0to HBZ.out hb5').trans hb6
            clear t0 t1 t2 t3 z0 z1 z2 z3 y0 y1 y2 y3 x0 x1 x2 x3 g0 g1 g2 g3 hb3' hb4' hb5' hb5 hb6
            go_wp2_with (fail)
            go_roundw
            case rel => exact ⟨k + 1, by omega, by go_num, Lib.hid (by rw [HOS.out]; exact H6.out), Lib.hid hz6⟩
            case measure => simp [intOf]; omega
      · obtain rfl : k = s.bs.length := by omega
        rw [crewsTo_all] at hown
        obtain ⟨A2, c2, rfl, hA2, hR2⟩ := hown.out.lay (Nat.le_trans hB HBW.out.size)
        have HA2 := Lib.hid hA2
        have HR2 := Lib.hid hR2
        clear hA2 hR2 hown
        go_wp2_with (fail)
        go_ret
        exact ⟨⟨A2, c2, rfl, HA2.out, HR2.out⟩, hb0to HBW.out hb.out⟩
end Go.Proofs.Ytgjpllmmpclgaaa
