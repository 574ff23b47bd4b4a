import Derived.Test.YtgjpllmmpclgaaaN1
namespace Go.Proofs.Ytgjpllmmpclgaaa
open Go.RowKit

/-! The specification's partings 98. -/
set_option maxRecDepth 100000 in
set_option maxHeartbeats 4000000 in
theorem rpartings_any (L : SL) (s : Sea) (hS : SOK s) : ∀ (n : Nat) (f : List Int) (m : Nat), f.length = m → m + n = s.ps.length → (∀ (k : Nat) (u : Int) (y : Int × Int), f[k]? = some u → s.ps[k]? = some y → y.1 ≤ u ∧ u ≤ y.2) → ∀ (A : Option Addr) (c B : Nat) (w : World), (A = none → c = 0 ∧ f = []) → SeaAt w w.heap.size L s → IntsIn w B w.heap.size A f → B ≤ w.heap.size →
    Calls Try.prog 98 #[L.enc s, .slice A m c] w fun e w' => RowsRet (partsF s.ps 12 f) B w' e ∧ Below w.heap.size w w' := by
  intro n
  induction n with
  | zero =>
    intro f m hm hmn hins A c B w hA hH hI hB
    have hbw := al_below w (.cells #[.int .i64 s.wl, .int .i64 s.wh, .slice L.Ap s.ps.length L.cp, .slice L.Ab s.bs.length L.cb] 27)
    have hB0 := SBox.new w L s
    have HM := Lib.hid hm
    have HA := Lib.hid hA
    have HI := Lib.hid hI
    have HH := Lib.hid hH
    obtain ⟨c0, c1, c2, c3⟩ := hB0.cells
    obtain ⟨W0, hW0⟩ : ∃ W0, w.alloc (.cells #[.int .i64 s.wl, .int .i64 s.wh, .slice L.Ap s.ps.length L.cp, .slice L.Ab s.bs.length L.cb] 27) = W0 := ⟨_, rfl⟩
    rw [hW0] at hbw hB0 c0 c1 c2 c3
    have HW0 := Lib.hid hW0
    have HBW := Lib.hid hbw
    have HBX0 := Lib.hid hB0
    clear hbw hW0 hB0 hm hA hI hH
    have hpl := hS.pl
    have hbl := hS.bl
    have hd : ((m : Int) == (s.ps.length : Int)) = true := by simp; omega
    have HE := Lib.hid (partsB_end (s := s) (f := f) (by have := HM.out; omega) hins)
    have HP := Lib.hid (by have := areParts_any L s hS f A c (by have := HM.out; omega) W0 (HH.out.below HBW.out) (ints_later HI.out.at_ HBW.out); rwa [HM.out] at this)
    clear hins
    obtain ⟨Ap, cp, Ab, cb⟩ := L
    cases hpb : partsB s f
    · rw [hpb] at HP
      rw [hpb, if_neg (by decide)] at HE
      rw [HE.out]
      clear hpb
      go_enter Try.func98, Try.ntmps98
      go_upto_region 1 with (fail)
      have e := HW0.out
      rw [e]
      clear e
      go_wp2_with (go_at_call 30; refine HP.out.mono ?_; rintro e w2 ⟨rfl, hb2⟩; have HB2 := Lib.hid (hb0to HBW.out hb2); clear hb2)
      go_ret
      exact ⟨⟨none, 0, rfl, fun _ => ⟨rfl, rfl⟩, .inl rfl⟩, HB2.out⟩
    · rw [hpb] at HP
      rw [hpb, if_pos rfl] at HE
      rw [HE.out]
      clear hpb
      go_enter Try.func98, Try.ntmps98
      go_upto_region 1 with (fail)
      have e := HW0.out
      rw [e]
      clear e
      go_wp2_with (go_at_call 30; refine HP.out.mono ?_; rintro e w2 ⟨rfl, hb2⟩; have HB2 := Lib.hid (hb0to HBW.out hb2); clear hb2)
      go_ret
      refine ⟨⟨some ⟨w2.heap.size, 0, none⟩, 1, rfl, (fun e => by cases e), ?_⟩, HB2.out.alloc HB2.out.size _⟩
      exact rows_one HM.out HA.out (HI.out.keep (Nat.le_refl _) HB2.out.size fun b o _ hlt => HB2.out.cell (p := ⟨b, o, none⟩) hlt) (Nat.le_trans hB HB2.out.size)
  | succ n ih =>
    intro f m hm hmn hins A c B w hA hH hI hB
    have hbw := al_below w (.cells #[.int .i64 s.wl, .int .i64 s.wh, .slice L.Ap s.ps.length L.cp, .slice L.Ab s.bs.length L.cb] 27)
    have hB0 := SBox.new w L s
    have HM := Lib.hid hm
    have HA := Lib.hid hA
    have HI := Lib.hid hI
    have HH := Lib.hid hH
    obtain ⟨c0, c1, c2, c3⟩ := hB0.cells
    obtain ⟨W0, hW0⟩ : ∃ W0, w.alloc (.cells #[.int .i64 s.wl, .int .i64 s.wh, .slice L.Ap s.ps.length L.cp, .slice L.Ab s.bs.length L.cb] 27) = W0 := ⟨_, rfl⟩
    rw [hW0] at hbw hB0 c0 c1 c2 c3
    have HW0 := Lib.hid hW0
    have HBW := Lib.hid hbw
    have HBX0 := Lib.hid hB0
    clear hbw hW0 hB0 hm hA hI hH
    have hpl := hS.pl
    have hbl := hS.bl
    have HIH := Lib.hid ih
    clear ih
    have hd : ((m : Int) == (s.ps.length : Int)) = false := by simp; omega
    obtain ⟨x, hx⟩ : ∃ x, s.ps[m]? = some x := ⟨_, List.getElem?_eq_getElem (by omega)⟩
    have hx13 := hS.p x (List.mem_of_getElem? hx)
    have hsp : ∀ y ∈ s.ps, y.2 + 1 - y.1 ≤ 13 := fun y hy => by have := hS.p y hy; omega
    have HSP := Lib.hid hsp
    have HINS := Lib.hid hins
    have HX := Lib.hid hx
    have hx' : s.ps[f.length]? = some x := by rw [HM.out]; exact hx
    have HX' := Lib.hid hx'
    have HSM := Lib.hid (fun g => partsF_small hpl hsp 12 g)
    have hml : m < s.ps.length := by omega
    obtain ⟨bi, oi, eA, blt, d1, d2⟩ := (HH.out.below HBW.out).p.at_ hx
    clear hsp hins hx hx'
    obtain ⟨Ap, cp, Ab, cb⟩ := L
    simp only at eA
    subst eA
    go_enter Try.func98, Try.ntmps98
    go_upto_region 1 with (fail)
    have e := HW0.out
    rw [e]
    clear e
    go_upto_region 7 with (fail)
    have hbp := al_below W0 (.cells #[.int .i64 x.1, .int .i64 x.2] 23)
    have f0 : (W0.alloc (.cells #[.int .i64 x.1, .int .i64 x.2] 23)).cell? ⟨W0.heap.size, 0, none⟩ = some (.int .i64 x.1) := by simp [go_sem]
    have f1 : (W0.alloc (.cells #[.int .i64 x.1, .int .i64 x.2] 23)).cell? ⟨W0.heap.size, 1, none⟩ = some (.int .i64 x.2) := by simp [go_sem]
    have q0 := below_cell hbp c0
    have q1 := below_cell hbp c1
    have q2 := below_cell hbp c2
    have q3 := below_cell hbp c3
    clear c0 c1 c2 c3 d1 d2
    obtain ⟨W1, hW1⟩ : ∃ W1, W0.alloc (.cells #[.int .i64 x.1, .int .i64 x.2] 23) = W1 := ⟨_, rfl⟩
    rw [hW1] at hbp f0 f1 q0 q1 q2 q3 ⊢
    have HBP := Lib.hid (hb0to HBW.out hbp)
    have hz1 : w.heap.size < W1.heap.size := cell_lt q0
    have hz2 : W0.heap.size < W1.heap.size := cell_lt f0
    have HQ := Lib.hid (And.intro q0 (And.intro q1 (And.intro q2 (And.intro q3 (And.intro f0 f1)))))
    clear hW1 hbp
    go_upto_region 8 with (fail)
    clear q0 q1 q2 q3 f0 f1
    go_loopw [5, 7] (fun v i wr => ∃ k : Nat, ((k : Int) ≤ x.2 + 1 - x.1 ∧ k ≤ 13) ∧ i = .int .i64 (x.1 + (k : Int)) ∧ Hid (OwnsR wr B W1.heap.size v (partsTo s.ps 12 f x k)) ∧ Hid (Below W1.heap.size W1 wr)) (fun _ i _ => (x.2 + 1 - intOf i).toNat)
    case atStart => exact ⟨0, ⟨by omega, by omega⟩, by simp, Lib.hid (by rw [partsTo_zero]; exact ownsR_nil _ _ _), Lib.hid (Below.refl _ _)⟩
    case round =>
      obtain ⟨k, ⟨hk, hk13⟩, rfl, hown, hb⟩ := hrel
      have g0 := below_cell hb.out HQ.out.1
      have g1 := below_cell hb.out HQ.out.2.1
      have g2 := below_cell hb.out HQ.out.2.2.1
      have g3 := below_cell hb.out HQ.out.2.2.2.1
      have g4 := below_cell hb.out HQ.out.2.2.2.2.1
      have g5 := below_cell hb.out HQ.out.2.2.2.2.2
      by_cases hlt : x.1 + (k : Int) ≤ x.2
      · have hob := partsTo_small hpl HSP.out 12 f x k hk13
        obtain ⟨v, hv⟩ : ∃ v : Int, v = x.1 + (k : Int) := ⟨_, rfl⟩
        have HOS := Lib.hid (partsTo_succ s.ps 12 f x k)
        rw [← hv] at HOS hlt ⊢
        have HIN := Lib.hid (inside_snoc HINS.out HX'.out (show x.1 ≤ v by omega) hlt)
        have hlb := HSM.out (f ++ [v])
        have HV := Lib.hid hv
        have hv0 : 0 ≤ v ∧ v ≤ 12 := by omega
        have HBZ := Lib.hid hb.out
        have HBB := Lib.hid (hb0to HBP.out hb.out)
        have HOWN := Lib.hid hown.out
        have HFI := Lib.hid (fun W (hW : Below wr.heap.size wr W) => (ints_later HI.out.at_ (hb0to HBB.out hW)))
        clear hv hown hb
        go_wp2_with (fail)
        go_region_held3 (fun w' => w'.cell? ⟨w.heap.size, 0, none⟩ = some (.int .i64 s.wl) ∧ w'.cell? ⟨w.heap.size, 1, none⟩ = some (.int .i64 s.wh) ∧ w'.cell? ⟨w.heap.size, 2, none⟩ = some (.slice (some ⟨bi, oi, none⟩) s.ps.length cp) ∧ w'.cell? ⟨w.heap.size, 3, none⟩ = some (.slice Ab s.bs.length cb) ∧ w'.cell? ⟨W0.heap.size, 0, none⟩ = some (.int .i64 x.1) ∧ w'.cell? ⟨W0.heap.size, 1, none⟩ = some (.int .i64 x.2)) (first | go_keep)
          (first
              | (refine step_copyG (by rfl) _ _ (by rfl) wr.heap.size _ [] (by rfl) (by first | exact rows_made1 _ | exact rows_made2 _ _ | exact rows_made3 _ _) A c f m HM.out HA.out (by rfl) (HFI.out _ (by first | exact rows_below1 _ _ | exact rows_below2 _ _ _)) (by simp) (by omega) (by first | (simp; done) | (simp; omega)) ?_; intro v3 w3 hown3 hb3 hg3; have hb3' : Below wr.heap.size wr w3 := (by first | exact (rows_below1 _ _).trans hb3 | exact (rows_below2 _ _ _).trans hb3); have hc3 := rows_kept hg3; have x0 := below_cell hb3' g0; have x1 := below_cell hb3' g1; have x2 := below_cell hb3' g2; have x3 := below_cell hb3' g3; have x4 := below_cell hb3' g4; have x5 := below_cell hb3' g5; have H3 := Lib.hid hown3; have HG3 := Lib.hid hc3; clear hown3 hg3 hc3 hb3)
              | (refine step_appG (by rfl) _ _ (by rfl) wr.heap.size _ f (by rfl) (by first | exact H3.out | exact H3.out.alloc _) _ 1 v (by rfl) (by first | (simp [go_sem]; done) | (exact HG3.out _ _ (by simp [go_sem]) (by intro hh; have hh' := Option.some.inj (hh : some _ = some _); simp at hh'))) (by have := HM.out; omega) (by have := hb3'.size; simp; omega) ?_; intro v4 w4 hown4 hb4; obtain ⟨A4, c4, rfl, hA4, hI4⟩ := hown4.layN (n := m + 1) (by have := HM.out; simp; omega); have hb4' : Below wr.heap.size wr w4 := (by first | exact hb3'.trans hb4 | exact (hb3'.alloc hb3'.size _).trans hb4); have y0 := below_cell hb4' g0; have y1 := below_cell hb4' g1; have y2 := below_cell hb4' g2; have y3 := below_cell hb4' g3; have y4 := below_cell hb4' g4; have y5 := below_cell hb4' g5; have HA4 := Lib.hid hA4; have HI4 := Lib.hid hI4; clear hown4 hA4 hI4 hb4)
              | (go_at_call 98; refine (HIH.out (f ++ [v]) (m + 1) (by have := HM.out; simp; omega) (by omega) HIN.out A4 c4 wr.heap.size w4 HA4.out (HH.out.below (hb0to HBB.out hb4')) HI4.out hb4'.size).mono ?_; rintro e w5 ⟨⟨A5, c5, rfl, hA5, hR5⟩, hb5⟩; have hb5' := hb0to hb4' hb5; have z0 := below_cell hb5' g0; have z1 := below_cell hb5' g1; have z2 := below_cell hb5' g2; have z3 := below_cell hb5' g3; have z4 := below_cell hb5' g4; have z5 := below_cell hb5' g5; have HA5 := Lib.hid hA5; have HR5 := Lib.hid hR5; clear hA5 hR5)
              | (refine step_appR 93 Try.underlying93 (by rfl) _ _ (by rfl) W1.heap.size B W1.heap.size _ (partsTo s.ps 12 f x k) (by rfl) (HOWN.out.below_ hb5' (Nat.le_refl _)) A5 c5 wr.heap.size _ HA5.out (by rfl) HR5.out (Nat.le_trans hB HBB.out.size) (rows_own HOWN.out) (by omega) (by omega) (by have h5z := hb5'.size; have hxz := HBZ.out.size; omega) (Nat.le_refl _) ?_; intro v6 w6 hown6 hb6; have H6 := Lib.hid hown6; have t0 := (hb6.cell (p := ⟨w.heap.size, 0, none⟩) hz1).trans z0; have t1 := (hb6.cell (p := ⟨w.heap.size, 1, none⟩) hz1).trans z1; have t2 := (hb6.cell (p := ⟨w.heap.size, 2, none⟩) hz1).trans z2; have t3 := (hb6.cell (p := ⟨w.heap.size, 3, none⟩) hz1).trans z3; have t4 := (hb6.cell (p := ⟨W0.heap.size, 0, none⟩) hz2).trans z4; have t5 := (hb6.cell (p := ⟨W0.heap.size, 1, none⟩) hz2).trans z5; clear hown6))
        all_goals
          have hz6 : Below W1.heap.size W1 w6 := (hb0to HBZ.out hb5').trans hb6
          have e6 : Hid (Value.int IntKind.i64 (v + 1) = Value.int IntKind.i64 (x.1 + ((k + 1 : Nat) : Int))) := Lib.hid (by rw [HV.out]; congr 1; omega)
          clear t0 t1 t2 t3 t4 t5 z0 z1 z2 z3 z4 z5 y0 y1 y2 y3 y4 y5 x0 x1 x2 x3 x4 x5 g0 g1 g2 g3 g4 g5 hb3' hb4' hb5' hb5 hb6
          go_wp2_with (fail)
          go_roundw
          case rel => exact ⟨k + 1, ⟨by have := HV.out; omega, by have := HV.out; omega⟩, e6.out, Lib.hid (by rw [HOS.out]; exact H6.out), Lib.hid hz6⟩
          case measure => simp [intOf]; omega
      · rw [partsTo_all HX'.out (by omega)] at hown
        obtain ⟨A2, c2, rfl, hA2, hR2⟩ := hown.out.lay (Nat.le_trans hB HBP.out.size)
        have HA2 := Lib.hid hA2
        have HR2 := Lib.hid hR2
        clear hA2 hR2 hown
        go_wp2_with (fail)
        go_ret
        exact ⟨⟨A2, c2, rfl, HA2.out, HR2.out⟩, hb0to HBP.out hb.out⟩
end Go.Proofs.Ytgjpllmmpclgaaa
