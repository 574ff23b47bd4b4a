import Derived.Deep.RegionHeld3
import Derived.Deep.RegionHeldLaw
import Derived.Test.YtgemmmdcpbajoaaE2
import Derived.Test.YtgemmmdcpbajoaaU6
namespace Go.Proofs.Ytgemmmdcpbajoaa
open Go.RowKit

/-! All lists of the specification. -/
theorem allS_bound (lo : Int) (nb : Nat) (h : (nb : Int) - lo ≤ 5) : ∀ n, (allS lo nb n).length ≤ 5 ^ n
  | 0 => by simp [allS]
  | n + 1 => by
    rw [allS_size, Nat.pow_succ, Nat.mul_comm]
    exact Nat.mul_le_mul (allS_bound lo nb h n) (by omega)
theorem listsR_bound {h : House} (hv : HOK h) {lo : Int} (hlo : -1 ≤ lo) (n : Nat) (f : List Int) (hl : f.length + n ≤ h.ps.length) : (listsR h lo n f).length ≤ 15625 := by
  rw [listsR_eq hv lo n f hl]
  refine Nat.le_trans (List.length_filter_le _ _) ?_
  rw [List.length_map]
  refine Nat.le_trans (allS_bound lo _ (by have := hv.bl; omega) n) ?_
  have : n ≤ 6 := by have := hv.pl; omega
  exact Nat.le_trans (Nat.pow_le_pow_right (by decide) this) (by decide)
/-- What was found behind the first k numbers. -/
def outTo (h : House) (lo : Int) (n : Nat) (f : List Int) (k : Nat) : List (List Int) := ((numsFrom lo h.bs.length).take k).flatMap fun b => listsR h lo n (f ++ [b])
theorem outTo_succ {h : House} {lo : Int} {n : Nat} {f : List Int} {k : Nat} (hk : lo + (k : Int) < h.bs.length) : outTo h lo n f (k + 1) = outTo h lo n f k ++ listsR h lo n (f ++ [lo + (k : Int)]) := by
  have hx : (numsFrom lo h.bs.length)[k]? = some (lo + (k : Int)) := numsFrom_at.2 ⟨hk, rfl⟩
  unfold outTo
  rw [take_step hx, List.flatMap_append]
  simp
theorem outTo_all {h : House} {lo : Int} {n : Nat} {f : List Int} {k : Nat} (hk : (h.bs.length : Int) ≤ lo + (k : Int)) : outTo h lo n f k = (numsFrom lo h.bs.length).flatMap fun b => listsR h lo n (f ++ [b]) := by
  unfold outTo
  rw [List.take_of_length_le (by rw [numsFrom_len]; omega)]
theorem outTo_bound {h : House} (hv : HOK h) {lo : Int} (hlo : -1 ≤ lo) (n : Nat) (f : List Int) (hl : f.length + 1 + n ≤ h.ps.length) : ∀ k : Nat, k ≤ 5 → lo + (k : Int) ≤ h.bs.length → (outTo h lo n f k).length ≤ 15625 * k
  | 0, _, _ => by simp [outTo]
  | k + 1, hk, hk2 => by
    have := outTo_bound hv hlo n f hl k (by omega) (by omega)
    have := listsR_bound hv hlo n (f ++ [lo + (k : Int)]) (by simp; omega)
    rw [outTo_succ (by omega), List.length_append]
    omega
def RowsRet (rs : List (List Int)) (lo : Nat) (w' : World) (e : Ending) : Prop := ∃ A c, e = .returned (.slice A rs.length c) ∧ (A = none → c = 0 ∧ rs = []) ∧ RowsIn w' lo w'.heap.size A rs
theorem lists_below1 (w : World) (o : Obj) : Below w.heap.size w (w.alloc o).drew := ((Below.refl _ _).alloc (Nat.le_refl _) o).drew
theorem lists_below2 (w : World) (o p : Obj) : Below w.heap.size w ((w.alloc o).alloc p).drew := (((Below.refl _ _).alloc (Nat.le_refl _) o).alloc (by simp) p).drew
theorem Ints.drew {W : World} {base : Nat} {v : Value} {l : List Int} (h : Ints W base v l) : Ints W.drew base v l := ⟨h.1, h.2⟩
theorem lists_kept {X w3 : World} {ob : Option Nat} (hg : X.grownBy w3 ob) : ∀ B v, X.cell? ⟨B, 0, none⟩ = some v → some B ≠ ob → w3.cell? ⟨B, 0, none⟩ = some v := fun B _v hc hne => (World.cell?_of_block (hg.block B (cell_lt hc) hne)).trans hc
theorem lists_own {w : World} {lo base : Nat} {v : Value} {rs : List (List Int)} (h : OwnsR w lo base v rs) : ∀ k, v.ownBlock = some k → k < w.heap.size := fun k hk => by
  obtain ⟨vs, h, -⟩ := h
  exact (World.ownsRow.lt h k hk).2
theorem Ints.layN {W : World} {base : Nat} {v : Value} {l : List Int} (h : Ints W base v l) {n : Nat} (hn : l.length = n) : ∃ A c, v = .slice A n c ∧ (A = none → c = 0 ∧ l = []) ∧ IntsIn W base W.heap.size A l := by
  obtain ⟨A, c, h1, h2, _, h3⟩ := h.lay
  exact ⟨A, c, by rw [← hn]; exact h1, h2, h3⟩
theorem lists_box {w5 w6 : World} {s o : Nat} {v : Value} (hb : Below (s + 1) w5 w6) (h : w5.cell? ⟨s, o, none⟩ = some v) : w6.cell? ⟨s, o, none⟩ = some v := (hb.cell (p := ⟨s, o, none⟩) (Nat.lt_succ_self s)).trans h
theorem lists_made1 (w : World) : Ints (w.alloc (.cells #[] 3)).drew w.heap.size (.slice (some ⟨w.heap.size, 0, none⟩) 0 0) [] := (ints_made w w.heap.size (Nat.le_refl _)).drew
theorem lists_made2 (w : World) (o : Obj) : Ints ((w.alloc (.cells #[] 3)).alloc o).drew w.heap.size (.slice (some ⟨w.heap.size, 0, none⟩) 0 0) [] := ((ints_made w w.heap.size (Nat.le_refl _)).alloc o).drew
theorem lists_made3 (w : World) (o : Obj) : Ints ((w.alloc o).alloc (.cells #[] 3)).drew w.heap.size (.slice (some ⟨w.heap.size + 1, 0, none⟩) 0 0) [] := by
  have := (ints_made (w.alloc o) w.heap.size (by simp)).drew
  simpa using this
set_option maxRecDepth 100000 in
set_option maxHeartbeats 4000000 in
theorem lists_any (L : HL) (h : House) (hv : HOK h) (lo : Int) (hlo : -1 ≤ lo ∧ lo ≤ 0) : ∀ (n : Nat) (f : List Int) (m : Nat), f.length = m → m + n = h.ps.length → ∀ (A : Option Addr) (c B : Nat) (w : World), (A = none → c = 0 ∧ f = []) → HouseAt w w.heap.size L h → IntsIn w B w.heap.size A f → B ≤ w.heap.size →
    Calls Try.prog 70 #[L.enc h, .slice A m c, .int .i64 lo] w fun e w' => RowsRet (listsR h lo n f) B w' e ∧ Below w.heap.size w w' := by
  intro n
  induction n with
  | zero =>
    intro f m hm hmn A c B w hA hH hI hB
    have hpl := hv.pl
    have HH := Lib.hid hH
    have HI := Lib.hid hI
    have HA := Lib.hid hA
    have HM := Lib.hid hm
    have HV := Lib.hid hv
    have hbw := (Below.refl _ _).alloc (Nat.le_refl w.heap.size) (.cells #[.slice L.Ak h.ks.length L.ck, .int .i64 h.fl, .slice L.Ap h.ps.length L.cp, .slice L.Ab h.bs.length L.cb] 26)
    have HF := Lib.hid (by have := rfits_any L h hv f (by omega) A c _ (hH.below hbw) (ints_later hI.at_ hbw); rwa [hm] at this)
    have HBW := Lib.hid hbw
    have HX := Lib.hid (HBox.new w L h)
    have hd : ((m : Int) == (h.ps.length : Int)) = true := by simp; omega
    clear hH hI hA hm hv hbw
    cases hf : fitsR h f
    · have HFF := Lib.hid hf
      rw [hf] at HF
      clear hf
      go_enter Try.func70, Try.ntmps70
      go_wp2_with (go_at_call 91; refine HF.out.mono ?_; rintro e w2 ⟨rfl, hb2⟩)
      go_ret
      refine ⟨⟨none, 0, ?_, fun _ => ⟨rfl, ?_⟩, .inl ?_⟩, hb0to HBW.out hb2⟩
      · rw [listsR, if_neg (by rw [HFF.out]; decide)]; rfl
      · rw [listsR, if_neg (by rw [HFF.out]; decide)]
      · rw [listsR, if_neg (by rw [HFF.out]; decide)]
    · have HFF := Lib.hid hf
      rw [hf] at HF
      clear hf
      go_enter Try.func70, Try.ntmps70
      go_wp2_with (go_at_call 91; refine HF.out.mono ?_; rintro e w2 ⟨rfl, hb2⟩; obtain ⟨g0, g1, g2, g3⟩ := (HX.out.of (hb2.block _ HX.out.lt)).cells)
      go_ret
      have hb3 := hb0to HBW.out hb2
      have hb4 : Below w.heap.size w (w2.alloc (.cells #[.slice A m c] 24)) := hb3.alloc hb3.size _
      refine ⟨?_, hb4⟩
      rw [listsR, if_pos HFF.out]
      refine ⟨some ⟨w2.heap.size, 0, none⟩, 1, rfl, (fun e => by cases e), .inr ⟨w2.heap.size, 0, rfl, Nat.le_trans hB hb3.size, by simp, fun i r hr => ?_⟩⟩
      match i, hr with
      | 0, hr =>
        simp only [List.getElem?_cons_zero, Option.some.injEq] at hr
        subst hr
        exact ⟨A, c, by rw [HM.out]; simp [go_sem], HA.out, HI.out.keep (Nat.le_refl _) hb4.size fun b o _ hlt => hb4.cell (p := ⟨b, o, none⟩) hlt⟩
  | succ n ih =>
    intro f m hm hmn A c B w hA hH hI hB
    have hpl := hv.pl
    have hbl := hv.bl
    have HH := Lib.hid hH
    have HI := Lib.hid hI
    have HA := Lib.hid hA
    have HM := Lib.hid hm
    have HV := Lib.hid hv
    have HIH := Lib.hid ih
    have hbw := (Below.refl _ _).alloc (Nat.le_refl w.heap.size) (.cells #[.slice L.Ak h.ks.length L.ck, .int .i64 h.fl, .slice L.Ap h.ps.length L.cp, .slice L.Ab h.bs.length L.cb] 26)
    have HF := Lib.hid (by have := rfits_any L h hv f (by omega) A c _ (hH.below hbw) (ints_later hI.at_ hbw); rwa [hm] at this)
    have HBW := Lib.hid hbw
    have HX := Lib.hid (HBox.new w L h)
    have hd : ((m : Int) == (h.ps.length : Int)) = false := by simp; omega
    clear hH hI hA hm hv hbw ih
    cases hf : fitsR h f
    · have HFF := Lib.hid hf
      rw [hf] at HF
      clear hf
      go_enter Try.func70, Try.ntmps70
      go_wp2_with (go_at_call 91; refine HF.out.mono ?_; rintro e w2 ⟨rfl, hb2⟩)
      go_ret
      refine ⟨⟨none, 0, ?_, fun _ => ⟨rfl, ?_⟩, .inl ?_⟩, hb0to HBW.out hb2⟩
      · rw [listsR, if_neg (by rw [HFF.out]; decide)]; rfl
      · rw [listsR, if_neg (by rw [HFF.out]; decide)]
      · rw [listsR, if_neg (by rw [HFF.out]; decide)]
    · have HFF := Lib.hid hf
      rw [hf] at HF
      clear hf
      go_enter Try.func70, Try.ntmps70
      go_wp2_with (go_at_call 91; refine HF.out.mono ?_; rintro e w2 ⟨rfl, hb2⟩; obtain ⟨g0, g1, g2, g3⟩ := (HX.out.of (hb2.block _ HX.out.lt)).cells)
      have hbq := hb0to HBW.out hb2
      have hBq : HBox w2 w.heap.size L h := HX.out.of (hb2.block _ HX.out.lt)
      clear g0 g1 g2 g3
      go_loopw [7, 8] (fun v i wr => ∃ k : Nat, (k = 0 ∨ lo + (k : Int) ≤ h.bs.length) ∧ i = .int .i64 (lo + (k : Int)) ∧ OwnsR wr B (w.heap.size + 1) v (outTo h lo n f k) ∧ Below w.heap.size w wr ∧ HBox wr w.heap.size L h) (fun _ i _ => (h.bs.length - intOf i).toNat)
      case atStart => exact ⟨0, .inl rfl, by simp, ownsR_nil _ _ _, hbq, hBq⟩
      case round =>
        clear hbq hBq
        obtain ⟨k, hk, rfl, hown, hb, hB'⟩ := hrel
        have hsz := hb.size
        obtain ⟨g0, g1, g2, g3⟩ := hB'.cells
        have hk5 : (k : Int) ≤ 5 := by omega
        by_cases hlt : lo + (k : Int) < h.bs.length
        · obtain ⟨x, hx⟩ : ∃ x : Int, x = lo + (k : Int) := ⟨_, rfl⟩
          rw [← hx] at hlt ⊢
          have hob : (outTo h lo n f k).length ≤ 15625 * k := outTo_bound HV.out hlo.1 n f (by have := HM.out; omega) k (by omega) (by omega)
          have hlb := listsR_bound HV.out hlo.1 n (f ++ [x]) (by have := HM.out; simp; omega)
          have HOS := Lib.hid (outTo_succ (h := h) (lo := lo) (n := n) (f := f) (k := k) (by omega))
          rw [← hx] at HOS
          have HX' := Lib.hid hx
          have HOWN := Lib.hid hown
          have HBB := Lib.hid hB'
          have HFI := Lib.hid (fun W (hW : Below wr.heap.size wr W) => (ints_later HI.out.at_ (hb0to hb hW)))
          have hx0 : -1 ≤ x := by omega
          have hx4 : x ≤ 4 := by omega
          clear hx hown hB'
          go_wp2
          go_region_held3 (fun w' => w'.cell? ⟨w.heap.size, 0, none⟩ = some (.slice L.Ak h.ks.length L.ck) ∧ w'.cell? ⟨w.heap.size, 1, none⟩ = some (.int .i64 h.fl) ∧ w'.cell? ⟨w.heap.size, 2, none⟩ = some (.slice L.Ap h.ps.length L.cp) ∧ w'.cell? ⟨w.heap.size, 3, none⟩ = some (.slice L.Ab h.bs.length L.cb)) (first | go_keep)
            (first
              | (refine step_copyG (by rfl) _ _ (by rfl) wr.heap.size _ [] (by rfl) (by first | exact lists_made1 _ | exact lists_made2 _ _ | exact lists_made3 _ _) A c f m HM.out HA.out (by rfl) (HFI.out _ (by first | exact lists_below1 _ _ | exact lists_below2 _ _ _)) (by simp) (by omega) (by first | (simp; done) | (simp; omega)) ?_; intro v3 w3 hown3 hb3 hg3; have hb3' : Below wr.heap.size wr w3 := (by first | exact (lists_below1 _ _).trans hb3 | exact (lists_below2 _ _ _).trans hb3); have hc3 := lists_kept hg3; have x0 := below_cell hb3' g0; have x1 := below_cell hb3' g1; have x2 := below_cell hb3' g2; have x3 := below_cell hb3' g3; have H3 := Lib.hid hown3; have HG3 := Lib.hid hc3; clear hown3 hg3 hc3 hb3)
              | (refine step_appG (by rfl) _ _ (by rfl) wr.heap.size _ f (by rfl) (by first | exact H3.out | exact H3.out.alloc _) _ 1 x (by rfl) (by first | (simp [go_sem]; done) | (exact HG3.out _ _ (by simp [go_sem]) (by intro hh; have hh' := Option.some.inj (hh : some _ = some _); simp at hh'))) (by have := HM.out; omega) (by have := hb3'.size; simp; omega) ?_; intro v4 w4 hown4 hb4; obtain ⟨A4, c4, rfl, hA4, hI4⟩ := hown4.layN (n := m + 1) (by have := HM.out; simp; omega); have hb4' : Below wr.heap.size wr w4 := (by first | exact hb3'.trans hb4 | exact (hb3'.alloc hb3'.size _).trans hb4); have y0 := below_cell hb4' g0; have y1 := below_cell hb4' g1; have y2 := below_cell hb4' g2; have y3 := below_cell hb4' g3; have HA4 := Lib.hid hA4; have HI4 := Lib.hid hI4; clear hown4 hA4 hI4 hb4)
              | (go_at_call 70; refine (HIH.out (f ++ [x]) (m + 1) (by have := HM.out; simp; omega) (by omega) A4 c4 wr.heap.size w4 HA4.out (HH.out.below (hb0to hb hb4')) HI4.out hb4'.size).mono ?_; rintro e w5 ⟨⟨A5, c5, rfl, hA5, hR5⟩, hb5⟩; have hb5' := hb0to hb4' hb5; have z0 := below_cell hb5' g0; have z1 := below_cell hb5' g1; have z2 := below_cell hb5' g2; have z3 := below_cell hb5' g3; have HA5 := Lib.hid hA5; have HR5 := Lib.hid hR5; clear hA5 hR5)
              | (refine step_appR 83 Try.underlying83 (by rfl) _ _ (by rfl) (w.heap.size + 1) B (w.heap.size + 1) _ (outTo h lo n f k) (by rfl) (HOWN.out.below_ hb5' (Nat.le_refl _)) A5 c5 wr.heap.size _ HA5.out (by rfl) HR5.out (Nat.le_trans hB hsz) (lists_own HOWN.out) (by omega) (by omega) (by have h5z := hb5'.size; have hxz : w.heap.size < wr.heap.size := HBB.out.lt; omega) (Nat.le_refl _) ?_; intro v6 w6 hown6 hb6; have H6 := Lib.hid hown6; have t0 := lists_box hb6 z0; have t1 := lists_box hb6 z1; have t2 := lists_box hb6 z2; have t3 := lists_box hb6 z3; clear hown6))
          all_goals
            have hb6' : Below w.heap.size w w6 := (hb0to hb hb5').trans (hb6.mono (Nat.le_succ _))
            have hB6 : HBox w6 w.heap.size L h := HBB.out.of ((hb6.block _ (Nat.lt_succ_self _)).trans (hb5'.block _ HBB.out.lt))
            have e6 : Hid (Value.int IntKind.i64 (x + 1) = Value.int IntKind.i64 (lo + ((k + 1 : Nat) : Int))) := Lib.hid (by rw [HX'.out]; congr 1; omega)
            clear t0 t1 t2 t3 z0 z1 z2 z3 y0 y1 y2 y3 x0 x1 x2 x3 g0 g1 g2 g3 hb3' hb4' hb5' hb5 hb6 hb
            go_wp2
            go_roundw
            case rel => exact ⟨k + 1, .inr (by have := HX'.out; omega), e6.out, by rw [HOS.out]; exact H6.out, hb6', hB6⟩
            case measure => simp [intOf]; omega
        · have HO := Lib.hid (outTo_all (h := h) (lo := lo) (n := n) (f := f) (k := k) (by omega))
          rw [HO.out] at hown
          have hlr : Hid (listsR h lo (n + 1) f = (numsFrom lo h.bs.length).flatMap fun b => listsR h lo n (f ++ [b])) := Lib.hid (by rw [listsR, if_pos HFF.out])
          rw [← hlr.out] at hown
          obtain ⟨A2, c2, rfl, hA2, hR2⟩ := hown.lay (by omega)
          go_wp2
          go_ret
          exact ⟨⟨A2, c2, rfl, hA2, hR2⟩, hb⟩
end Go.Proofs.Ytgemmmdcpbajoaa
