import Derived.Test.YtgemmmdcpbajoaaR2
import Derived.Test.YtgemmmdcpbajoaaT8
namespace Go.Proofs.Ytgemmmdcpbajoaa
open Go.RowKit
attribute [local go_sem] Oper.semAt_some

theorem wpIn_region_extR {P : Program} {l n id : Nat} {Q : Exit → Act → World → Prop} {a : Act} {w : World} {L : List Oper} (hQ : ¬ LetsOut Q) (hd : noDefer L = true) (hm : P.follows .mixedOrders = true) (hB : Region.lexB .any L.toArray = true)
    (h : wpQuiet P L.toArray (fun w' => ∃ x, w' = extB w x) (fun a' => ∀ w', (∃ x, w' = extB w x) → Q .normal a' w') L a) : (Code.region id L.toArray true).wpIn (Fence.wide.inRound l) n P Q a w :=
  wpIn_region_round (C := fun w' => ∃ x, w' = extB w x) hQ hd hm hB (extB_of (Below.refl _ w).drew) h

theorem extB_casks {w x : World} {cb : Nat} {l : List Cask} (h : CasksAt w cb l) : CasksAt (extB w x) cb l := ((extB_below w x).block cb (Array.getElem?_eq_some_iff.1 h).1).trans h
theorem extB_house {w x : World} {B : Nat} {L : HL} {h : House} (hh : HouseAt w B L h) (hB : B ≤ w.heap.size) : HouseAt (extB w x) (extB w x).heap.size L h :=
  hh.keep (Nat.le_trans hB (extB_below w x).size) fun b o hb => (extB_below w x).cell (p := ⟨b, o, none⟩) (by show b < w.heap.size; omega)
/-- The load of all casks, at a step of a region that draws its order. -/
theorem wpQuiet_load81 {ops : Array Oper} {rest : List Oper} {o : Oper} {a : Act} {w : World} {Q : Act → Prop} (hw : Region.wanted o (yielded ops a.tmps) = true) (x : Operand) (ho : o.op = .load 81 x) (cb : Nat)
    (hx : a.eval x = .pointer (some ⟨cb, 0, none⟩)) (l : List Cask) (hl : l.length = 5) (hC : CasksAt w cb l) (h : wpQuiet Try.prog ops (fun w' => ∃ x, w' = extB w x) Q rest (a.put o.dst (encCs l))) : wpQuiet Try.prog ops (fun w' => ∃ x, w' = extB w x) Q (o :: rest) a := by
  rw [wpQuiet, if_pos hw]
  refine ⟨encCs l, ?_, h⟩
  rintro w' ⟨y, rfl⟩
  unfold Oper.quietAt
  simp [execOp, ho, hx, load81 hl (extB_casks hC), Result.andThen, Oper.quietUpon]
/-- Pounds of all casks; those that can be laid down. -/
def poundsC (l : List Cask) : Int := sumC (·.p) l 5
def stockOK (h : House) (much : Int) (p : List Int) : Bool := fitsC h (packedC h p) && decide (sumC (saltC h.fl) (packedC h p) 5 ≤ much)
def stockF (h : House) (much : Int) (m : Int) (p : List Int) : Int := if stockOK h much p then (if m < poundsC (packedC h p) then poundsC (packedC h p) else m) else m
def stockL (h : House) (much : Int) (l : List (List Int)) : Int := l.foldl (stockF h much) 0
theorem stockL_snoc (h : House) (much : Int) (l : List (List Int)) (p : List Int) : stockL h much (l ++ [p]) = stockF h much (stockL h much l) p := by simp [stockL]
def stockRet (h : House) (much : Int) : Int × Int :=
  if validH h = false then (0, 80) else if inR much 0 999 = false then (0, 1) else (stockL h much (allS (-1) h.bs.length h.ps.length), 0)
theorem poundsC_bd {l : List Cask} (hl : l.length = 5) (hok : ∀ (j : Nat) (c : Cask), l[j]? = some c → c.ok) : ∀ k, k ≤ 5 → 0 ≤ sumC (·.p) l k ∧ sumC (·.p) l k ≤ 10000 * k :=
  fun k hk => sumC_bd (f := (·.p)) (l := l) (m := 10000) (fun j hj => by have := hok j _ (at_caskOf hj); exact ⟨this.p0, this.p1⟩) k (by omega)
theorem stockL_bd (h : House) (hv : HOK h) (much : Int) : ∀ l, 0 ≤ stockL h much l ∧ stockL h much l ≤ 50000 := fun l => by
  refine snoc_ind (P := fun l => 0 ≤ stockL h much l ∧ stockL h much l ≤ 50000) (by simp [stockL]) (fun l x ih => ?_) l
  rw [stockL_snoc]
  have := poundsC_bd (packedC_len h x) (packedC_ok hv x) 5 (Nat.le_refl _)
  unfold stockF poundsC
  split
  · split <;> omega
  · exact ih
/-- Stock's memory. -/
structure StSt (W : World) (s m0 : Nat) (L : HL) (h : House) (much most : Int) : Prop where
  b0 : HBox W s L h
  b1 : Boxed W (s + 1) 3 (.int .i64 much)
  b2 : Boxed W m0 3 (.int .i64 most)
section
variable {W W' : World} {s m0 : Nat} {L : HL} {h : House} {much most : Int}
theorem StSt.kp (H : StSt W s m0 L h much most) {S : Nat → Prop} {n : Nat} (hk : KpB S n W W') (hs : s + 1 < n) (hn : m0 < n) (hS : ∀ k, S k → k ≠ s ∧ k ≠ s + 1 ∧ k ≠ m0) : StSt W' s m0 L h much most :=
  ⟨H.b0.of (hk.block _ (by omega) (fun h => (hS _ h).1 rfl)), (hk.block _ (by omega) (fun h => (hS _ h).2.1 rfl)).trans H.b1, (hk.block _ (by omega) (fun h => (hS _ h).2.2 rfl)).trans H.b2⟩
theorem StSt.below (H : StSt W s m0 L h much most) (hb : Below W.heap.size W W') : StSt W' s m0 L h much most :=
  H.kp (kpB_of_below hb (S := fun _ => False)) H.b1.lt H.b2.lt (fun _ h => h.elim)
theorem StSt.setM (H : StSt W s m0 L h much most) (h1 : s + 1 < m0) (x : Int) : StSt (W.setCell ⟨m0, 0, none⟩ (.int .i64 x)) s m0 L h much x :=
  ⟨hbox_other H.b0 (by omega), boxed_other H.b1 (by omega), H.b2.set _⟩
end
theorem stock_close {w X wr : World} {m0 D : Nat} {L : HL} {h : House} {much most x y : Int} (hs : StSt wr w.heap.size m0 L h much most) (hbX : Below w.heap.size w X) (hb : Below X.heap.size X wr) (hX : D ≤ X.heap.size) (hm : w.heap.size + 1 < m0) (hx : x = y) :
    KpB (fun k => k = m0) D X (wr.setCell ⟨m0, 0, none⟩ (.int .i64 x)) ∧ Below w.heap.size w (wr.setCell ⟨m0, 0, none⟩ (.int .i64 x)) ∧ StSt (wr.setCell ⟨m0, 0, none⟩ (.int .i64 x)) w.heap.size m0 L h much y := by
  subst hx
  exact ⟨(kpB_of_below (hb.mono hX)).set _ _ (.inl rfl), (hbX.trans (hb.mono hbX.size)).setCell (by simp; omega) _, hs.setM hm x⟩
set_option maxRecDepth 100000 in
set_option maxHeartbeats 4000000 in
theorem stock_any (L : HL) (h : House) (hn : h.ks.length ≤ 1000 ∧ h.ps.length ≤ 1000 ∧ h.bs.length ≤ 1000) (much : Int) (w : World) (hH : HouseAt w w.heap.size L h) :
    Calls Try.prog 18 #[L.enc h, .int .i64 much] w fun e w' => e = .returned (.tuple #[.int .i64 (stockRet h much).1, .int .i64 (stockRet h much).2]) ∧ Below w.heap.size w w' := by
  have hbw := ((Below.refl _ _).alloc (Nat.le_refl w.heap.size) (.cells #[.slice L.Ak h.ks.length L.ck, .int .i64 h.fl, .slice L.Ap h.ps.length L.cp, .slice L.Ab h.bs.length L.cb] 26)).alloc (by simp) (.cells #[.int .i64 much] 3)
  have HC := Lib.hid (check_any L h hn _ (hH.below hbw))
  have HB := Lib.hid ((HBox.new w L h).of (Below.heap_alloc _ (.cells #[.int .i64 much] 3) _ (by simp)))
  have hD := Boxed.new (w.alloc (.cells #[.slice L.Ak h.ks.length L.ck, .int .i64 h.fl, .slice L.Ap h.ps.length L.cp, .slice L.Ab h.bs.length L.cb] 26)) 3 (.int .i64 much)
  simp only [World.size_alloc] at hD
  have HD := Lib.hid hD
  have HBW := Lib.hid hbw
  have HH := Lib.hid hH
  clear hbw hH hD
  cases hv : validH h
  · have hk : ckH h = 80 := ckH_no hv
    have HV := Lib.hid hv
    clear hv
    go_enter Try.func18, Try.ntmps18
    go_wp2_with (go_at_call 28; refine HC.out.mono ?_; rintro e w1 ⟨rfl, hb1⟩)
    go_ret2
    exact ⟨by rw [stockRet, if_pos HV.out]; rfl, hb0to HBW.out hb1⟩
  · have hk : ckH h = 0 := ckH_yes hv
    have HV := Lib.hid (HOK.ofValid hv)
    have HV' := Lib.hid hv
    clear hv
    cases hr : inR much 0 999
    · go_enter Try.func18, Try.ntmps18
      go_wp2_with (first
        | (go_at_call 28; refine HC.out.mono ?_; rintro e w1 ⟨rfl, hb1⟩; obtain ⟨g0, g1, g2, g3⟩ := (HB.out.of (hb1.block _ HB.out.lt)).cells; have g4 := below_cell hb1 HD.out.cell)
        | (go_at_call 65; refine (between_any _ _ _ _).mono ?_; rintro e w2 ⟨rfl, rfl⟩))
      go_ret2
      exact ⟨by rw [stockRet, if_neg (by rw [HV'.out]; decide), if_pos hr]; rfl, hb0to HBW.out hb1⟩
    · have HR := Lib.hid hr
      refine (callsIn_wide (n := 10)).1 ?_
      refine callsIn_of_wp_marks Try.func18 rfl trivial ?_ rfl
      simp only [Try.ntmps18, List.size_toArray, List.length_cons, List.length_nil, Nat.reduceAdd, Nat.reduceSub, Array.replicate_succ, Array.replicate_zero, List.push_toArray, List.append_toArray, List.nil_append, List.cons_append]
      gi_wp2_with (first
        | (refine ⟨trivial, ?_⟩; gi_at_call 28; refine (callsIn_wide.2 HC.out).mono ?_; rintro e w1 ⟨rfl, hb1⟩; obtain ⟨g0, g1, g2, g3⟩ := (HB.out.of (hb1.block _ HB.out.lt)).cells; have g4 := below_cell hb1 HD.out.cell; have hz0 := cell_lt g0; have hz1 := cell_lt g4; have hz2 : ¬ w.heap.size = w1.heap.size := (by have hz3 : w.heap.size < w1.heap.size := hz0; omega); have hz4 : ¬ w.heap.size + 1 = w1.heap.size := (by have hz3 : w.heap.size + 1 < w1.heap.size := hz1; omega))
        | (refine ⟨trivial, ?_⟩; gi_at_call 65; refine (callsIn_wide.2 (between_any _ _ _ _)).mono ?_; rintro e w2 ⟨rfl, rfl⟩))
      have hm0 := Boxed.new w1 3 (.int .i64 0)
      have hbW : Below w.heap.size w (w1.alloc (.cells #[.int .i64 0] 3)) := (hb0to HBW.out hb1).alloc (hb0to HBW.out hb1).size _
      have hst : StSt (w1.alloc (.cells #[.int .i64 0] 3)) w.heap.size w1.heap.size L h much 0 := ⟨(HB.out.of (hb1.block _ HB.out.lt)).of (Below.heap_alloc _ _ _ hz0), (show Boxed w1 _ _ _ from (hb1.block _ HD.out.lt).trans HD.out).alloc _, hm0⟩
      have hz1' : w.heap.size + 1 < w1.heap.size := hz1
      obtain ⟨W1, hW1⟩ : ∃ W1, w1.alloc (.cells #[.int .i64 0] 3) = W1 := ⟨_, rfl⟩
      have hzW : w1.heap.size + 1 ≤ W1.heap.size := by rw [← hW1]; simp
      have hzW' : W1.heap.size ≤ w1.heap.size + 1 := by rw [← hW1]; simp
      rw [hW1] at hbW hst ⊢
      clear hW1 hm0 g0 g1 g2 g3 g4 hz0 hz1 hz2 hz4
      have HST := Lib.hid hst
      have HBWW := Lib.hid hbW
      clear hst hbW
      refine wpIn_rangeFunc_sees (S := fun k => k = w1.heap.size) (Sees := SeesP h) (fb := #[stkV L h (-1)]) (lb := #[]) (xs := allS (-1) h.bs.length h.ps.length) (w0 := W1) rfl (by omega) rfl trivial (fun _ _ => rfl)
        (all_sees 9 (by omega) L h HV.out (-1) (by omega) w.heap.size W1 (by omega) ((HH.out.below HBWW.out).keep2 HBWW.out HH.out) _ (fun k hk => by omega)) (Below.refl _ _) (fun k hk => by omega)
        (fun B x args X hs => by obtain ⟨pb, -, rfl, -⟩ := hs; rfl) (fun B x args X Y _ hs hk => hs.kept hk)
        (fun D pre X => Below w.heap.size w X ∧ StSt X w.heap.size w1.heap.size L h much (stockL h much pre))
        (fun c D pre X => False)
        ?hI ?hIx ?h0 (fun x args a' X => ∃ b4, W1.heap.size + 2 ≤ b4 ∧ CasksAt X b4 (packedC h x) ∧ a' = { tmps := #[L.enc h, .int .i64 much, .pointer (some ⟨w.heap.size, 0, none⟩), .pointer (some ⟨w.heap.size + 1, 0, none⟩), .int .i64 0, .int .i64 0, .int .i64 0, .pointer (some ⟨w1.heap.size, 0, none⟩), undef, .pointer (some ⟨b4, 0, none⟩), undef, undef, undef, L.enc h, .int .i64 0, .int .i64 0, .bool false, undef, .int .i64 much, .bool true, .bool false, L.enc h, stkV L h (-1), .func (.func 66) #[stkV L h (-1)] #[], args.getD 0 undef, args.getD 1 undef,
          undef, undef, undef, undef, undef, undef, undef, undef, undef, undef, undef, undef, undef, undef, undef, undef, undef, undef, undef, undef, undef, undef, undef, undef], defers := [] }) ?hAx ?hassign ?hbody ?hdone ?hstop
      case hI =>
        rintro D s X Y hD hX ⟨hb, h1⟩ hk
        exact ⟨hb.trans (hk.belowOf (by have := hb.size; omega) (fun k hs => by have := hs.1; omega)), h1.kp hk (by omega) (by omega) (fun k hs => by have := hs.1; omega)⟩
      case hIx => exact fun _ _ _ _ _ _ _ h _ => h.elim
      case h0 =>
        intro D X hD hX hb
        exact ⟨HBWW.out.trans (hb.mono (by omega)), HST.out.below hb⟩
      case hAx =>
        rintro x args a' X Y hz ⟨b4, h1, h2, h3⟩ hk
        exact ⟨b4, h1, (hk.block _ (Array.getElem?_eq_some_iff.1 h2).1 (fun hs => by have hs' : b4 < W1.heap.size + 2 := hs; omega)).trans h2, h3⟩
      case hassign =>
        intro l' x args X K hz hs hK
        obtain ⟨pb, -, rfl, -⟩ := hs
        have hK' := hK _ (X.alloc (.cells (flatC (packedC h x)).toArray 81)) (.inr ⟨_, rfl⟩) ⟨X.heap.size, by omega, World.alloc_heap_new X _, rfl⟩
        clear hK
        simp only [List.zip_toArray, List.zip_cons_cons, List.zip_nil_right, List.foldl_toArray, List.foldl_cons, List.foldl_nil, List.setIfInBounds_toArray, List.set_cons_succ, List.set_cons_zero]
        have hl5 : (packedC h x).length = 5 := casksTo_len _ _ _
        gi_wp2_with (refine wplIn_store81 rfl (.tmp 9) (.tmp 25) rfl rfl (packedC h x) hl5 rfl ?_)
        exact hK'
      case hbody =>
        rintro l' D pre x args a' X hD hX hpre ⟨hbX, hs⟩ hsee ⟨b4, hb4, hC4, rfl⟩
        obtain ⟨pb, hpb, rfl, hpk⟩ := hsee
        have hl5 : (packedC h x).length = 5 := casksTo_len _ _ _
        have hok := packedC_ok HV.out x
        have HOK5 := Lib.hid hok
        have HSN := Lib.hid (stockL_snoc h much pre x)
        have hHX : HouseAt X w.heap.size L h := (HH.out.below hbX).keep2 hbX HH.out
        have HHX := Lib.hid hHX
        have hc1 := extB_cell hs.b1.cell
        obtain ⟨q0, q1, q2, q3⟩ := hs.b0.cells
        have hzX := hbX.size
        have hc2 := hs.b2.cell
        have hf2 := hs.b2.frozen
        clear hok hHX
        cases hf : fitsC h (packedC h x)
        · have hno : stockOK h much x = false := by simp [stockOK, hf]
          have HNO := Lib.hid hno
          clear hno
          have e0 := extB_cell q0
          have e1 := extB_cell q1
          have e2 := extB_cell q2
          have e3 := extB_cell q3
          gi_wp2
          refine wpIn_region_extR (by rintro ⟨_, _, hh⟩; exact hh) (by rfl) (by kernel_rfl) (by kernel_rfl) ?_
          refine wpQuiet_load81 rfl (.tmp 9) rfl b4 rfl (packedC h x) hl5 hC4 ?_
          simp only [Act.put, List.setIfInBounds_toArray, List.set_cons_succ, List.set_cons_zero]
          repeat (go_big_quiet_step ((go_at_call 67; exact ext_call (fits_any L h HV.out _ hl5 HOK5.out _ (extB_house HHX.out hzX)))))
          refine wpQuiet_nil ?_
          rintro _ ⟨x1, rfl⟩
          have hb1 := extB_below X x1
          clear e0 e1 e2 e3
          gi_wp2
          refine ⟨kpB_of_below (hb1.mono hX), hbX.trans (hb1.mono hzX), ?_⟩
          show StSt _ w.heap.size w1.heap.size L h much (stockL h much (pre ++ [x]))
          rw [HSN.out, stockF, if_neg (by rw [HNO.out]; decide)]
          exact hs.below hb1
        · have hpb := poundsC_bd hl5 HOK5.out
          have hsb := sumC_bd (f := saltC h.fl) (l := packedC h x) (m := 10000) (fun j hj => saltC_bd (HOK5.out j _ (at_caskOf hj)) ⟨HV.out.f0, HV.out.f1⟩) 5 (by omega)
          obtain ⟨hsb0, hsb1⟩ := hsb
          have e0 := extB_cell q0
          have e1 := extB_cell q1
          have e2 := extB_cell q2
          have e3 := extB_cell q3
          have HPB := Lib.hid hpb
          clear hpb
          by_cases hms : much < sumC (saltC h.fl) (packedC h x) 5
          · have hno : stockOK h much x = false := by simp [stockOK, hf]; omega
            have hd : decide (much < sumC (saltC h.fl) (packedC h x) 5) = true := by simpa using hms
            have HNO := Lib.hid hno
            clear hno
            gi_wp2
            refine wpIn_region_extR (by rintro ⟨_, _, hh⟩; exact hh) (by rfl) (by kernel_rfl) (by kernel_rfl) ?_
            repeat (first
              | (refine wpQuiet_load81 rfl (.tmp 9) rfl b4 rfl (packedC h x) hl5 hC4 ?_; simp only [Act.put, List.setIfInBounds_toArray, List.set_cons_succ, List.set_cons_zero])
              | (go_big_quiet_step (first
                  | (go_at_call 67; exact ext_call (fits_any L h HV.out _ hl5 HOK5.out _ (extB_house HHX.out hzX)))
                  | (go_at_call 68; exact ext_call (saltAll_any L h ⟨HV.out.f0, HV.out.f1⟩ _ hl5 HOK5.out _)))))
            refine wpQuiet_nil ?_
            rintro _ ⟨x1, rfl⟩
            have hb1 := extB_below X x1
            clear e0 e1 e2 e3
            gi_wp2
            refine ⟨kpB_of_below (hb1.mono hX), hbX.trans (hb1.mono hzX), ?_⟩
            show StSt _ w.heap.size w1.heap.size L h much (stockL h much (pre ++ [x]))
            rw [HSN.out, stockF, if_neg (by rw [HNO.out]; decide)]
            exact hs.below hb1
          · have hno : stockOK h much x = true := by simp [stockOK, hf]; omega
            have hd : decide (much < sumC (saltC h.fl) (packedC h x) 5) = false := by simpa using hms
            have HNO := Lib.hid hno
            clear hno
            gi_wp2
            refine wpIn_region_extR (by rintro ⟨_, _, hh⟩; exact hh) (by rfl) (by kernel_rfl) (by kernel_rfl) ?_
            repeat (first
              | (refine wpQuiet_load81 rfl (.tmp 9) rfl b4 rfl (packedC h x) hl5 hC4 ?_; simp only [Act.put, List.setIfInBounds_toArray, List.set_cons_succ, List.set_cons_zero])
              | (go_big_quiet_step (first
                  | (go_at_call 67; exact ext_call (fits_any L h HV.out _ hl5 HOK5.out _ (extB_house HHX.out hzX)))
                  | (go_at_call 68; exact ext_call (saltAll_any L h ⟨HV.out.f0, HV.out.f1⟩ _ hl5 HOK5.out _)))))
            refine wpQuiet_nil ?_
            rintro _ ⟨x1, rfl⟩
            have hb1 := extB_below X x1
            clear e0 e1 e2 e3
            have hs1 := hs.below hb1
            have hbX1 := hbX.trans (hb1.mono hzX)
            have hC5 := extB_casks (x := x1) hC4
            obtain ⟨X1, hX1⟩ : ∃ X1, extB X x1 = X1 := ⟨_, rfl⟩
            rw [hX1] at hs1 hbX1 hb1 hC5 ⊢
            have hix := fun (k : Nat) (hk : k < 5) => index81 hl5 hk
            have HIX := Lib.hid hix
            clear hX1 hix
            gi_wp2_with (refine wplIn_load81 rfl (.tmp 9) rfl b4 rfl (packedC h x) hl5 hC5 ?_)
            gi_loopw [10, 38] (fun v i wr => ∃ k : Nat, k ≤ 5 ∧ i = .int .i64 k ∧ v = .int .i64 (sumC (·.p) (packedC h x) k) ∧ Below X1.heap.size X1 wr) (fun _ i _ => 5 - (intOf i).toNat)
            case atStart => exact ⟨0, by omega, rfl, rfl, Below.refl _ _⟩
            case round =>
              obtain ⟨k, hk, rfl, rfl, hb⟩ := hrel
              have hsz := hb.size
              have hpk2 := HPB.out k hk
              by_cases hlt : k < 5
              · have hix := HIX.out k hlt
                have hkl : k < (packedC h x).length := by omega
                have hcok := HOK5.out k _ (at_caskOf hkl)
                have hp0 := hcok.p0
                have hp1 := hcok.p1
                gi_wp2
                go_roundw
                case rel => exact ⟨k + 1, by omega, by go_num, rfl, hb.alloc hsz _⟩
                case measure => simp [intOf]; omega
              · obtain rfl : k = 5 := by omega
                have hs2 := hs1.below hb
                have hc3 := hs2.b2.cell
                have hf3 := hs2.b2.frozen
                have hmx : stockL h much (pre ++ [x]) = if stockL h much pre < sumC (·.p) (packedC h x) 5 then sumC (·.p) (packedC h x) 5 else stockL h much pre := by rw [HSN.out, stockF, if_pos HNO.out]; rfl
                have HMX := Lib.hid hmx
                clear hmx
                gi_wp2
                all_goals
                  exact stock_close hs2 hbX (hb0to hb1 hb) hX (by omega) (by rw [HMX.out]; omega)
      case hdone =>
        rintro D X hD hX ⟨hbX, hs⟩ hk
        have hc2 := hs.b2.cell
        gi_wp2
        refine ⟨by simp, .inl ⟨_, _, rfl, run_takeDeferred hk, ?_⟩⟩
        refine ⟨.tuple #[.int .i64 (stockL h much (allS (-1) h.bs.length h.ps.length)), .int .i64 0], by simp [results, Try.results18, go_sem], ?_, ?_⟩
        · rw [stockRet, if_neg (by rw [HV'.out]; decide), if_neg (by rw [HR.out]; decide)]
        · exact hbX.trans (KpB.belowOf (S := fun k => k = W1.heap.size) ((KpB.refl _ _ _).put _ _ (.inl rfl)) hbX.size (fun k hk => by omega))
      case hstop => exact fun _ _ _ _ _ _ _ h => h.elim
end Go.Proofs.Ytgemmmdcpbajoaa
