import Derived.Test.YtmbcpmnigggbaaaLiB5
import Derived.Test.YtmbcpmnigggbaaaLiR3
namespace Go.Proofs.Ytmbcpmnigggbaaa.Li
open Go.RowKit

/-- A box with a sea at work: the sea, and the parts of four places. -/
def WBox (W : World) (b : Nat) (L : SL) (s : Sea) (q : Nat → Int × Int) : Prop :=
  W.heap[b]? = some (.cells #[.int .i64 s.wl, .int .i64 s.wh, .slice L.Ap s.ps.length L.cp, .slice L.Ab s.bs.length L.cb, .int .i64 (q 0).1, .int .i64 (q 0).2, .int .i64 (q 1).1, .int .i64 (q 1).2, .int .i64 (q 2).1, .int .i64 (q 2).2, .int .i64 (q 3).1, .int .i64 (q 3).2] 181 (0, 0))
theorem WBox.lt {W : World} {b : Nat} {L : SL} {s : Sea} {q : Nat → Int × Int} (h : WBox W b L s q) : b < W.heap.size := heap_lt h
theorem WBox.of {W W' : World} {b : Nat} {L : SL} {s : Sea} {q : Nat → Int × Int} (h : WBox W b L s q) (e : W'.heap[b]? = W.heap[b]?) : WBox W' b L s q := e.trans h
theorem WBox.cells {W : World} {b : Nat} {L : SL} {s : Sea} {q : Nat → Int × Int} (h : WBox W b L s q) : W.cell? ⟨b, 0, none⟩ = some (.int .i64 s.wl) ∧ W.cell? ⟨b, 1, none⟩ = some (.int .i64 s.wh) ∧ W.cell? ⟨b, 2, none⟩ = some (.slice L.Ap s.ps.length L.cp) ∧ W.cell? ⟨b, 3, none⟩ = some (.slice L.Ab s.bs.length L.cb) := by
  simp [World.cell?, show W.heap[b]? = _ from h]
theorem WBox.part {W : World} {b : Nat} {L : SL} {s : Sea} {q : Nat → Int × Int} (h : WBox W b L s q) {k : Nat} (hk : k < 4) : W.cell? ⟨b, 4 + k * 2, none⟩ = some (.int .i64 (q k).1) ∧ W.cell? ⟨b, 4 + k * 2 + 1, none⟩ = some (.int .i64 (q k).2) := by
  have : k = 0 ∨ k = 1 ∨ k = 2 ∨ k = 3 := by omega
  rcases this with rfl | rfl | rfl | rfl <;> simp [World.cell?, show W.heap[b]? = _ from h]
theorem WBox.frozen {W : World} {b : Nat} {L : SL} {s : Sea} {q : Nat → Int × Int} (h : WBox W b L s q) : ∀ o, W.frozen? ⟨b, o, none⟩ = false := fun o => by simp [World.frozen?, show W.heap[b]? = _ from h]
def putQ (q : Nat → Int × Int) (k : Nat) (x : Int × Int) : Nat → Int × Int := fun j => if j = k then x else q j
theorem WBox.set {W : World} {b : Nat} {L : SL} {s : Sea} {q : Nat → Int × Int} (h : WBox W b L s q) {k : Nat} (hk : k < 4) (x : Int × Int) : WBox ((W.setCell ⟨b, 4 + k * 2, none⟩ (.int .i64 x.1)).setCell ⟨b, 4 + k * 2 + 1, none⟩ (.int .i64 x.2)) b L s (putQ q k x) := by
  have h2 := heap_set (.int .i64 x.2) (o := 4 + k * 2 + 1) (heap_set (.int .i64 x.1) (o := 4 + k * 2) h)
  have : k = 0 ∨ k = 1 ∨ k = 2 ∨ k = 3 := by omega
  unfold WBox putQ
  rw [h2]
  rcases this with rfl | rfl | rfl | rfl <;> simp
/-- The shares of the first k places. -/
def sharesTo (s : Sea) (k : Nat) : Nat → Int × Int := fun j => if j < k then (match s.ps[j]? with | some x => shareL s.ps 12 x | none => (0, 0)) else (0, 0)
theorem sharesTo_next {s : Sea} {k : Nat} {x : Int × Int} (hx : s.ps[k]? = some x) : sharesTo s (k + 1) = putQ (sharesTo s k) k (shareL s.ps 12 x) := by
  funext j
  unfold sharesTo putQ
  by_cases h : j = k
  · subst h; simp [hx]
  · by_cases h2 : j < k
    · simp [h, h2, show j < k + 1 by omega]
    · simp [h, h2, show ¬ j < k + 1 by omega]
theorem sharesTo_zero (s : Sea) : sharesTo s 0 = fun _ => (0, 0) := by funext j; simp [sharesTo]
/-- The shares of all places. -/
def shares (s : Sea) : Nat → Int × Int := sharesTo s s.ps.length
/-- What open returns. -/
def OpenRet (L : SL) (s : Sea) (is : Bool) (B : Nat) (w' : World) (e : Ending) : Prop :=
  (askS s is ≠ 0 ∧ e = .returned (.tuple #[.pointer none, .int .i64 (askS s is)])) ∨
  (askS s is = 0 ∧ ∃ b, e = .returned (.tuple #[.pointer (some ⟨b, 0, none⟩), .int .i64 0]) ∧ B ≤ b ∧ WBox w' b L s (shares s))
set_option maxRecDepth 100000 in
set_option maxHeartbeats 4000000 in
theorem open_any (L : SL) (s : Sea) (is : Bool) (w : World) (hH : SeaAt w w.heap.size L s) : Calls Try.prog 73 #[L.enc s, .bool is] w fun e w' => OpenRet L s is w.heap.size w' e ∧ Below w.heap.size w w' := by
  have hbw := (Below.refl w.heap.size w).alloc (Nat.le_refl _) (.cells #[.int .i64 s.wl, .int .i64 s.wh, .slice L.Ap s.ps.length L.cp, .slice L.Ab s.bs.length L.cb] 44)
  have HB := Lib.hid (SBox.new w L s)
  have hc0 := (SBox.new w L s).cells
  have HC := Lib.hid (check_any L s _ (hH.below hbw))
  obtain ⟨W0, hW0⟩ : ∃ W0, w.alloc (.cells #[.int .i64 s.wl, .int .i64 s.wh, .slice L.Ap s.ps.length L.cp, .slice L.Ab s.bs.length L.cb] 44) = W0 := ⟨_, rfl⟩
  rw [hW0] at hbw HB hc0 HC
  have HBW := Lib.hid hbw
  have HW0 := Lib.hid hW0
  have HH := Lib.hid hH
  rw [ckS_eq] at HC
  clear hbw hW0 hH
  cases hv : validS s
  · rw [hv] at HC
    have HQ := Lib.hid (show askS s is = 50 by unfold askS; rw [if_pos hv])
    clear hv
    obtain ⟨Ap, cp, Ab, cb⟩ := L
    go_enter Try.func73, Try.ntmps73
    go_upto_region 1 with (fail)
    have e := HW0.out
    rw [e]
    clear e
    go_wp2_with (go_at_call 130; refine HC.out.mono ?_; rintro e w1 ⟨rfl, hb1⟩; have HB1 := Lib.hid hb1; clear hb1)
    go_ret2
    exact ⟨.inl ⟨by rw [HQ.out]; decide, by rw [HQ.out]; rfl⟩, hb0to HBW.out HB1.out⟩
  · rw [hv] at HC
    cases is
    · have HQ := Lib.hid (show askS s false = 1 by unfold askS; rw [if_neg (by simp [hv]), if_pos rfl])
      clear hv
      obtain ⟨Ap, cp, Ab, cb⟩ := L
      go_enter Try.func73, Try.ntmps73
      go_upto_region 1 with (fail)
      have e := HW0.out
      rw [e]
      clear e
      go_wp2_with (go_at_call 130; refine HC.out.mono ?_; rintro e w1 ⟨rfl, hb1⟩; have HB1 := Lib.hid hb1; clear hb1)
      go_ret2
      exact ⟨.inl ⟨by rw [HQ.out]; decide, by rw [HQ.out]; rfl⟩, hb0to HBW.out HB1.out⟩
    · have HQ := Lib.hid (show askS s true = 0 by unfold askS; rw [if_neg (by simp [hv]), if_neg (by simp)])
      have hS := SOK.ofValid hv
      have HS := Lib.hid hS
      have hpl := hS.pl
      clear hv hS
      obtain ⟨Ap, cp, Ab, cb⟩ := L
      go_enter Try.func73, Try.ntmps73
      go_upto_region 1 with (fail)
      have e := HW0.out
      rw [e]
      clear e
      go_wp2_with (go_at_call 130; refine HC.out.mono ?_; rintro e w1 ⟨rfl, hb1⟩; have HB1 := Lib.hid hb1; have hc1 := (HB.out.of (hb1.block _ HB.out.lt)).cells; have ne1 : ¬ w.heap.size = w1.heap.size := (by have := HB.out.lt; have := hb1.size; omega); have ne2 : ¬ w1.heap.size = w.heap.size := (by have := HB.out.lt; have := hb1.size; omega); have hsb : w.heap.size < w1.heap.size := (by have := HB.out.lt; have := hb1.size; omega); clear hb1)
      go_loopw [8, 9, 27] (fun s8 s9 i wr => ∃ (k : Nat) (x y : Int), k ≤ s.ps.length ∧ i = .int .i64 k ∧ s8 = .int .i64 x ∧ s9 = .int .i64 y ∧ Hid (x = sumL (s.ps.take k)) ∧ Hid (y = sumH (s.ps.take k)) ∧ (0 ≤ x ∧ x ≤ 12 * k ∧ 0 ≤ y ∧ y ≤ 12 * k) ∧ Hid (WBox wr w1.heap.size ⟨Ap, cp, Ab, cb⟩ s fun _ => (0, 0)) ∧ Hid (SBox wr w.heap.size ⟨Ap, cp, Ab, cb⟩ s) ∧ Hid (Below w1.heap.size w1 wr)) (fun _ _ i _ => s.ps.length - (intOf i).toNat)
      case atStart =>
        refine ⟨0, 0, 0, Nat.zero_le _, rfl, rfl, rfl, Lib.hid rfl, Lib.hid rfl, by simp, Lib.hid ?_, Lib.hid ?_, Lib.hid (al_below _ _)⟩
        · exact World.alloc_heap_new _ _
        · exact (HB.out.of (HB1.out.block _ HB.out.lt)).of (Below.heap_alloc _ _ _ hsb)
      case round =>
        obtain ⟨k, x, y, hk, rfl, rfl, rfl, hX, hY, ⟨x0, x1, y0, y1⟩, hW, hSB, hb⟩ := hrel
        have hbW := hb0to HBW.out (hb0to HB1.out hb.out)
        by_cases hlt : k < s.ps.length
        · obtain ⟨p, hp⟩ : ∃ p, s.ps[k]? = some p := ⟨_, List.getElem?_eq_getElem hlt⟩
          have hpb := HS.out.p p (List.mem_of_getElem? hp)
          obtain ⟨bp, op, eP, blt, d1, d2⟩ := HH.out.p.at_ hp
          have d1' := hbW.cell (p := ⟨bp, op + k * 2, none⟩) blt |>.trans d1
          have d2' := hbW.cell (p := ⟨bp, op + k * 2 + 1, none⟩) blt |>.trans d2
          have HX1 := Lib.hid (sumL_next hp)
          have HY1 := Lib.hid (sumH_next hp)
          simp only at eP
          clear hp d1 d2 hbW
          obtain ⟨p1, p2⟩ := p
          simp only at d1' d2' HX1 HY1 hpb
          subst eP
          have hwx : IntKind.i64.wrap (x + p1) = x + p1 := IntWalk.i64_in _ (by omega)
          have hwy : IntKind.i64.wrap (y + p2) = y + p2 := IntWalk.i64_in _ (by omega)
          as_aux_lemma =>
          go_upto_region 11 with (fail)
          go_quiet (fail)
          go_wp2_with (fail)
          go_roundw
          case rel => exact ⟨k + 1, x + p1, y + p2, by omega, by go_num, rfl, rfl, Lib.hid (by rw [HX1.out, ← hX.out]), Lib.hid (by rw [HY1.out, ← hY.out]), by omega, Lib.hid (hW.out.of (Below.heap_alloc _ _ _ hW.out.lt)), Lib.hid (hSB.out.of (Below.heap_alloc _ _ _ hSB.out.lt)), Lib.hid (below_drewN (hb0to hb.out (al_below _ _)) _)⟩
          case measure => simp [intOf]; omega
        · obtain rfl : k = s.ps.length := by omega
          obtain rfl : x = sumL s.ps := by have := hX.out; rwa [List.take_length] at this
          obtain rfl : y = sumH s.ps := by have := hY.out; rwa [List.take_length] at this
          obtain ⟨c0, c1, c2, c3⟩ := hSB.out.cells
          clear hX hY hbW
          as_aux_lemma =>
          go_wp2_with (fail)
          clear c0 c1 c2 c3
          go_loopw [43] (fun i wx => ∃ k : Nat, k ≤ s.ps.length ∧ i = .int .i64 k ∧ Hid (WBox wx w1.heap.size ⟨Ap, cp, Ab, cb⟩ s (sharesTo s k)) ∧ Hid (Below w1.heap.size w1 wx)) (fun i _ => s.ps.length - (intOf i).toNat)
          case atStart => exact ⟨0, Nat.zero_le _, rfl, Lib.hid (by rw [sharesTo_zero]; exact hW.out), hb⟩
          case round =>
            clear hW hSB hb
            obtain ⟨k, hk, rfl, hW, hb⟩ := hrel
            have hbW := hb0to HBW.out (hb0to HB1.out hb.out)
            by_cases hlt : k < s.ps.length
            · obtain ⟨p, hp⟩ : ∃ p, s.ps[k]? = some p := ⟨_, List.getElem?_eq_getElem hlt⟩
              have hpb := HS.out.p p (List.mem_of_getElem? hp)
              obtain ⟨bp, op, eP, blt, d1, d2⟩ := HH.out.p.at_ hp
              have d1' := hbW.cell (p := ⟨bp, op + k * 2, none⟩) blt |>.trans d1
              have d2' := hbW.cell (p := ⟨bp, op + k * 2 + 1, none⟩) blt |>.trans d2
              have HN := Lib.hid (sharesTo_next hp)
              simp only at eP
              clear hp d1 d2 hbW
              obtain ⟨p1, p2⟩ := p
              simp only at d1' d2' hpb
              subst eP
              have hw1 : IntKind.i64.wrap (sumH s.ps - p2) = sumH s.ps - p2 := IntWalk.i64_in _ (by omega)
              have hw2 : IntKind.i64.wrap (12 - (sumH s.ps - p2)) = 12 - (sumH s.ps - p2) := IntWalk.i64_in _ (by omega)
              have hw3 : IntKind.i64.wrap (sumL s.ps - p1) = sumL s.ps - p1 := IntWalk.i64_in _ (by omega)
              have hw4 : IntKind.i64.wrap (12 - (sumL s.ps - p1)) = 12 - (sumL s.ps - p1) := IntWalk.i64_in _ (by omega)
              have hk4 : (k : Int) < 4 := by omega
              have hk4' : k < 4 := by omega
              have hk0 : (0 : Int) ≤ k := by omega
              have nb1 : ¬ wr.heap.size = w1.heap.size := by have := hW.out.lt; omega
              have nb2 : ¬ w1.heap.size = wr.heap.size := by have := hW.out.lt; omega
              as_aux_lemma =>
              go_upto_region 16 with (fail)
              have hWX := hW.out.of (Below.heap_alloc _ (.cells #[.int .i64 p1, .int .i64 p2] 35) _ hW.out.lt)
              have hbX := hb0to hb.out (al_below wr (.cells #[.int .i64 p1, .int .i64 p2] 35))
              have cX : (wr.alloc (.cells #[.int .i64 p1, .int .i64 p2] 35)).cell? ⟨wr.heap.size, 0, none⟩ = some (.int .i64 p1) ∧ (wr.alloc (.cells #[.int .i64 p1, .int .i64 p2] 35)).cell? ⟨wr.heap.size, 1, none⟩ = some (.int .i64 p2) := by simp [go_sem]
              obtain ⟨X, hX⟩ : ∃ X, X = wr.alloc (.cells #[.int .i64 p1, .int .i64 p2] 35) := ⟨_, rfl⟩
              rw [← hX] at hWX hbX cX ⊢
              have HWX := Lib.hid hWX
              have HBX := Lib.hid hbX
              obtain ⟨cX0, cX1⟩ := cX
              obtain ⟨q0, q1⟩ := hWX.part (k := k) (by omega)
              have qf := hWX.frozen
              clear hX hWX hbX
              go_region_held3 (fun w' => w'.cell? ⟨wr.heap.size, 0, none⟩ = some (.int .i64 p1) ∧ w'.cell? ⟨wr.heap.size, 1, none⟩ = some (.int .i64 p2)) (first | go_keep) (fail)
              all_goals
                go_wp2_with (fail)
                go_roundw
                case rel =>
                  have e1 : (if p1 < 12 - (sumH s.ps - p2) then 12 - (sumH s.ps - p2) else p1) = (shareL s.ps 12 (p1, p2)).1 := by
                    unfold shareL; simp only; split <;> omega
                  have e2 : (if 12 - (sumL s.ps - p1) < p2 then 12 - (sumL s.ps - p1) else p2) = (shareL s.ps 12 (p1, p2)).2 := by
                    unfold shareL; simp only; split <;> omega
                  rw [e1, e2]
                  exact ⟨k + 1, by omega, by go_num, Lib.hid (by rw [HN.out]; exact HWX.out.set hk4' (shareL s.ps 12 (p1, p2))), Lib.hid (((HBX.out.setCell (p := ⟨w1.heap.size, 4 + k * 2, none⟩) (Nat.le_refl _) _).setCell (p := ⟨w1.heap.size, 4 + k * 2 + 1, none⟩) (Nat.le_refl _) _).drew)⟩
                case measure => simp [intOf]; omega
            · obtain rfl : k = s.ps.length := by omega
              go_wp2_with (fail)
              go_ret2
              exact ⟨.inr ⟨HQ.out, w1.heap.size, rfl, by omega, hW.out⟩, hbW⟩
open Go.RowKit

/-! Lifts: need 73, lift 85. -/
theorem shares_at {s : Sea} {k : Nat} {x : Int × Int} (hx : s.ps[k]? = some x) : shares s k = shareL s.ps 12 x := by
  have hl := (List.getElem?_eq_some_iff.1 hx).1
  unfold shares sharesTo
  rw [if_pos hl, hx]
theorem sum_mem : ∀ {l : List (Int × Int)} {k : Nat} {x : Int × Int}, (∀ y ∈ l, 0 ≤ y.1) → l[k]? = some x → x.1 ≤ sumL l
  | [], k, x, _, h => by simp at h
  | y :: l, 0, x, hy, h => by
    simp at h
    subst h
    rw [sumL_cons]
    have : ∀ l : List (Int × Int), (∀ y ∈ l, 0 ≤ y.1) → 0 ≤ sumL l := fun l => by
      induction l with
      | nil => intro _; simp [sumL]
      | cons z l ih =>
        intro hz
        have := ih fun w hw => hz w (by simp [hw])
        have := hz z (by simp)
        rw [sumL_cons]; omega
    have := this l fun z hz => hy z (by simp [hz])
    omega
  | y :: l, k + 1, x, hy, h => by
    have := sum_mem (fun z hz => hy z (by simp [hz])) (show l[k]? = some x by simpa using h)
    have := hy y (by simp)
    rw [sumL_cons]; omega
theorem shares_bd {s : Sea} (hS : SOK s) {k : Nat} (hk : k < s.ps.length) : 0 ≤ (shares s k).2 ∧ (shares s k).2 ≤ 12 ∧ 0 ≤ (shares s k).1 ∧ (shares s k).1 ≤ 12 := by
  obtain ⟨x, hx⟩ : ∃ x, s.ps[k]? = some x := ⟨_, List.getElem?_eq_getElem hk⟩
  have hp := hS.p x (List.mem_of_getElem? hx)
  have hlo := hS.lo
  have hhi := hS.hi
  rw [shares_at hx]
  unfold shareL
  simp only
  have h1 := sum_mem (fun y hy => (hS.p y hy).1) hx
  have h2 : x.2 ≤ sumH s.ps := by
    have : ∀ {l : List (Int × Int)} {k : Nat} {x : Int × Int}, (∀ y ∈ l, 0 ≤ y.2) → l[k]? = some x → x.2 ≤ sumH l := fun {l} => by
      induction l with
      | nil => intro k x _ h; simp at h
      | cons y l ih =>
        intro k x hy h
        have h0 : 0 ≤ sumH l := by
          have : ∀ l : List (Int × Int), (∀ y ∈ l, 0 ≤ y.2) → 0 ≤ sumH l := fun l => by
            induction l with
            | nil => intro _; simp [sumH]
            | cons z l ih =>
              intro hz
              have := ih fun w hw => hz w (by simp [hw])
              have := hz z (by simp)
              rw [sumH_cons]; omega
          exact this l fun z hz => hy z (by simp [hz])
        have h1 := hy y (by simp)
        rw [sumH_cons]
        cases k with
        | zero => simp at h; subst h; omega
        | succ k => have := ih (fun z hz => hy z (by simp [hz])) (show l[k]? = some x by simpa using h); omega
    exact this (fun y hy => by have := hS.p y hy; omega) hx
  omega
def needN (s : Sea) (k : Nat) : Int := (s.wh * (shares s k).2 + 12 - 1) / 12
set_option maxRecDepth 100000 in
set_option maxHeartbeats 4000000 in
theorem need_any (L : SL) (s : Sea) (hS : SOK s) (b k : Nat) (hk : k < s.ps.length) (w : World) (hW : WBox w b L s (shares s)) : Calls Try.prog 84 #[.pointer (some ⟨b, 0, none⟩), .int .i64 k] w fun e w' => e = .returned (.int .i64 (needN s k)) ∧ Below w.heap.size w w' := by
  have h1 := shares_bd hS hk
  have h2 : 0 ≤ s.wh * (shares s k).2 := Int.mul_nonneg (by have := hS.w0; have := hS.w1; omega) h1.1
  have h3 : s.wh * (shares s k).2 ≤ 2000 * 12 := Int.mul_le_mul hS.w2 h1.2.1 h1.1 (by omega)
  have hpl := hS.pl
  obtain ⟨c0, c1, c2, c3⟩ := hW.cells
  obtain ⟨q0, q1⟩ := hW.part (k := k) (by omega)
  have hk4 : (k : Int) < 4 := by omega
  have hk0 : (0 : Int) ≤ k := by omega
  have hw1 : IntKind.i64.wrap (s.wh * (shares s k).2) = s.wh * (shares s k).2 := IntWalk.i64_in _ (by omega)
  have hw2 : IntKind.i64.wrap (s.wh * (shares s k).2 + 12) = s.wh * (shares s k).2 + 12 := IntWalk.i64_in _ (by omega)
  have hw3 : IntKind.i64.wrap (s.wh * (shares s k).2 + 12 - 1) = s.wh * (shares s k).2 + 12 - 1 := IntWalk.i64_in _ (by omega)
  have hn : needN s k = (s.wh * (shares s k).2 + 12 - 1) / 12 := rfl
  have HN := Lib.hid hn
  clear hn hS
  go_enter Try.func84, Try.ntmps84
  go_upto_region 1 with (fail)
  go_quiet (fail)
  go_wp2_with (fail)
  go_ret
  refine ⟨?_, below_drewN (Below.refl _ _) _⟩
  rw [HN.out]
  rfl
open Go.RowKit

/-! Lifts: Need 55, holds 76. -/
theorem open_no (L : SL) (s : Sea) (is : Bool) (w : World) (hH : SeaAt w w.heap.size L s) (h : askS s is ≠ 0) : Calls Try.prog 73 #[L.enc s, .bool is] w fun e w' => e = .returned (.tuple #[.pointer none, .int .i64 (askS s is)]) ∧ Below w.heap.size w w' :=
  (open_any L s is w hH).mono fun _ _ ⟨h1, h2⟩ => ⟨h1.elim (fun h3 => h3.2) (fun h3 => absurd h3.1 h), h2⟩
theorem open_yes (L : SL) (s : Sea) (is : Bool) (w : World) (hH : SeaAt w w.heap.size L s) (h : askS s is = 0) : Calls Try.prog 73 #[L.enc s, .bool is] w fun e w' => (∃ b, e = .returned (.tuple #[.pointer (some ⟨b, 0, none⟩), .int .i64 0]) ∧ w.heap.size ≤ b ∧ WBox w' b L s (shares s)) ∧ Below w.heap.size w w' :=
  (open_any L s is w hH).mono fun _ _ ⟨h1, h2⟩ => ⟨h1.elim (fun h3 => absurd h h3.1) (fun h3 => h3.2), h2⟩
theorem askS_ok {s : Sea} {is : Bool} (h : askS s is = 0) : validS s = true ∧ is = true := by
  unfold askS at h
  split at h
  · cases h
  · split at h
    · cases h
    · rename_i h1 h2; exact ⟨by simpa using h1, by simpa using h2⟩
/-- What Need returns. -/
def needRet (s : Sea) (k : Int) : Int × Int := if askS s (inR k 0 (s.ps.length - 1)) ≠ 0 then (0, askS s (inR k 0 (s.ps.length - 1))) else (needN s k.toNat, 0)
set_option maxRecDepth 100000 in
set_option maxHeartbeats 4000000 in
theorem Need_any (L : SL) (s : Sea) (hn : s.ps.length ≤ 1000) (k : Int) (w : World) (hH : SeaAt w w.heap.size L s) : Calls Try.prog 31 #[L.enc s, .int .i64 k] w fun e w' => e = .returned (.tuple #[.int .i64 (needRet s k).1, .int .i64 (needRet s k).2]) ∧ Below w.heap.size w w' := by
  have hbw := (Below.refl w.heap.size w).alloc (Nat.le_refl _) (.cells #[.int .i64 s.wl, .int .i64 s.wh, .slice L.Ap s.ps.length L.cp, .slice L.Ab s.bs.length L.cb] 44)
  have HB := Lib.hid (SBox.new w L s)
  have hc0 := (SBox.new w L s).cells
  obtain ⟨W0, hW0⟩ : ∃ W0, w.alloc (.cells #[.int .i64 s.wl, .int .i64 s.wh, .slice L.Ap s.ps.length L.cp, .slice L.Ab s.bs.length L.cb] 44) = W0 := ⟨_, rfl⟩
  rw [hW0] at hbw HB hc0
  have HBW := Lib.hid hbw
  have HW0 := Lib.hid hW0
  have HH := Lib.hid (hH.below hbw)
  have HP := Lib.hid (fun W => isPlace_any L s k W hn)
  obtain ⟨is, his⟩ : ∃ b, b = inR k 0 (s.ps.length - 1) := ⟨_, rfl⟩
  rw [← his] at HP
  by_cases h0 : askS s is = 0
  · obtain ⟨hv, hi⟩ := askS_ok h0
    have HS := Lib.hid (SOK.ofValid hv)
    have hk := inR_true.1 (his.symm.trans hi)
    have HQ := Lib.hid (show needRet s k = (needN s k.toNat, 0) by unfold needRet; rw [← his, if_neg (by simp [h0])])
    obtain ⟨kn, rfl⟩ : ∃ kn : Nat, k = kn := ⟨k.toNat, by omega⟩
    have hkn : kn < s.ps.length := by omega
    have H72 := Lib.hid (fun W hW => open_yes L s is W hW h0)
    clear hbw hW0 hH his hv h0 hk hn
    subst hi
    obtain ⟨c0, c1, c2, c3⟩ := hc0
    obtain ⟨Ap, cp, Ab, cb⟩ := L
    go_enter Try.func31, Try.ntmps31
    go_upto_region 1 with (fail)
    have e := HW0.out
    rw [e]
    clear e
    go_region_held3 (fun w' => w'.cell? ⟨w.heap.size, 0, none⟩ = some (.int .i64 s.wl) ∧ w'.cell? ⟨w.heap.size, 1, none⟩ = some (.int .i64 s.wh) ∧ w'.cell? ⟨w.heap.size, 2, none⟩ = some (.slice Ap s.ps.length cp) ∧ w'.cell? ⟨w.heap.size, 3, none⟩ = some (.slice Ab s.bs.length cb)) (first | go_keep)
      (first
        | (go_at_call 83; refine (HP.out _).mono ?_; rintro e w1 ⟨rfl, hb1⟩; have hk1 : Below W0.heap.size W0 w1 := (by first | exact hb1 | exact hb0to (drew_below W0) hb1); have B1 := Lib.hid hk1; obtain ⟨r0, r1, r2, r3⟩ := (HB.out.of (hk1.block _ HB.out.lt)).cells; clear hb1 hk1)
        | (go_at_call 73; refine (H72.out w1 (HH.out.below B1.out)).mono ?_; rintro e w2 ⟨⟨b, rfl, hbb, hWB⟩, hb2⟩; have B2 := Lib.hid (hb0to B1.out hb2); have WB := Lib.hid hWB; obtain ⟨r0, r1, r2, r3⟩ := (HB.out.of (B2.out.block _ HB.out.lt)).cells; clear hb2 hWB))
    all_goals
      go_wp2_with (go_at_call 84; refine (need_any ⟨Ap, cp, Ab, cb⟩ s HS.out b kn hkn w2 WB.out).mono ?_; rintro e w3 ⟨rfl, hb3⟩; have B3 := Lib.hid (hb0to B2.out hb3); clear hb3)
      go_ret2
      exact ⟨by rw [HQ.out]; rfl, hb0to HBW.out B3.out⟩
  · have HQ := Lib.hid (show needRet s k = (0, askS s is) by unfold needRet; rw [← his, if_pos h0])
    have H72 := Lib.hid (fun W hW => open_no L s is W hW h0)
    obtain ⟨er, her⟩ : ∃ x, x = askS s is := ⟨_, rfl⟩
    rw [← her] at H72 HQ h0
    have hd : (er != 0) = true := bne_iff_ne.2 h0
    clear hbw hW0 hH his h0 her hn
    obtain ⟨c0, c1, c2, c3⟩ := hc0
    obtain ⟨Ap, cp, Ab, cb⟩ := L
    go_enter Try.func31, Try.ntmps31
    go_upto_region 1 with (fail)
    have e := HW0.out
    rw [e]
    clear e
    go_region_held3 (fun w' => w'.cell? ⟨w.heap.size, 0, none⟩ = some (.int .i64 s.wl) ∧ w'.cell? ⟨w.heap.size, 1, none⟩ = some (.int .i64 s.wh) ∧ w'.cell? ⟨w.heap.size, 2, none⟩ = some (.slice Ap s.ps.length cp) ∧ w'.cell? ⟨w.heap.size, 3, none⟩ = some (.slice Ab s.bs.length cb)) (first | go_keep)
      (first
        | (go_at_call 83; refine (HP.out _).mono ?_; rintro e w1 ⟨rfl, hb1⟩; have hk1 : Below W0.heap.size W0 w1 := (by first | exact hb1 | exact hb0to (drew_below W0) hb1); have B1 := Lib.hid hk1; obtain ⟨r0, r1, r2, r3⟩ := (HB.out.of (hk1.block _ HB.out.lt)).cells; clear hb1 hk1)
        | (go_at_call 73; refine (H72.out w1 (HH.out.below B1.out)).mono ?_; rintro e w2 ⟨rfl, hb2⟩; have B2 := Lib.hid (hb0to B1.out hb2); obtain ⟨r0, r1, r2, r3⟩ := (HB.out.of (B2.out.block _ HB.out.lt)).cells; clear hb2))
    all_goals
      go_wp2_with (fail)
      go_ret2
      exact ⟨by rw [HQ.out]; rfl, hb0to HBW.out B2.out⟩
open Go.RowKit

/-! Lifts in plain words: what a boat must carry, and what it holds. -/
theorem need_iff {w hi : Int} (n : Int) : w * hi ≤ 12 * n ↔ (w * hi + 12 - 1) / 12 ≤ n := by
  omega
/-- The greatest weight, up to 2000, with which a boat is not over its load. -/
def holdsN (carry parts : Int) : Int := if parts = 0 then 2000 else min 2000 (12 * carry / parts)
theorem holds_iff {carry parts w : Int} (h1 : 0 ≤ parts) (hw : w ≤ 2000) (hc : 0 ≤ carry) : w ≤ holdsN carry parts ↔ w * parts ≤ 12 * carry := by
  unfold holdsN
  by_cases h : parts = 0
  · subst h; simp; omega
  · rw [if_neg h]
    have hp : 0 < parts := by omega
    constructor
    · intro h2
      have h3 : w ≤ 12 * carry / parts := by omega
      have := (Int.le_ediv_iff_mul_le hp).1 h3
      exact this
    · intro h2
      have := (Int.le_ediv_iff_mul_le hp).2 h2
      omega
/-- The least of some numbers, from 2000 down. -/
def minN (l : List Int) : Int := l.foldl min 2000
theorem minN_snoc (l : List Int) (x : Int) : minN (l ++ [x]) = min (minN l) x := by simp [minN]
theorem le_minN {w : Int} (hw : w ≤ 2000) (l : List Int) : w ≤ minN l ↔ ∀ x ∈ l, w ≤ x := by
  have : ∀ (l : List Int) (i : Int), w ≤ l.foldl min i ↔ w ≤ i ∧ ∀ x ∈ l, w ≤ x := fun l => by
    induction l with
    | nil => intro i; simp
    | cons y l ih =>
      intro i
      rw [List.foldl_cons, ih, show w ≤ min i y ↔ w ≤ i ∧ w ≤ y by omega, and_assoc]
      simp only [List.mem_cons, forall_eq_or_imp]
  unfold minN
  rw [this]
  exact ⟨fun h => h.2, fun h => ⟨hw, h⟩⟩

/-! lift 85, lifts 84, holds 76. -/
theorem boat_at {s : Sea} (hS : SOK s) {j : Nat} (hj : j < s.bs.length) : ∃ x, s.bs[j]? = some x ∧ 0 ≤ x.1 ∧ x.1 ≤ 1000 ∧ 0 ≤ x.2 ∧ x.2 ≤ 99 := by
  refine ⟨s.bs[j], List.getElem?_eq_getElem hj, ?_⟩
  exact hS.b _ (List.getElem_mem hj)
def carryN (s : Sea) (j : Nat) : Int := (s.bs.getD j (0, 0)).1
def penceN (s : Sea) (j : Nat) : Int := (s.bs.getD j (0, 0)).2
theorem boat_eq {s : Sea} {j : Nat} {x : Int × Int} (hx : s.bs[j]? = some x) : carryN s j = x.1 ∧ penceN s j = x.2 := by
  unfold carryN penceN
  rw [List.getD_eq_getElem?_getD, hx]
  exact ⟨rfl, rfl⟩
set_option maxRecDepth 100000 in
set_option maxHeartbeats 4000000 in
theorem lift_any (L : SL) (s : Sea) (hS : SOK s) (b k j : Nat) (hk : k < s.ps.length) (hj : j < s.bs.length) (w : World) (hW : WBox w b L s (shares s)) (hH : SeaAt w w.heap.size L s) :
    Calls Try.prog 133 #[.pointer (some ⟨b, 0, none⟩), .int .i64 k, .int .i64 j] w fun e w' => e = .returned (.int .i64 (holdsN (carryN s j) (shares s k).2)) ∧ Below w.heap.size w w' := by
  have h1 := shares_bd hS hk
  have hpl := hS.pl
  obtain ⟨x, hx, x0, x1, _, _⟩ := boat_at hS hj
  rw [(boat_eq hx).1]
  obtain ⟨bb, ob, eB, _, d1, d2⟩ := hH.b.at_ hx
  obtain ⟨c0, c1, c2, c3⟩ := hW.cells
  obtain ⟨q0, q1⟩ := hW.part (k := k) (by omega)
  have hk4 : (k : Int) < 4 := by omega
  have hk0 : (0 : Int) ≤ k := by omega
  obtain ⟨cy, pn⟩ := x
  simp only at d1 d2 x0 x1
  rw [eB] at c3
  obtain ⟨hi, hhi⟩ : ∃ v, v = (shares s k).2 := ⟨_, rfl⟩
  rw [← hhi] at q1 h1 ⊢
  clear hx d2 hS hW hH hhi c0 c1 c2 q0 eB
  by_cases hz : hi = 0
  · subst hz
    go_enter Try.func133, Try.ntmps133
    go_wp2
    go_ret
    exact ⟨by unfold holdsN; rfl, Below.refl _ _⟩
  · have hz' : (hi == 0) = false := beq_eq_false_iff_ne.2 hz
    have hp : 1 ≤ hi := by omega
    have hw : IntKind.i64.wrap (12 * cy) = 12 * cy := IntWalk.i64_in _ (by omega)
    have h12 : 0 ≤ 12 * cy := by omega
    go_enter Try.func133, Try.ntmps133
    go_upto_region 3 with (fail)
    go_quiet (fail)
    go_wp2_with (fail)
    all_goals go_ret
    all_goals (refine ⟨?_, below_drewN (Below.refl _ _) _⟩)
    all_goals (unfold holdsN; rw [if_neg hz])
    all_goals first | rw [Int.min_eq_left (by assumption)] | rw [Int.min_eq_right (Int.le_of_lt (by assumption))]
    all_goals first | rfl | kernel_rfl | simp [go_sem]
end Go.Proofs.Ytmbcpmnigggbaaa.Li
namespace Go.Proofs.Ytmbcpmnigggbaaa.Li
open Go.RowKit

/-! lifts 84. -/
/-- What each boat of a crew holds with its parts. -/
def heldL (s : Sea) (c : List Int) : List Int := c.zipIdx.map fun p => holdsN (carryN s p.1.toNat) (shares s p.2).2
theorem heldL_length (s : Sea) (c : List Int) : (heldL s c).length = c.length := by simp [heldL]
theorem heldL_at {s : Sea} {c : List Int} {k : Nat} {x : Int} (h : c[k]? = some x) : (heldL s c)[k]? = some (holdsN (carryN s x.toNat) (shares s k).2) := by
  simp [heldL, h]
/-- The most that a crew lifts, up to 2000. -/
def liftS (s : Sea) (c : List Int) : Int := minN (heldL s c)
theorem minN_next {l : List Int} {k : Nat} {x : Int} (h : l[k]? = some x) : minN (l.take (k + 1)) = if x < minN (l.take k) then x else minN (l.take k) := by
  have e : l.take (k + 1) = l.take k ++ [x] := by rw [List.take_add_one, h]; rfl
  rw [e, minN_snoc]
  split <;> omega
set_option maxRecDepth 100000 in
set_option maxHeartbeats 4000000 in
theorem lifts_any (L : SL) (s : Sea) (hS : SOK s) (b : Nat) (c : List Int) (A : Option Addr) (cp : Nat) (hc : ∀ x ∈ c, 0 ≤ x ∧ x < s.bs.length) (hcl : c.length ≤ s.ps.length) (w : World) (hW : WBox w b L s (shares s)) (hb : b < w.heap.size) (hH : SeaAt w w.heap.size L s) (hI : IntsAt w w.heap.size A c) :
    Calls Try.prog 80 #[.pointer (some ⟨b, 0, none⟩), .slice A c.length cp] w fun e w' => e = .returned (.int .i64 (liftS s c)) ∧ Below w.heap.size w w' := by
  have hpl := hS.pl
  have HW := Lib.hid hW
  have HH := Lib.hid hH
  have HI := Lib.hid hI
  have HS := Lib.hid hS
  have HB := Lib.hid hb
  have HQ := Lib.hid (show liftS s c = minN ((heldL s c).take c.length) by unfold liftS; rw [List.take_of_length_le (by rw [heldL_length]; exact Nat.le_refl _)])
  clear hW hH hI hS hb
  go_enter Try.func80, Try.ntmps80
  go_wp2_with (fail)
  go_loopw [5, 10] (fun s5 i wr => ∃ (k : Nat) (x : Int), k ≤ c.length ∧ i = .int .i64 k ∧ s5 = .int .i64 x ∧ Hid (x = minN ((heldL s c).take k)) ∧ Hid (Below w.heap.size w wr)) (fun _ i _ => c.length - (intOf i).toNat)
  case atStart => exact ⟨0, 2000, Nat.zero_le _, rfl, rfl, Lib.hid rfl, Lib.hid (Below.refl _ _)⟩
  case round =>
    obtain ⟨k, x, hk, rfl, rfl, hX, hb2⟩ := hrel
    by_cases hlt : k < c.length
    · obtain ⟨j, hj⟩ : ∃ j, c[k]? = some j := ⟨_, List.getElem?_eq_getElem hlt⟩
      obtain ⟨j0, j1⟩ := hc j (List.mem_of_getElem? hj)
      obtain ⟨jn, rfl⟩ : ∃ jn : Nat, j = jn := ⟨j.toNat, by omega⟩
      obtain ⟨bi, oi, eA, blt, d1⟩ := HI.out.at_ hj
      have d1' := hb2.out.cell (p := ⟨bi, oi + k, none⟩) blt |>.trans d1
      have HN := Lib.hid (minN_next (heldL_at (s := s) hj))
      have hkp : k < s.ps.length := by omega
      have hjb : jn < s.bs.length := by omega
      rw [Int.toNat_natCast] at HN
      generalize hv : holdsN (carryN s jn) (shares s k).2 = v at HN
      have HV := Lib.hid hv
      clear hv hj d1
      subst eA
      have WB := Lib.hid (HW.out.of (hb2.out.block _ HB.out))
      have WH := Lib.hid (HH.out.below hb2.out)
      by_cases hvx : v < x
      · have HN' := Lib.hid (show v = minN ((heldL s c).take (k + 1)) by rw [HN.out, ← hX.out, if_pos hvx])
        as_aux_lemma =>
        go_wp2_with (go_at_call 133; (with_reducible refine (lift_any L s HS.out b k jn hkp hjb _ WB.out WH.out).mono ?_); rintro e w' ⟨rfl, hb3⟩; rw [HV.out]; have HB3 := Lib.hid hb3; clear hb3)
        go_roundw
        case rel => exact ⟨k + 1, v, by omega, by go_num, rfl, HN', Lib.hid (hb0to hb2.out HB3.out)⟩
        case measure => simp [intOf]; omega
      · have HN' := Lib.hid (show x = minN ((heldL s c).take (k + 1)) by rw [HN.out, ← hX.out, if_neg hvx])
        as_aux_lemma =>
        go_wp2_with (go_at_call 133; (with_reducible refine (lift_any L s HS.out b k jn hkp hjb _ WB.out WH.out).mono ?_); rintro e w' ⟨rfl, hb3⟩; rw [HV.out]; have HB3 := Lib.hid hb3; clear hb3)
        go_roundw
        case rel => exact ⟨k + 1, x, by omega, by go_num, rfl, HN', Lib.hid (hb0to hb2.out HB3.out)⟩
        case measure => simp [intOf]; omega
    · obtain rfl : k = c.length := by omega
      go_wp2_with (fail)
      go_ret
      exact ⟨by rw [HQ.out, ← hX.out]; rfl, hb2.out⟩
open Go.RowKit

open Go.RowKit

open Go.RowKit

open Go.RowKit

/-! holds 76. -/
/-- Does each boat of a crew carry what its place may need? -/
def safeC (s : Sea) (c : List Int) : Bool := c.zipIdx.all fun p => decide (needN s p.2 ≤ carryN s p.1.toNat)
set_option maxRecDepth 100000 in
set_option maxHeartbeats 4000000 in
theorem holds_any (L : SL) (s : Sea) (hS : SOK s) (b : Nat) (c : List Int) (A : Option Addr) (cp : Nat) (hc : ∀ x ∈ c, 0 ≤ x ∧ x < s.bs.length) (hcl : c.length ≤ s.ps.length) (w : World) (hW : WBox w b L s (shares s)) (hH : SeaAt w w.heap.size L s) (hI : IntsAt w w.heap.size A c) :
    Calls Try.prog 79 #[.pointer (some ⟨b, 0, none⟩), .slice A c.length cp] w fun e w' => e = .returned (.bool (safeC s c)) ∧ Below w.heap.size w w' := by
  have hpl := hS.pl
  have HW := Lib.hid hW
  have HH := Lib.hid hH
  have HI := Lib.hid hI
  have HS := Lib.hid hS
  clear hW hH hI hS
  go_enter Try.func79, Try.ntmps79
  go_wp2_with (fail)
  go_loopw [9] (fun i wr => ∃ k : Nat, k ≤ c.length ∧ i = .int .i64 k ∧ Hid ((c.zipIdx.take k).all (fun p => decide (needN s p.2 ≤ carryN s p.1.toNat)) = true) ∧ Hid (Below w.heap.size w wr)) (fun i _ => c.length - (intOf i).toNat)
  case atStart => exact ⟨0, Nat.zero_le _, rfl, Lib.hid (by simp), Lib.hid (Below.refl _ _)⟩
  case round =>
    obtain ⟨k, hk, rfl, hall, hb2⟩ := hrel
    by_cases hlt : k < c.length
    · obtain ⟨j, hj⟩ : ∃ j, c[k]? = some j := ⟨_, List.getElem?_eq_getElem hlt⟩
      obtain ⟨j0, j1⟩ := hc j (List.mem_of_getElem? hj)
      obtain ⟨jn, rfl⟩ : ∃ jn : Nat, j = jn := ⟨j.toNat, by omega⟩
      have hkp : k < s.ps.length := by omega
      have hjb : jn < s.bs.length := by omega
      obtain ⟨x, hx, _, _, _, _⟩ := boat_at HS.out hjb
      have HZ := Lib.hid (show c.zipIdx[k]? = some ((jn : Int), k) by simp [hj])
      obtain ⟨bi, oi, eA, blt, d1⟩ := HI.out.at_ hj
      obtain ⟨bb, ob, eB, blt2, d2, _⟩ := HH.out.b.at_ hx
      have hcx := (boat_eq hx).1
      have d1' := hb2.out.cell (p := ⟨bi, oi + k, none⟩) blt |>.trans d1
      have d2' := hb2.out.cell (p := ⟨bb, ob + jn * 2, none⟩) blt2 |>.trans d2
      have WB := Lib.hid (HW.out.of (hb2.out.block _ HW.out.lt))
      obtain ⟨g0, g1, g2, g3⟩ := WB.out.cells
      rw [eB] at g3
      have ex2 := extB_cell g3
      have ex3 := extB_cell d2'
      have H73 := Lib.hid (fun z => need_any L s HS.out b k hkp (extB wr z) (WB.out.of ((extB_below wr z).block _ WB.out.lt)))
      generalize hnv : needN s k = nv at H73
      obtain ⟨cy, pn⟩ := x
      simp only at ex3 hcx
      subst eA
      have HZA := Lib.hid (show ((c.zipIdx.take (k + 1)).all (fun p => decide (needN s p.2 ≤ carryN s p.1.toNat))) = decide (nv ≤ cy) by
        rw [List.take_add_one, HZ.out, List.all_append, hall.out]; simp [hnv, hcx])
      have HM := Lib.hid (show decide (nv ≤ cy) = false → safeC s c = false by
        intro h
        unfold safeC
        rw [List.all_eq_false]
        refine ⟨_, List.mem_of_getElem? HZ.out, ?_⟩
        simp only [Int.toNat_natCast, hnv, hcx, h]; simp)
      clear hx d2 hj d1 hnv hcx eB
      have hk1 := Lib.hid (show k + 1 ≤ c.length by omega)
      by_cases hlt2 : cy < nv
      · have hdl : decide (cy < nv) = true := decide_eq_true hlt2
        have HF := Lib.hid (HM.out (decide_eq_false (by omega)))
        as_aux_lemma =>
        go_upto_region 4 with (fail)
        refine wp_region_ext (by kernel_rfl) (by kernel_rfl) ?_
        repeat (go_big_quiet_step ((go_at_call 84; exact ext_call (H73.out _))))
        refine wpQuiet_nil ?_
        rintro _ ⟨y1, rfl⟩
        have hb3 := hb0to hb2.out (extB_below wr y1)
        go_wp2_with (fail)
        go_ret
        exact ⟨by rw [HF.out]; try rfl, hb3⟩
      · have hdl : decide (cy < nv) = false := decide_eq_false hlt2
        have HF := Lib.hid (HZA.out.trans (decide_eq_true (by omega)))
        as_aux_lemma =>
        go_upto_region 4 with (fail)
        refine wp_region_ext (by kernel_rfl) (by kernel_rfl) ?_
        repeat (go_big_quiet_step ((go_at_call 84; exact ext_call (H73.out _))))
        refine wpQuiet_nil ?_
        rintro _ ⟨y1, rfl⟩
        have hb3 := hb0to hb2.out (extB_below wr y1)
        go_wp2_with (fail)
        go_roundw
        case rel => exact ⟨k + 1, hk1.out, by go_num, HF, Lib.hid hb3⟩
        case measure => have := hk1.out; simp [intOf]; omega
    · obtain rfl : k = c.length := by omega
      have HF := Lib.hid (show safeC s c = true by
        have := hall.out
        rw [List.take_of_length_le (by simp)] at this
        exact this)
      go_wp2_with (fail)
      go_ret
      exact ⟨by rw [HF.out]; try rfl, hb2.out⟩
end Go.Proofs.Ytmbcpmnigggbaaa.Li
namespace Go.Proofs.Ytmbcpmnigggbaaa.Li
open Go.RowKit

/-! slices.Contains 108, crews 104 and its closure 107. -/
/-- What Index returns. -/
def IdxPost (l : List Int) (x : Int) (w : World) (e : Ending) (w' : World) : Prop := ∃ r : Int, e = .returned (.int .i64 r) ∧ decide (0 ≤ r) = decide (x ∈ l) ∧ w = w'
set_option maxRecDepth 100000 in
theorem index_any (l : List Int) (x : Int) (A : Option Addr) (c : Nat) (hl : l.length ≤ 1000) (w : World) (hI : IntsAt w w.heap.size A l) : Calls Try.prog 198 #[.slice A l.length c, .int .i64 x] w (IdxPost l x w) := by
  have HI := Lib.hid hI
  clear hI
  go_enter Try.func198, Try.ntmps198
  go_wp2_with (fail)
  go_loop [8] (fun i => ∃ k : Nat, k ≤ l.length ∧ i = .int .i64 k ∧ Hid (¬ x ∈ l.take k)) (fun i => l.length - (intOf i).toNat)
  case atStart => exact ⟨0, Nat.zero_le _, rfl, Lib.hid (by simp)⟩
  case round =>
    obtain ⟨k, hk, rfl, hno⟩ := hrel
    by_cases hlt : k < l.length
    · obtain ⟨j, hj⟩ : ∃ j, l[k]? = some j := ⟨_, List.getElem?_eq_getElem hlt⟩
      obtain ⟨bi, oi, eA, blt, d1⟩ := HI.out.at_ hj
      have HJ := Lib.hid hj
      subst eA
      clear hj
      by_cases hx : x = j
      · have hxb : (x == j) = true := by simpa using hx
        have HM := Lib.hid (show x ∈ l by rw [hx]; exact List.mem_of_getElem? HJ.out)
        clear hx
        go_wp2_with (fail)
        go_ret
        exact ⟨k, rfl, by rw [decide_eq_true HM.out]; exact decide_eq_true (by omega), rfl⟩
      · have hxb : (x == j) = false := by simpa using hx
        have HN := Lib.hid (show ¬ x ∈ l.take (k + 1) by
          rw [List.take_add_one, HJ.out]
          simp only [List.mem_append, Option.toList_some, List.mem_singleton, not_or]
          exact ⟨hno.out, hx⟩)
        clear hx
        go_wp2_with (fail)
        go_round
        case rel => exact ⟨k + 1, by omega, by go_num, HN⟩
        case measure => simp [intOf]; omega
    · obtain rfl : k = l.length := by omega
      have HN := Lib.hid (show ¬ x ∈ l by have := hno.out; rwa [List.take_length] at this)
      go_wp2_with (fail)
      go_ret
      exact ⟨-1, rfl, by rw [decide_eq_false HN.out]; rfl, rfl⟩
theorem contains_any (l : List Int) (x : Int) (A : Option Addr) (c : Nat) (hl : l.length ≤ 1000) (w : World) (hI : IntsAt w w.heap.size A l) : Calls Try.prog 177 #[.slice A l.length c, .int .i64 x] w fun e w' => e = .returned (.bool (decide (x ∈ l))) ∧ w = w' := by
  have H := Lib.hid (index_any l x A c hl w hI)
  clear hI
  go_enter Try.func177, Try.ntmps177
  go_wp2_with (go_at_call 198; refine H.out.mono ?_; rintro e w' ⟨r, rfl, hr, rfl⟩; have HR := Lib.hid hr; clear hr)
  go_ret
  exact ⟨by rw [← HR.out]; rfl, rfl⟩

theorem yieldAt_wide {P : Program} {m m' l : Nat} {args : Array Value} {W : World} {R : Ending → World → Prop} (h : YieldAt Fence.wide m P l args W R) : YieldAt Fence.wide m' P l args W R := by
  obtain ⟨fn, tmps, assign, body, hy, h1, h2⟩ := h
  exact ⟨fn, tmps, assign, body, hy, h1, fun c cs _ => h2 c cs (room_wide _)⟩

/-- The memory of crews: the boxes of the sea, of yield, of the closure; the sea at work. -/
structure CrewSt (W : World) (B0 B1 B2 l b : Nat) (L : SL) (s : Sea) : Prop where
  s0 : W.cell? ⟨B0, 0, none⟩ = some (.pointer (some ⟨b, 0, none⟩))
  y0 : W.cell? ⟨B1, 0, none⟩ = some (.func (.yield l) #[] #[])
  f0 : W.cell? ⟨B2, 0, none⟩ = some (.func (.func 176) #[] #[.pointer (some ⟨B0, 0, none⟩), .pointer (some ⟨B1, 0, none⟩), .pointer (some ⟨B2, 0, none⟩)])
  w0 : WBox W b L s (shares s)
theorem CrewSt.kp {W W' : World} {B0 B1 B2 l b : Nat} {L : SL} {s : Sea} (h : CrewSt W B0 B1 B2 l b L s) {S : Nat → Prop} (hk : KpB S W.heap.size W W') (h0 : ¬ S B0) (h1 : ¬ S B1) (h2 : ¬ S B2) (h3 : ¬ S b) : CrewSt W' B0 B1 B2 l b L s :=
  ⟨(hk.cell (cell_lt h.s0) h0).trans h.s0, (hk.cell (cell_lt h.y0) h1).trans h.y0, (hk.cell (cell_lt h.f0) h2).trans h.f0, h.w0.of (hk.block _ h.w0.lt h3)⟩
theorem CrewSt.below {W W' : World} {B0 B1 B2 l b : Nat} {L : SL} {s : Sea} (h : CrewSt W B0 B1 B2 l b L s) (hb : Below W.heap.size W W') : CrewSt W' B0 B1 B2 l b L s :=
  h.kp (S := fun _ => False) (kpB_of_below hb) (fun h => h) (fun h => h) (fun h => h) (fun h => h)
/-- The numbers l, in memory from B on. -/
def IntsFrom (W : World) (B : Nat) (A : Option Addr) (l : List Int) : Prop := (A = none ∧ l = []) ∨ ∃ b off, A = some ⟨b, off, none⟩ ∧ B ≤ b ∧ b < W.heap.size ∧ ∀ i x, l[i]? = some x → W.cell? ⟨b, off + i, none⟩ = some (.int .i64 x)
theorem IntsFrom.ints {W : World} {B : Nat} {A : Option Addr} {l : List Int} (h : IntsFrom W B A l) : IntsAt W W.heap.size A l := by
  rcases h with ⟨_, h⟩ | ⟨b, off, h1, _, h2, h3⟩
  · exact .inl h
  · exact .inr ⟨b, off, h1, h2, h3⟩
theorem IntsFrom.kp {W W' : World} {B : Nat} {A : Option Addr} {l : List Int} (h : IntsFrom W B A l) {S : Nat → Prop} (hk : KpB S W.heap.size W W') (hS : ∀ k, B ≤ k → ¬ S k) : IntsFrom W' B A l := by
  rcases h with h | ⟨b, off, h1, h0, h2, h3⟩
  · exact .inl h
  · exact .inr ⟨b, off, h1, h0, Nat.lt_of_lt_of_le h2 hk.size, fun i x hx => (hk.cell h2 (hS b h0)).trans (h3 i x hx)⟩
theorem IntsFrom.below {W W' : World} {B : Nat} {A : Option Addr} {l : List Int} (h : IntsFrom W B A l) (hb : Below W.heap.size W W') : IntsFrom W' B A l :=
  h.kp (S := fun _ => False) (kpB_of_below hb) (fun _ _ h => h)
/-- What crews hands over. -/
def SeesC (B : Nat) (x : List Int) (args : Array Value) (X : World) : Prop := ∃ A c, args = #[.slice A x.length c] ∧ IntsFrom X B A x ∧ x.length ≤ c
theorem SeesC.kept {B : Nat} {x : List Int} {args : Array Value} {X Y : World} (hs : SeesC B x args X) (hk : KpB (fun k => k < B) X.heap.size X Y) : SeesC B x args Y := by
  obtain ⟨A, c, h1, h2, h3⟩ := hs
  exact ⟨A, c, h1, h2.kp hk (fun k hk h => by omega), h3⟩
/-- All crews that begin with some boats, n more to choose from nb. -/
def crewsR (nb : Nat) : Nat → List Int → List (List Int)
  | 0, f => [f]
  | n + 1, f => (List.range nb).flatMap fun b : Nat => if (b : Int) ∈ f then [] else crewsR nb n (f ++ [(b : Int)])
/-- Those of them whose next boat is below k. -/
def crewsTo (nb n : Nat) (f : List Int) (k : Nat) : List (List Int) := (List.range k).flatMap fun b : Nat => if (b : Int) ∈ f then [] else crewsR nb n (f ++ [(b : Int)])
theorem crewsTo_zero (nb n : Nat) (f : List Int) : crewsTo nb n f 0 = [] := rfl
theorem crewsTo_succ (nb n : Nat) (f : List Int) (k : Nat) : crewsTo nb n f (k + 1) = crewsTo nb n f k ++ if (k : Int) ∈ f then [] else crewsR nb n (f ++ [(k : Int)]) := by
  unfold crewsTo; rw [List.range_succ, List.flatMap_append]; simp
theorem crewsTo_all (nb n : Nat) (f : List Int) : crewsTo nb n f nb = crewsR nb (n + 1) f := rfl
theorem crewsTo_pre (nb n : Nat) (f : List Int) {k m : Nat} (h : k ≤ m) : crewsTo nb n f k <+: crewsTo nb n f m := by
  obtain ⟨d, rfl⟩ : ∃ d, m = k + d := ⟨m - k, by omega⟩
  clear h
  induction d with
  | zero => exact List.prefix_rfl
  | succ d ih => rw [← Nat.add_assoc, crewsTo_succ]; exact ih.trans (List.prefix_append _ _)
/-- How the closure returns. -/
def FromPost (S : Nat → Prop) (xs : List (List Int)) (J Jx : List (List Int) → World → Prop) (all : List (List Int)) (X : World) (e : Ending) (X' : World) : Prop :=
  ∃ v : Bool, e = .returned (.bool v) ∧ KpB S X.heap.size X X' ∧ ((v = true ∧ J all X') ∨ (v = false ∧ ∃ pre, pre <+: xs ∧ Jx pre X'))
/-! Crews: lists of boats without repeats, the least one first. -/
/-- A list of boats without repeats. -/
def CrewOf (nb n : Nat) (c : List Int) : Prop := c.length = n ∧ (∀ x ∈ c, 0 ≤ x ∧ x < nb) ∧ c.Nodup
theorem mem_crewsR {nb : Nat} : ∀ {n : Nat} {f c : List Int}, f.Nodup → (c ∈ crewsR nb n f ↔ ∃ t, c = f ++ t ∧ t.length = n ∧ (∀ x ∈ t, 0 ≤ x ∧ x < nb) ∧ c.Nodup)
  | 0, f, c, hf => by
    simp only [crewsR, List.mem_singleton]
    constructor
    · rintro rfl; exact ⟨[], by simp, rfl, by simp, hf⟩
    · rintro ⟨t, rfl, h, _⟩
      rw [List.length_eq_zero_iff.1 h, List.append_nil]
  | n + 1, f, c, hf => by
    simp only [crewsR, List.mem_flatMap, List.mem_range]
    constructor
    · rintro ⟨b, hb, h⟩
      split at h
      · simp at h
      · rename_i hn
        have hf' : (f ++ [(b : Int)]).Nodup := by
          rw [List.nodup_append]
          refine ⟨hf, by simp, ?_⟩
          intro x hx y hy
          simp at hy
          subst hy
          intro e
          subst e
          exact hn hx
        obtain ⟨t, rfl, h1, h2, h3⟩ := (mem_crewsR hf').1 h
        refine ⟨(b : Int) :: t, by simp, by simp [h1], ?_, h3⟩
        intro x hx
        rcases List.mem_cons.1 hx with rfl | hx
        · omega
        · exact h2 x hx
    · rintro ⟨t, rfl, h1, h2, h3⟩
      match t, h1, h2, h3 with
      | y :: t, h1, h2, h3 =>
        have hy := h2 y (by simp)
        obtain ⟨b, rfl⟩ : ∃ b : Nat, y = b := ⟨y.toNat, by omega⟩
        have hn : ¬ (b : Int) ∈ f := by
          rw [List.nodup_append] at h3
          intro hm
          exact h3.2.2 _ hm (b : Int) (by simp) rfl
        have e : f ++ (b : Int) :: t = (f ++ [(b : Int)]) ++ t := by simp
        refine ⟨b, by omega, ?_⟩
        rw [if_neg hn]
        have hf' : (f ++ [(b : Int)]).Nodup := by
          rw [e] at h3
          exact (List.nodup_append.1 h3).1
        refine (mem_crewsR hf').2 ⟨t, e, by simpa using h1, fun x hx => h2 x (by simp [hx]), h3⟩
theorem mem_crews {nb n : Nat} {c : List Int} : c ∈ crewsR nb n [] ↔ CrewOf nb n c := by
  rw [mem_crewsR (by simp)]
  unfold CrewOf
  constructor
  · rintro ⟨t, rfl, h⟩; simpa using h
  · intro h; exact ⟨c, by simp, h⟩
/-! Lifts in plain words: the best of a list of lists. -/
/-- The first of the lists with the least number, of those for which something holds; and this number. -/
def cheapStep (ok : List Int → Bool) (f : List Int → Int) (b : Option (List Int × Int)) (c : List Int) : Option (List Int × Int) :=
  if ok c then match b with
    | none => some (c, f c)
    | some (q, n) => if f c < n then some (c, f c) else some (q, n)
  else b
def cheapL (ok : List Int → Bool) (f : List Int → Int) (l : List (List Int)) : Option (List Int × Int) := l.foldl (cheapStep ok f) none
theorem cheapL_snoc (ok : List Int → Bool) (f : List Int → Int) (l : List (List Int)) (c : List Int) : cheapL ok f (l ++ [c]) = cheapStep ok f (cheapL ok f l) c := by simp [cheapL]
theorem cheapL_none {ok : List Int → Bool} {f : List Int → Int} : ∀ l, cheapL ok f l = none ↔ ∀ c ∈ l, ok c = false := fun l => by
  refine snoc_ind (P := fun l => cheapL ok f l = none ↔ ∀ c ∈ l, ok c = false) (by simp [cheapL]) (fun l x ih => ?_) l
  rw [cheapL_snoc]
  unfold cheapStep
  by_cases hx : ok x = true
  · rw [if_pos hx]
    constructor
    · intro h
      cases hb : cheapL ok f l with
      | none => rw [hb] at h; simp at h
      | some q =>
        obtain ⟨q, n⟩ := q
        rw [hb] at h
        simp only at h
        split at h <;> simp at h
    · intro h
      have := h x (by simp)
      rw [hx] at this; cases this
  · rw [if_neg hx, ih]
    simp only [List.mem_append, List.mem_singleton]
    constructor
    · rintro h c (hc | rfl)
      · exact h c hc
      · simpa using hx
    · exact fun h c hc => h c (.inl hc)
theorem cheapL_some {ok : List Int → Bool} {f : List Int → Int} : ∀ (l : List (List Int)) (c : List Int) (n : Int), cheapL ok f l = some (c, n) → c ∈ l ∧ ok c = true ∧ n = f c ∧ (∀ q ∈ l, ok q = true → n ≤ f q) ∧ ∃ a b, l = a ++ c :: b ∧ ∀ q ∈ a, ok q = true → n < f q := fun l => by
  refine snoc_ind (P := fun l => ∀ (c : List Int) (n : Int), cheapL ok f l = some (c, n) → c ∈ l ∧ ok c = true ∧ n = f c ∧ (∀ q ∈ l, ok q = true → n ≤ f q) ∧ ∃ a b, l = a ++ c :: b ∧ ∀ q ∈ a, ok q = true → n < f q) (fun c n h => by simp [cheapL] at h) (fun l x ih c n h => ?_) l
  rw [cheapL_snoc] at h
  unfold cheapStep at h
  by_cases hx : ok x = true
  · rw [if_pos hx] at h
    cases hb : cheapL ok f l with
    | none =>
      rw [hb] at h
      simp only [Option.some.injEq, Prod.mk.injEq] at h
      obtain ⟨rfl, rfl⟩ := h
      have hn := (cheapL_none l).1 hb
      refine ⟨by simp, hx, rfl, fun q hq hok => ?_, l, [], by simp, fun q hq hok => by rw [hn q hq] at hok; cases hok⟩
      rcases List.mem_append.1 hq with hq | hq
      · rw [hn q hq] at hok; cases hok
      · simp at hq; subst hq; exact Int.le_refl _
    | some qn =>
      obtain ⟨q0, n0⟩ := qn
      rw [hb] at h
      obtain ⟨h1, h2, h3, h4, a, b, h5, h6⟩ := ih q0 n0 hb
      simp only at h
      by_cases hlt : f x < n0
      · rw [if_pos hlt] at h
        simp only [Option.some.injEq, Prod.mk.injEq] at h
        obtain ⟨rfl, rfl⟩ := h
        refine ⟨by simp, hx, rfl, fun q hq hok => ?_, l, [], by simp, fun q hq hok => by have := h4 q hq hok; omega⟩
        rcases List.mem_append.1 hq with hq | hq
        · have := h4 q hq hok; omega
        · simp at hq; subst hq; exact Int.le_refl _
      · rw [if_neg hlt] at h
        simp only [Option.some.injEq, Prod.mk.injEq] at h
        obtain ⟨rfl, rfl⟩ := h
        refine ⟨by simp [h1], h2, h3, fun q hq hok => ?_, a, b ++ [x], by rw [h5]; simp, h6⟩
        rcases List.mem_append.1 hq with hq | hq
        · exact h4 q hq hok
        · simp at hq; subst hq; omega
  · rw [if_neg hx] at h
    obtain ⟨h1, h2, h3, h4, a, b, h5, h6⟩ := ih c n h
    refine ⟨by simp [h1], h2, h3, fun q hq hok => ?_, a, b ++ [x], by rw [h5]; simp, h6⟩
    rcases List.mem_append.1 hq with hq | hq
    · exact h4 q hq hok
    · simp at hq; subst hq; exact absurd hok hx
/-- What may hang at a place, so that its boat is not over its load. -/
def capX (w : Int) (x : Int × Int) (c : Int) : Int × Int := (x.1, if 0 < w then min x.2 (12 * c / w) else x.2)
def capL (w : Int) (ps : List (Int × Int)) (cs : List Int) : List (Int × Int) := List.zipWith (capX w) ps cs
end Go.Proofs.Ytmbcpmnigggbaaa.Li
