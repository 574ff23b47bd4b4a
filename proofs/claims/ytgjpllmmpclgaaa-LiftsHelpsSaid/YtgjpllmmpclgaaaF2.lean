import Derived.Test.YtgjpllmmpclgaaaM4
namespace Go.Proofs.Ytgjpllmmpclgaaa
open Go.RowKit

/-! The specification's Sum 78, AreParts 30, IsCrew 25, Fits 29, Over 31, CostOf 35. -/
theorem sum_next {l : List Int} {k : Nat} {x : Int} (h : l[k]? = some x) : (l.take (k + 1)).sum = (l.take k).sum + x := by
  rw [List.take_add_one, h, List.sum_append]; simp
theorem sum_bd12 : ∀ (l : List Int), (∀ x ∈ l, 0 ≤ x ∧ x ≤ 12) → 0 ≤ l.sum ∧ l.sum ≤ 12 * l.length
  | [], _ => by simp
  | x :: l, h => by
    have := sum_bd12 l fun y hy => h y (by simp [hy])
    have := h x (by simp)
    rw [List.sum_cons, List.length_cons]; omega
set_option maxRecDepth 100000 in
set_option maxHeartbeats 4000000 in
theorem rSum_any (l : List Int) (A : Option Addr) (c : Nat) (hl : l.length ≤ 1000) (hb : ∀ x ∈ l, 0 ≤ x ∧ x ≤ 12) (w : World) (hI : IntsAt w w.heap.size A l) : Calls Try.prog 78 #[.slice A l.length c] w fun e w' => e = .returned (.int .i64 l.sum) ∧ w = w' := by
  have HI := Lib.hid hI
  have HBD := Lib.hid (fun k => sum_bd12 (l.take k) fun x hx => hb x (List.mem_of_mem_take hx))
  have HBX := Lib.hid hb
  clear hI hb
  go_enter Try.func78, Try.ntmps78
  go_wp2_with (fail)
  go_loop [3, 4] (fun v i => ∃ k : Nat, k ≤ l.length ∧ i = .int .i64 k ∧ v = .int .i64 (l.take k).sum) (fun _ i => l.length - (intOf i).toNat)
  case atStart => exact ⟨0, Nat.zero_le _, rfl, rfl⟩
  case round =>
    obtain ⟨k, hk, rfl, rfl⟩ := hrel
    by_cases hlt : k < l.length
    · obtain ⟨x, hx⟩ : ∃ x, l[k]? = some x := ⟨_, List.getElem?_eq_getElem hlt⟩
      obtain ⟨b1, o1, rfl, _, d1⟩ := HI.out.at_ hx
      obtain ⟨x0, x1⟩ := HBX.out x (List.mem_of_getElem? hx)
      have HN := Lib.hid (sum_next hx)
      obtain ⟨s0, s1⟩ := HBD.out k
      rw [List.length_take] at s1
      generalize hg : (l.take k).sum = y at HN s0 s1
      have hw : IntKind.i64.wrap (y + x) = y + x := IntWalk.i64_in _ (by omega)
      have hy0 : y + x ≤ 20000 := by omega
      clear hx hg s1
      as_aux_lemma =>
      go_wp2_with (fail)
      go_round
      case rel => exact ⟨k + 1, by omega, by go_num, by rw [HN.out]⟩
      case measure => simp [intOf]; omega
    · obtain rfl : k = l.length := by omega
      have HQ := Lib.hid (show (l.take l.length).sum = l.sum by rw [List.take_length])
      go_wp2_with (fail)
      go_ret
      exact ⟨by rw [← HQ.out]; rfl, rfl⟩
/-- Are they the parts of a truth? -/
def partsB (s : Sea) (p : List Int) : Bool := decide (p.length = s.ps.length) && (insideL s.ps p && decide (p.sum = 12))
theorem inside_iff : ∀ {ps : List (Int × Int)} {p : List Int}, p.length = ps.length → (insideL ps p = true ↔ ∀ (k : Nat) (v : Int) (x : Int × Int), p[k]? = some v → ps[k]? = some x → x.1 ≤ v ∧ v ≤ x.2) := fun {ps p} hl => by
  unfold insideL
  rw [List.all_eq_true]
  constructor
  · intro h k v x hv hx
    have := h (v, x) (List.mem_iff_getElem?.2 ⟨k, by rw [List.getElem?_zip_eq_some]; exact ⟨hv, hx⟩⟩)
    exact inR_true.1 this
  · intro h q hq
    obtain ⟨k, hk⟩ := List.mem_iff_getElem?.1 hq
    rw [List.getElem?_zip_eq_some] at hk
    exact inR_true.2 (h k q.1 q.2 hk.1 hk.2)
set_option maxRecDepth 100000 in
set_option maxHeartbeats 4000000 in
theorem areParts_any (L : SL) (s : Sea) (hS : SOK s) (p : List Int) (A : Option Addr) (cv : Nat) (hpl : p.length ≤ 1000) (w : World) (hH : SeaAt w w.heap.size L s) (hI : IntsAt w w.heap.size A p) : Calls Try.prog 30 #[L.enc s, .slice A p.length cv] w fun e w' => e = .returned (.bool (partsB s p)) ∧ Below w.heap.size w w' := by
  have hbw := al_below w (.cells #[.int .i64 s.wl, .int .i64 s.wh, .slice L.Ap s.ps.length L.cp, .slice L.Ab s.bs.length L.cb] 27)
  have HB := Lib.hid (SBox.new w L s)
  obtain ⟨c0, c1, c2, c3⟩ := (SBox.new w L s).cells
  obtain ⟨W0, hW0⟩ : ∃ W0, w.alloc (.cells #[.int .i64 s.wl, .int .i64 s.wh, .slice L.Ap s.ps.length L.cp, .slice L.Ab s.bs.length L.cb] 27) = W0 := ⟨_, rfl⟩
  rw [hW0] at hbw HB c0 c1 c2 c3
  have HBW := Lib.hid hbw
  have HW0 := Lib.hid hW0
  have HH := Lib.hid (hH.below hbw)
  have HI := Lib.hid (ints_later hI hbw)
  have hps := hS.pl
  have HS := Lib.hid hS
  clear hbw hW0 hH hI hS
  by_cases hlen : p.length = s.ps.length
  · have hd0 : ((p.length : Int) != (s.ps.length : Int)) = false := by simp [hlen]
    have HL := Lib.hid hlen
    have hlc : p.length < s.ps.length + 1 := by omega
    have hlc2 : s.ps.length ≤ p.length := by omega
    clear hlen
    obtain ⟨Ap, cp, Ab, cb⟩ := L
    go_enter Try.func30, Try.ntmps30
    go_upto_region 1 with (fail)
    have e := HW0.out
    rw [e]
    clear e
    go_wp2_with (fail)
    clear c0 c1 c2 c3
    go_loopw [5] (fun i wr => ∃ k : Nat, k ≤ p.length ∧ i = .int .i64 k ∧ Hid (∀ (j : Nat) (v : Int) (x : Int × Int), j < k → p[j]? = some v → s.ps[j]? = some x → x.1 ≤ v ∧ v ≤ x.2) ∧ Hid (Below W0.heap.size W0 wr)) (fun i _ => p.length - (intOf i).toNat)
    case atStart => exact ⟨0, Nat.zero_le _, rfl, Lib.hid (fun j v x hj => by omega), Lib.hid (Below.refl _ _)⟩
    case round =>
      obtain ⟨k, hk, rfl, hok, hb⟩ := hrel
      by_cases hlt : k < p.length
      · obtain ⟨v, hv⟩ : ∃ v, p[k]? = some v := ⟨_, List.getElem?_eq_getElem hlt⟩
        obtain ⟨x, hx⟩ : ∃ x, s.ps[k]? = some x := ⟨_, List.getElem?_eq_getElem (by omega)⟩
        obtain ⟨bi, oi, eA, blt, d1⟩ := HI.out.at_ hv
        obtain ⟨bb, ob, eB, blt2, d2, d3⟩ := HH.out.p.at_ hx
        simp only at eB
        obtain ⟨r0, r1, r2, r3⟩ := (HB.out.of (hb.out.block _ HB.out.lt)).cells
        rw [eB] at r2
        have ex1 := extB_cell (below_cell hb.out d1)
        have ex2 := extB_cell (below_cell hb.out d2)
        have ex3 := extB_cell (below_cell hb.out d3)
        have ex4 := extB_cell r2
        have HV := Lib.hid hv
        have HX := Lib.hid hx
        have hkp : k < s.ps.length := by omega
        subst eA
        clear hv hx d1 d2 d3 eB r0 r1 r2 r3
        obtain ⟨x1, x2⟩ := x
        simp only at ex2 ex3
        cases hr : inR v x1 x2
        · have H77 := Lib.hid (fun z => show Calls Try.prog 77 #[.int .i64 v, .int .i64 x1, .int .i64 x2] (extB wr z) fun e w' => e = .returned (.bool false) ∧ extB wr z = w' by
            have := rwithin_any v x1 x2 (extB wr z)
            rwa [hr] at this)
          have HF := Lib.hid (show partsB s p = false by
            unfold partsB
            cases hin : insideL s.ps p
            · simp
            · have h9 := inR_true.2 ((inside_iff HL.out).1 hin k v _ HV.out HX.out)
              simp only at h9
              rw [hr] at h9; cases h9)
          clear hr
          as_aux_lemma =>
          go_upto_region 6 with (fail)
          refine wp_region_extW (by kernel_rfl) (by kernel_rfl) ?_
          repeat (go_big_quiet_step ((go_at_call 77; exact ext_same (H77.out _))))
          refine wpQuiet_nil ?_
          rintro _ ⟨y1, rfl⟩
          have hb3 := hb0to hb.out (extB_below wr y1)
          go_wp2_with (fail)
          go_ret
          exact ⟨by rw [HF.out]; rfl, hb0to HBW.out hb3⟩
        · have H77 := Lib.hid (fun z => show Calls Try.prog 77 #[.int .i64 v, .int .i64 x1, .int .i64 x2] (extB wr z) fun e w' => e = .returned (.bool true) ∧ extB wr z = w' by
            have := rwithin_any v x1 x2 (extB wr z)
            rwa [hr] at this)
          have HN := Lib.hid (show ∀ (j : Nat) (v' : Int) (x' : Int × Int), j < k + 1 → p[j]? = some v' → s.ps[j]? = some x' → x'.1 ≤ v' ∧ v' ≤ x'.2 from fun j v' x' hj hv' hx' => by
            by_cases e : j = k
            · subst e
              rw [HV.out] at hv'
              rw [HX.out] at hx'
              cases hv'
              cases hx'
              exact inR_true.1 hr
            · exact hok.out j v' x' (by omega) hv' hx')
          clear hr
          as_aux_lemma =>
          go_upto_region 6 with (fail)
          refine wp_region_extW (by kernel_rfl) (by kernel_rfl) ?_
          repeat (go_big_quiet_step ((go_at_call 77; exact ext_same (H77.out _))))
          refine wpQuiet_nil ?_
          rintro _ ⟨y1, rfl⟩
          have hb3 := hb0to hb.out (extB_below wr y1)
          go_wp2_with (fail)
          go_roundw
          case rel => exact ⟨k + 1, by omega, by go_num, HN, Lib.hid hb3⟩
          case measure => simp [intOf]; omega
      · obtain rfl : k = p.length := by omega
        have hin : insideL s.ps p = true := (inside_iff HL.out).2 fun j v x hv hx => hok.out j v x (List.getElem?_eq_some_iff.1 hv).1 hv hx
        have hbd : ∀ x ∈ p, 0 ≤ x ∧ x ≤ 12 := fun v hv => by
          obtain ⟨j, hj⟩ := List.mem_iff_getElem?.1 hv
          obtain ⟨x, hx⟩ : ∃ x, s.ps[j]? = some x := ⟨_, List.getElem?_eq_getElem (by have := (List.getElem?_eq_some_iff.1 hj).1; have := HL.out; omega)⟩
          have h1 := (inside_iff HL.out).1 hin j v x hj hx
          have h2 := HS.out.p x (List.mem_of_getElem? hx)
          omega
        have H78 := Lib.hid (rSum_any p A cv hpl hbd wr (ints_later HI.out hb.out))
        have HQ := Lib.hid (show partsB s p = (p.sum == 12) by
          unfold partsB; rw [hin, decide_eq_true HL.out, Bool.true_and, Bool.true_and]; rfl)
        generalize p.sum = sm at H78 HQ
        clear hin hbd
        as_aux_lemma =>
        go_wp2_with (go_at_call 78; refine H78.out.mono ?_; rintro e w' ⟨rfl, rfl⟩)
        go_ret
        exact ⟨by rw [HQ.out]; rfl, hb0to HBW.out hb.out⟩
  · have hd0 : ((p.length : Int) != (s.ps.length : Int)) = true := by simp; omega
    have HF := Lib.hid (show partsB s p = false by unfold partsB; rw [decide_eq_false hlen]; rfl)
    clear hlen
    obtain ⟨Ap, cp, Ab, cb⟩ := L
    go_enter Try.func30, Try.ntmps30
    go_upto_region 1 with (fail)
    have e := HW0.out
    rw [e]
    clear e
    go_wp2_with (fail)
    go_ret
    exact ⟨by rw [HF.out]; rfl, HBW.out⟩
/-- The same at a guarded step. -/
theorem step_copyW {ops : Array Oper} {o : Oper} {a : Act} {w : World} {K : Act → World → Prop} {Q : Exit → Act → World → Prop} {E : Prop} (hw : Region.wanted o (yielded ops a.tmps) = true) (s x : Operand)
    (ho : o.op = .call { callee := .builtin .append, args := #[s, x], argTypes := #[28, 28] }) (n₀ : Nat) (v : Value) (l0 : List Int) (hs : a.eval s = v) (hown : Ints w n₀ v l0)
    (A : Option Addr) (c : Nat) (l : List Int) (m : Nat) (hm : l.length = m) (hA : A = none → c = 0 ∧ l = []) (hx : a.eval x = .slice A m c) (hI : IntsAt w w.heap.size A l) (hl0 : l0.length ≤ 1000) (hl : m ≤ 1000) (hn : n₀ ≤ w.heap.size)
    (h : ∀ v' w', Ints w' n₀ v' (l0 ++ l) → Below n₀ w w' → w.grownBy w' v.ownBlock → K (a.put o.dst v') w') :
    if Region.wanted o (yielded ops a.tmps) = true then Oper.wp Try.prog o a w K Q else E := by
  subst hm
  rw [if_pos hw]
  obtain ⟨i0, hi, hz0, hz1, hz2⟩ := info_parts info3'
  cases A with
  | none =>
    obtain ⟨rfl, rfl⟩ := hA rfl
    have hrun := run_append_owned_none (P := Try.prog) (w := w) n₀ 28 o.type 3 i0 1 Try.underlying28 hi v l0.length _ hown
    have hk := h v w (by rw [List.append_nil]; exact hown) (Below.refl _ _) ⟨rfl, rfl, rfl, Nat.le_refl _, fun _ _ _ => rfl⟩
    unfold Oper.wp
    simp [execOp, ho, resolve, invoke, builtin, hs, hx, hrun, Result.andThen]
    exact hk
  | some ad =>
    refine wp_append_own w s x 28 ho n₀ 3 i0 (.int .i64 0) 1 8 Try.underlying28 hi hz0 hz1 hz2 rfl (by decide) v l0.length _ hs hown ad l.length c (l.map (.int .i64)) hx (by simp) (ints_news hI) (ints_one l) ?_ ?_ hn ?_
    · unfold maxLen; omega
    · omega
    · intro v' w' h2 h3 _
      refine h v' w' ?_ (own_below hown h3 hn (Nat.le_refl _)) h3
      unfold Ints
      rw [List.length_append, List.map_append]
      exact h2
theorem crewB_len {s : Sea} {c : List Int} (h : c.length ≠ s.ps.length) : crewB s c = false := by
  unfold crewB; rw [decide_eq_false h]; simp
theorem ints_take {W : World} {B : Nat} {A : Option Addr} {l : List Int} (h : IntsAt W B A l) (k : Nat) : IntsAt W B A (l.take k) := by
  rcases h with rfl | ⟨b, off, e, h1, h2⟩
  · exact .inl (by simp)
  · refine .inr ⟨b, off, e, h1, fun i x hx => h2 i x ?_⟩
    rw [List.getElem?_take] at hx
    split at hx
    · exact hx
    · cases hx
theorem slice_to (b off n d k : Nat) (hk : k < d) : ∀ W, (Instr.slice 28 (.slice (some ⟨b, off, none⟩) n d) none (some (.int .i64 k)) none).run Try.prog W = .ok (.slice (some ⟨b, off, none⟩) k d) W := fun W => by
  have h : k ≤ d := by omega
  have h0 : ¬ d = 0 := by omega
  simp [Instr.slice, Instr.sliceBounds, Instr.sliceBound, go_sem, h]
set_option maxRecDepth 100000 in
set_option maxHeartbeats 4000000 in
theorem rIsCrew_any (L : SL) (s : Sea) (hS : SOK s) (c : List Int) (A : Option Addr) (cv : Nat) (hcl : c.length ≤ 1000) (hcv : c.length ≤ cv) (w : World) (hH : SeaAt w w.heap.size L s) (hI : IntsAt w w.heap.size A c) : Calls Try.prog 25 #[L.enc s, .slice A c.length cv] w fun e w' => e = .returned (.bool (crewB s c)) ∧ Below w.heap.size w w' := by
  have hbw := al_below w (.cells #[.int .i64 s.wl, .int .i64 s.wh, .slice L.Ap s.ps.length L.cp, .slice L.Ab s.bs.length L.cb] 27)
  have HB := Lib.hid (SBox.new w L s)
  obtain ⟨c0, c1, c2, c3⟩ := (SBox.new w L s).cells
  obtain ⟨W0, hW0⟩ : ∃ W0, w.alloc (.cells #[.int .i64 s.wl, .int .i64 s.wh, .slice L.Ap s.ps.length L.cp, .slice L.Ab s.bs.length L.cb] 27) = W0 := ⟨_, rfl⟩
  rw [hW0] at hbw HB c0 c1 c2 c3
  have HBW := Lib.hid hbw
  have HW0 := Lib.hid hW0
  have HH := Lib.hid (hH.below hbw)
  have HI := Lib.hid (ints_later hI hbw)
  have hpl := hS.pl
  have hbl := hS.bl
  clear hbw hW0 hH hI hS
  by_cases hlen : c.length = s.ps.length
  · have hd0 : ((c.length : Int) != (s.ps.length : Int)) = false := by simp [hlen]
    have HL := Lib.hid hlen
    clear hlen
    obtain ⟨Ap, cp, Ab, cb⟩ := L
    go_enter Try.func25, Try.ntmps25
    go_upto_region 1 with (fail)
    have e := HW0.out
    rw [e]
    clear e
    go_wp2_with (fail)
    clear c0 c1 c2 c3
    go_loopw [5] (fun i wr => ∃ k : Nat, k ≤ c.length ∧ i = .int .i64 k ∧ Hid (((c.take k).all fun x => inR x 0 ((s.bs.length : Int) - 1)) = true ∧ (c.take k).Nodup) ∧ Hid (Below W0.heap.size W0 wr)) (fun i _ => c.length - (intOf i).toNat)
    case atStart => exact ⟨0, Nat.zero_le _, rfl, Lib.hid ⟨rfl, by simp⟩, Lib.hid (Below.refl _ _)⟩
    case round =>
      obtain ⟨k, hk, rfl, hok, hb⟩ := hrel
      by_cases hlt : k < c.length
      · obtain ⟨x, hx⟩ : ∃ x, c[k]? = some x := ⟨_, List.getElem?_eq_getElem hlt⟩
        obtain ⟨bi, oi, eA, blt, d1⟩ := HI.out.at_ hx
        have f1 := below_cell hb.out d1
        obtain ⟨r0, r1, r2, r3⟩ := (HB.out.of (hb.out.block _ HB.out.lt)).cells
        have HX := Lib.hid hx
        subst eA
        clear hx d1
        have H64 := Lib.hid (fun W => rIsBoat_any ⟨Ap, cp, Ab, cb⟩ s x W (by omega))
        cases hr : inR x 0 ((s.bs.length : Int) - 1)
        · rw [hr] at H64
          have HF := Lib.hid (show crewB s c = false by
            unfold crewB
            rw [show (c.all fun x => inR x 0 ((s.bs.length : Int) - 1)) = false from List.all_eq_false.2 ⟨x, List.mem_of_getElem? HX.out, by simp [hr]⟩]
            rfl)
          have ex0 := extB_cell f1
          have ex1 := extB_cell r0
          have ex2 := extB_cell r1
          have ex3 := extB_cell r2
          have ex4 := extB_cell r3
          clear hr r0 r1 r2 r3 f1
          as_aux_lemma =>
          go_upto_region 6 with (fail)
          refine wp_region_extW (by kernel_rfl) (by kernel_rfl) ?_
          repeat (go_big_quiet_step ((go_at_call 64; exact ext_call (H64.out _))))
          refine wpQuiet_nil ?_
          rintro _ ⟨y1, rfl⟩
          have hb3 := hb0to hb.out (extB_below wr y1)
          go_wp2_with (fail)
          go_ret
          exact ⟨by rw [HF.out]; rfl, hb0to HBW.out hb3⟩
        · rw [hr] at H64
          have hsl := slice_to bi oi c.length cv k (by omega)
          have hkl : (c.take k).length = k := by rw [List.length_take]; omega
          have H65 := Lib.hid (fun A2 c2 W hI => rIn_any (c.take k) (by rw [hkl]; omega) x A2 c2 W hI)
          rw [hkl] at H65
          have HTI := Lib.hid (fun W (hbw2 : Below wr.heap.size wr W) => ints_take (ints_later (ints_later HI.out hb.out) hbw2) k)
          have HKL := Lib.hid hkl
          have hk0 : (0 : Int) ≤ k := by omega
          have hk1 : (k : Int) < c.length := by omega
          have hkc : (k : Int) ≤ cv := by omega
          have hcvn : c.length ≤ cv := hcv
          have key : ∀ b, decide (x ∈ c.take k) = b → (b = true → crewB s c = false) ∧ (b = false → ((c.take (k + 1)).all fun x => inR x 0 ((s.bs.length : Int) - 1)) = true ∧ (c.take (k + 1)).Nodup) := by
            rintro b hb
            have ht : c.take (k + 1) = c.take k ++ [x] := by rw [List.take_add_one, HX.out]; rfl
            constructor
            · rintro rfl
              have hm : x ∈ c.take k := by simpa using hb
              unfold crewB
              rw [show decide c.Nodup = false from decide_eq_false fun hn => by
                have h2 := hn.sublist (List.take_sublist (k + 1) c)
                rw [ht, List.nodup_append] at h2
                exact h2.2.2 x hm x (by simp) rfl]
              simp
            · rintro rfl
              have hm : ¬ x ∈ c.take k := by simpa using hb
              rw [ht]
              refine ⟨by rw [List.all_append, hok.out.1]; simp [hr], ?_⟩
              rw [List.nodup_append]
              refine ⟨hok.out.2, by simp, fun y hy z hz => ?_⟩
              simp only [List.mem_singleton] at hz
              subst hz
              exact fun e => hm (e ▸ hy)
          cases hin : decide (x ∈ c.take k)
          all_goals
            first
              | have HK1 := Lib.hid ((key _ hin).1 rfl)
              | have HK2 := Lib.hid ((key _ hin).2 rfl)
            rw [hin] at H65
            clear key hin hr hkl
            as_aux_lemma =>
            go_upto_region 6 with (fail)
            go_region_held3 (fun w' => w'.cell? ⟨w.heap.size, 0, none⟩ = some (.int .i64 s.wl) ∧ w'.cell? ⟨w.heap.size, 1, none⟩ = some (.int .i64 s.wh) ∧ w'.cell? ⟨w.heap.size, 2, none⟩ = some (.slice Ap s.ps.length cp) ∧ w'.cell? ⟨w.heap.size, 3, none⟩ = some (.slice Ab s.bs.length cb) ∧ w'.cell? ⟨bi, oi + k, none⟩ = some (.int .i64 x)) (first | go_keep)
              (first
                | (go_at_call 64; refine (H64.out _).mono ?_; rintro e w1 ⟨rfl, hb1⟩; have hk1' : Below wr.heap.size wr w1 := hb0to (drew_below wr) hb1; have B1 := Lib.hid hk1'; obtain ⟨s0, s1, s2, s3⟩ := (HB.out.of ((hb0to hb.out hk1').block _ HB.out.lt)).cells; have g1 := below_cell hk1' f1; clear hb1 hk1')
                | (refine step_copyW (by rfl) (.tmp 26) (.tmp 29) (by rfl) w1.heap.size _ [] (by rfl) (ints_made w1 w1.heap.size (Nat.le_refl _)) (some ⟨bi, oi, none⟩) cv (c.take k) k HKL.out (fun h => by cases h) (by rfl) (HTI.out _ (hb0to B1.out (al_below w1 _))) (by simp) (by omega) (by simp) ?_; intro v2 w2 h1 h2 h3; have hk2 : Below w1.heap.size w1 w2 := (al_below w1 _).trans h2; have B2 := Lib.hid (hb0to B1.out hk2); obtain ⟨t0, t1, t2, t3⟩ := (HB.out.of ((hb0to hb.out B2.out).block _ HB.out.lt)).cells; have g2 := below_cell B2.out f1; obtain ⟨A2, c2, rfl, -, -, hA2⟩ := (show Ints w2 w1.heap.size v2 (c.take k) from h1).lay; rw [HKL.out]; have I2 := Lib.hid hA2.at_; clear h1 h2 h3 hk2 hA2)
                | (go_at_call 65; refine (H65.out A2 c2 w2 I2.out).mono ?_; rintro e w3 ⟨rfl, hb3⟩; have B3 := Lib.hid (hb0to B2.out hb3); obtain ⟨u0, u1, u2, u3⟩ := (HB.out.of ((hb0to hb.out B3.out).block _ HB.out.lt)).cells; have g3 := below_cell B3.out f1; clear hb3))
            all_goals
              go_wp2_with (fail)
              first
                | (go_ret; exact ⟨by rw [HK1.out]; rfl, hb0to HBW.out (hb0to hb.out B3.out)⟩)
                | (go_roundw
                   case rel => exact ⟨k + 1, by omega, by go_num, HK2, Lib.hid (hb0to hb.out B3.out)⟩
                   case measure => simp [intOf]; omega)
      · obtain rfl : k = c.length := by omega
        have HF := Lib.hid (show crewB s c = true by
          have := hok.out
          rw [List.take_length] at this
          unfold crewB
          rw [this.1, decide_eq_true HL.out, decide_eq_true this.2]; rfl)
        as_aux_lemma =>
        go_wp2_with (fail)
        go_ret
        exact ⟨by rw [HF.out]; rfl, hb0to HBW.out hb.out⟩
  · have hd0 : ((c.length : Int) != (s.ps.length : Int)) = true := by simp; omega
    have HF := Lib.hid (crewB_len hlen)
    clear hlen
    obtain ⟨Ap, cp, Ab, cb⟩ := L
    go_enter Try.func25, Try.ntmps25
    go_upto_region 1 with (fail)
    have e := HW0.out
    rw [e]
    clear e
    go_wp2_with (fail)
    go_ret
    exact ⟨by rw [HF.out]; rfl, HBW.out⟩
set_option maxRecDepth 100000 in
set_option maxHeartbeats 4000000 in
theorem rCost_any (L : SL) (s : Sea) (hS : SOK s) (c : List Int) (A : Option Addr) (cv : Nat) (hcl : c.length ≤ 1000) (hc : ∀ x ∈ c, 0 ≤ x ∧ x < s.bs.length) (w : World) (hH : SeaAt w w.heap.size L s) (hI : IntsAt w w.heap.size A c) : Calls Try.prog 35 #[L.enc s, .slice A c.length cv] w fun e w' => e = .returned (.int .i64 (costS s c)) ∧ Below w.heap.size w w' := by
  have hbw := al_below w (.cells #[.int .i64 s.wl, .int .i64 s.wh, .slice L.Ap s.ps.length L.cp, .slice L.Ab s.bs.length L.cb] 27)
  have HB := Lib.hid (SBox.new w L s)
  obtain ⟨c0, c1, c2, c3⟩ := (SBox.new w L s).cells
  obtain ⟨W0, hW0⟩ : ∃ W0, w.alloc (.cells #[.int .i64 s.wl, .int .i64 s.wh, .slice L.Ap s.ps.length L.cp, .slice L.Ab s.bs.length L.cb] 27) = W0 := ⟨_, rfl⟩
  rw [hW0] at hbw HB c0 c1 c2 c3
  have HBW := Lib.hid hbw
  have HW0 := Lib.hid hW0
  have HH := Lib.hid (hH.below hbw)
  have HI := Lib.hid (ints_later hI hbw)
  have hbl := hS.bl
  have HS := Lib.hid hS
  have HC := Lib.hid hc
  clear hbw hW0 hH hI hS hc
  obtain ⟨Ap, cp, Ab, cb⟩ := L
  go_enter Try.func35, Try.ntmps35
  go_upto_region 1 with (fail)
  have e := HW0.out
  rw [e]
  clear e
  go_wp2_with (fail)
  clear c0 c1 c2 c3
  go_loopw [5, 6] (fun v i wr => ∃ (k : Nat) (y : Int), k ≤ c.length ∧ i = .int .i64 k ∧ v = .int .i64 y ∧ 0 ≤ y ∧ y ≤ 99 * k ∧ Hid (y = costTo s c k) ∧ Hid (Below W0.heap.size W0 wr)) (fun _ i _ => c.length - (intOf i).toNat)
  case atStart => exact ⟨0, 0, Nat.zero_le _, rfl, rfl, by omega, by omega, Lib.hid rfl, Lib.hid (Below.refl _ _)⟩
  case round =>
    obtain ⟨k, y, hk, rfl, rfl, y0, y1, hY, hb⟩ := hrel
    by_cases hlt : k < c.length
    · obtain ⟨j, hj⟩ : ∃ j, c[k]? = some j := ⟨_, List.getElem?_eq_getElem hlt⟩
      obtain ⟨j0, j1⟩ := HC.out j (List.mem_of_getElem? hj)
      obtain ⟨jn, rfl⟩ : ∃ jn : Nat, j = jn := ⟨j.toNat, by omega⟩
      obtain ⟨z, hz, _, _, z2, z3⟩ := boat_at HS.out (show jn < s.bs.length by omega)
      obtain ⟨bi, oi, eA, blt, d1⟩ := HI.out.at_ hj
      obtain ⟨bb, ob, eB, blt2, _, d2⟩ := HH.out.b.at_ hz
      simp only at eB
      have HN := Lib.hid (show y + z.2 = costTo s c (k + 1) by rw [costTo_next hj, ← hY.out, Int.toNat_natCast, (boat_eq hz).2])
      obtain ⟨r0, r1, r2, r3⟩ := (HB.out.of (hb.out.block _ HB.out.lt)).cells
      rw [eB] at r3
      have ex1 := extB_cell (below_cell hb.out d1)
      have ex2 := extB_cell (below_cell hb.out d2)
      have ex3 := extB_cell r3
      have hj1 : jn < s.bs.length := by omega
      have hw1 : IntKind.i64.wrap (y + z.2) = y + z.2 := IntWalk.i64_in _ (by omega)
      subst eA
      clear hj hz eB d1 d2 r0 r1 r2 r3
      obtain ⟨x1, x2⟩ := z
      simp only at ex2 hw1 z2 z3 HN
      as_aux_lemma =>
      go_upto_region 5 with (fail)
      refine wp_region_extW (by kernel_rfl) (by kernel_rfl) ?_
      repeat (go_big_quiet_step (fail))
      refine wpQuiet_nil ?_
      rintro _ ⟨q1, rfl⟩
      have hb3 := hb0to hb.out (extB_below wr q1)
      go_wp2_with (fail)
      go_roundw
      case rel => exact ⟨k + 1, y + x2, by omega, by go_num, rfl, by omega, by omega, HN, Lib.hid hb3⟩
      case measure => simp [intOf]; omega
    · obtain rfl : k = c.length := by omega
      as_aux_lemma =>
      go_wp2_with (fail)
      go_ret
      exact ⟨by rw [hY.out]; rfl, hb0to HBW.out hb.out⟩
/-- Can each boat of a crew carry what is needed? -/
def fitsB (s : Sea) (c ks : List Int) : Bool := (c.zip ks).all fun p => decide (p.2 ≤ carryN s p.1.toNat)
theorem fits_zip {c ks : List Int} {k : Nat} {x y : Int} (hx : c[k]? = some x) (hy : ks[k]? = some y) : (c.zip ks)[k]? = some (x, y) := by
  rw [List.getElem?_zip_eq_some]; exact ⟨hx, hy⟩
theorem fits_safe {s : Sea} {c : List Int} (hc : c.length = s.ps.length) : fitsB s c (needsL s) = safeC s c := by
  unfold fitsB safeC
  rw [Bool.eq_iff_iff, List.all_eq_true, List.all_eq_true]
  constructor
  · intro h p hp
    obtain ⟨k, hk⟩ := List.mem_iff_getElem?.1 hp
    rw [List.getElem?_zipIdx] at hk
    cases hj : c[k]? with
    | none => rw [hj] at hk; simp at hk
    | some j =>
      rw [hj] at hk
      simp only [Option.map_some, Option.some.injEq, Nat.zero_add] at hk
      subst hk
      have hkl := (List.getElem?_eq_some_iff.1 hj).1
      exact h (j, needN s k) (List.mem_of_getElem? (fits_zip hj (needsL_at (by omega))))
  · intro h p hp
    obtain ⟨k, hk⟩ := List.mem_iff_getElem?.1 hp
    rw [List.getElem?_zip_eq_some] at hk
    have hkl := (List.getElem?_eq_some_iff.1 hk.1).1
    have h2 := needsL_at (s := s) (k := k) (by omega)
    rw [hk.2] at h2
    have h3 := h (p.1, k) (List.mem_iff_getElem?.2 ⟨k, by rw [List.getElem?_zipIdx, hk.1]; simp⟩)
    rw [Option.some.inj h2]
    exact h3
set_option maxRecDepth 100000 in
set_option maxHeartbeats 4000000 in
theorem rFits_any (L : SL) (s : Sea) (hS : SOK s) (c ks : List Int) (A B : Option Addr) (cv cw : Nat) (_ : c.length ≤ 1000) (hkl : c.length ≤ ks.length) (hk1000 : ks.length ≤ 1000) (hc : ∀ x ∈ c, 0 ≤ x ∧ x < s.bs.length) (w : World) (hH : SeaAt w w.heap.size L s) (hI : IntsAt w w.heap.size A c) (hJ : IntsAt w w.heap.size B ks) : Calls Try.prog 29 #[L.enc s, .slice A c.length cv, .slice B ks.length cw] w fun e w' => e = .returned (.bool (fitsB s c ks)) ∧ Below w.heap.size w w' := by
  have hbw := al_below w (.cells #[.int .i64 s.wl, .int .i64 s.wh, .slice L.Ap s.ps.length L.cp, .slice L.Ab s.bs.length L.cb] 27)
  have HB := Lib.hid (SBox.new w L s)
  obtain ⟨c0, c1, c2, c3⟩ := (SBox.new w L s).cells
  obtain ⟨W0, hW0⟩ : ∃ W0, w.alloc (.cells #[.int .i64 s.wl, .int .i64 s.wh, .slice L.Ap s.ps.length L.cp, .slice L.Ab s.bs.length L.cb] 27) = W0 := ⟨_, rfl⟩
  rw [hW0] at hbw HB c0 c1 c2 c3
  have HBW := Lib.hid hbw
  have HW0 := Lib.hid hW0
  have HH := Lib.hid (hH.below hbw)
  have HI := Lib.hid (ints_later hI hbw)
  have HJ := Lib.hid (ints_later hJ hbw)
  have hbl := hS.bl
  have HS := Lib.hid hS
  have HC := Lib.hid hc
  clear hbw hW0 hH hI hJ hS hc
  obtain ⟨Ap, cp, Ab, cb⟩ := L
  go_enter Try.func29, Try.ntmps29
  go_upto_region 1 with (fail)
  have e := HW0.out
  rw [e]
  clear e
  go_wp2_with (fail)
  clear c0 c1 c2 c3
  go_loopw [7] (fun i wr => ∃ k : Nat, k ≤ c.length ∧ i = .int .i64 k ∧ Hid (((c.zip ks).take k).all (fun p => decide (p.2 ≤ carryN s p.1.toNat)) = true) ∧ Hid (Below W0.heap.size W0 wr)) (fun i _ => c.length - (intOf i).toNat)
  case atStart => exact ⟨0, Nat.zero_le _, rfl, Lib.hid rfl, Lib.hid (Below.refl _ _)⟩
  case round =>
    obtain ⟨k, hk, rfl, hok, hb⟩ := hrel
    by_cases hlt : k < c.length
    · obtain ⟨j, hj⟩ : ∃ j, c[k]? = some j := ⟨_, List.getElem?_eq_getElem hlt⟩
      obtain ⟨y, hy⟩ : ∃ y, ks[k]? = some y := ⟨_, List.getElem?_eq_getElem (by omega)⟩
      obtain ⟨j0, j1⟩ := HC.out j (List.mem_of_getElem? hj)
      obtain ⟨jn, rfl⟩ : ∃ jn : Nat, j = jn := ⟨j.toNat, by omega⟩
      obtain ⟨z, hz, _, _, _, _⟩ := boat_at HS.out (show jn < s.bs.length by omega)
      obtain ⟨bi, oi, eA, blt, d1⟩ := HI.out.at_ hj
      obtain ⟨bk, ok, eK, blt3, d4⟩ := HJ.out.at_ hy
      obtain ⟨bb, ob, eB, blt2, d2, _⟩ := HH.out.b.at_ hz
      simp only at eB
      have HZ := Lib.hid (fits_zip hj hy)
      have hcx := (boat_eq hz).1
      obtain ⟨r0, r1, r2, r3⟩ := (HB.out.of (hb.out.block _ HB.out.lt)).cells
      rw [eB] at r3
      have ex1 := extB_cell (below_cell hb.out d1)
      have ex2 := extB_cell (below_cell hb.out d2)
      have ex3 := extB_cell r3
      have ex4 := extB_cell (below_cell hb.out d4)
      have hj1 : jn < s.bs.length := by omega
      have hkk : k < ks.length := by omega
      obtain ⟨x1, x2⟩ := z
      simp only at ex2 hcx
      have HZA := Lib.hid (show ((c.zip ks).take (k + 1)).all (fun p => decide (p.2 ≤ carryN s p.1.toNat)) = decide (y ≤ x1) by
        rw [List.take_add_one, HZ.out, List.all_append, hok.out]; simp [hcx])
      have HM := Lib.hid (show decide (y ≤ x1) = false → fitsB s c ks = false by
        intro h
        unfold fitsB
        rw [List.all_eq_false]
        refine ⟨_, List.mem_of_getElem? HZ.out, ?_⟩
        simp only [Int.toNat_natCast, hcx, h]; simp)
      subst eA eK
      clear hj hy hz eB d1 d2 d4 r0 r1 r2 r3 hcx
      by_cases hlt2 : x1 < y
      · have hdl : decide (x1 < y) = true := decide_eq_true hlt2
        have HF := Lib.hid (HM.out (decide_eq_false (by omega)))
        as_aux_lemma =>
        go_upto_region 4 with (fail)
        refine wp_region_extW (by kernel_rfl) (by kernel_rfl) ?_
        repeat (go_big_quiet_step (fail))
        refine wpQuiet_nil ?_
        rintro _ ⟨q1, rfl⟩
        have hb3 := hb0to hb.out (extB_below wr q1)
        go_wp2_with (fail)
        go_ret
        exact ⟨by rw [HF.out]; rfl, hb0to HBW.out hb3⟩
      · have hdl : decide (x1 < y) = false := decide_eq_false hlt2
        have HF := Lib.hid (HZA.out.trans (decide_eq_true (by omega)))
        as_aux_lemma =>
        go_upto_region 4 with (fail)
        refine wp_region_extW (by kernel_rfl) (by kernel_rfl) ?_
        repeat (go_big_quiet_step (fail))
        refine wpQuiet_nil ?_
        rintro _ ⟨q1, rfl⟩
        have hb3 := hb0to hb.out (extB_below wr q1)
        go_wp2_with (fail)
        go_roundw
        case rel => exact ⟨k + 1, by omega, by go_num, HF, Lib.hid hb3⟩
        case measure => simp [intOf]; omega
    · obtain rfl : k = c.length := by omega
      have HF := Lib.hid (show fitsB s c ks = true by
        have := hok.out
        rw [List.take_of_length_le (by rw [List.length_zip]; omega)] at this
        exact this)
      as_aux_lemma =>
      go_wp2_with (fail)
      go_ret
      exact ⟨by rw [HF.out]; rfl, hb0to HBW.out hb.out⟩
/-- Is some boat of a crew over its load? -/
def overB (s : Sea) (c : List Int) (n : Int) (p : List Int) : Bool := (c.zip p).any fun q => decide (12 * carryN s q.1.toNat < n * q.2)
set_option maxRecDepth 100000 in
set_option maxHeartbeats 4000000 in
theorem rOver_any (L : SL) (s : Sea) (hS : SOK s) (c p : List Int) (n : Int) (A B : Option Addr) (cv cw : Nat) (_ : c.length ≤ 1000) (hkl : c.length ≤ p.length) (hk1000 : p.length ≤ 1000) (hc : ∀ x ∈ c, 0 ≤ x ∧ x < s.bs.length) (hn : 0 ≤ n ∧ n ≤ 2001) (hp : ∀ x ∈ p, 0 ≤ x ∧ x ≤ 12) (w : World) (hH : SeaAt w w.heap.size L s) (hI : IntsAt w w.heap.size A c) (hJ : IntsAt w w.heap.size B p) : Calls Try.prog 31 #[L.enc s, .slice A c.length cv, .int .i64 n, .slice B p.length cw] w fun e w' => e = .returned (.bool (overB s c n p)) ∧ Below w.heap.size w w' := by
  have hbw := al_below w (.cells #[.int .i64 s.wl, .int .i64 s.wh, .slice L.Ap s.ps.length L.cp, .slice L.Ab s.bs.length L.cb] 27)
  have HB := Lib.hid (SBox.new w L s)
  obtain ⟨c0, c1, c2, c3⟩ := (SBox.new w L s).cells
  obtain ⟨W0, hW0⟩ : ∃ W0, w.alloc (.cells #[.int .i64 s.wl, .int .i64 s.wh, .slice L.Ap s.ps.length L.cp, .slice L.Ab s.bs.length L.cb] 27) = W0 := ⟨_, rfl⟩
  rw [hW0] at hbw HB c0 c1 c2 c3
  have HBW := Lib.hid hbw
  have HW0 := Lib.hid hW0
  have HH := Lib.hid (hH.below hbw)
  have HI := Lib.hid (ints_later hI hbw)
  have HJ := Lib.hid (ints_later hJ hbw)
  have hbl := hS.bl
  have HS := Lib.hid hS
  have HC := Lib.hid hc
  have HP := Lib.hid hp
  obtain ⟨n0, n1⟩ := hn
  clear hbw hW0 hH hI hJ hS hc hp
  obtain ⟨Ap, cp, Ab, cb⟩ := L
  go_enter Try.func31, Try.ntmps31
  go_upto_region 1 with (fail)
  have e := HW0.out
  rw [e]
  clear e
  go_wp2_with (fail)
  clear c0 c1 c2 c3
  go_loopw [9] (fun i wr => ∃ k : Nat, k ≤ c.length ∧ i = .int .i64 k ∧ Hid (((c.zip p).take k).any (fun q => decide (12 * carryN s q.1.toNat < n * q.2)) = false) ∧ Hid (Below W0.heap.size W0 wr)) (fun i _ => c.length - (intOf i).toNat)
  case atStart => exact ⟨0, Nat.zero_le _, rfl, Lib.hid rfl, Lib.hid (Below.refl _ _)⟩
  case round =>
    obtain ⟨k, hk, rfl, hok, hb⟩ := hrel
    by_cases hlt : k < c.length
    · obtain ⟨j, hj⟩ : ∃ j, c[k]? = some j := ⟨_, List.getElem?_eq_getElem hlt⟩
      obtain ⟨y, hy⟩ : ∃ y, p[k]? = some y := ⟨_, List.getElem?_eq_getElem (by omega)⟩
      obtain ⟨j0, j1⟩ := HC.out j (List.mem_of_getElem? hj)
      obtain ⟨y0, y1⟩ := HP.out y (List.mem_of_getElem? hy)
      obtain ⟨jn, rfl⟩ : ∃ jn : Nat, j = jn := ⟨j.toNat, by omega⟩
      obtain ⟨z, hz, z0, z1, _, _⟩ := boat_at HS.out (show jn < s.bs.length by omega)
      obtain ⟨bi, oi, eA, blt, d1⟩ := HI.out.at_ hj
      obtain ⟨bk, ok, eK, blt3, d4⟩ := HJ.out.at_ hy
      obtain ⟨bb, ob, eB, blt2, d2, _⟩ := HH.out.b.at_ hz
      simp only at eB
      have HZ := Lib.hid (fits_zip hj hy)
      have hcx := (boat_eq hz).1
      obtain ⟨r0, r1, r2, r3⟩ := (HB.out.of (hb.out.block _ HB.out.lt)).cells
      rw [eB] at r3
      have ex1 := extB_cell (below_cell hb.out d1)
      have ex2 := extB_cell (below_cell hb.out d2)
      have ex3 := extB_cell r3
      have ex4 := extB_cell (below_cell hb.out d4)
      have hj1 : jn < s.bs.length := by omega
      have hkk : k < p.length := by omega
      obtain ⟨x1, x2⟩ := z
      simp only at ex2 hcx z0 z1
      have hm0 : 0 ≤ n * y := Int.mul_nonneg n0 y0
      have hm1 : n * y ≤ 2001 * 12 := Int.mul_le_mul n1 y1 y0 (by omega)
      have hw1 : IntKind.i64.wrap (n * y) = n * y := IntWalk.i64_in _ (by omega)
      have hw2 : IntKind.i64.wrap (12 * x1) = 12 * x1 := IntWalk.i64_in _ (by omega)
      have HZA := Lib.hid (show ((c.zip p).take (k + 1)).any (fun q => decide (12 * carryN s q.1.toNat < n * q.2)) = decide (12 * x1 < n * y) by
        rw [List.take_add_one, HZ.out, List.any_append, hok.out]; simp [hcx])
      have HM := Lib.hid (show decide (12 * x1 < n * y) = true → overB s c n p = true by
        intro h
        unfold overB
        rw [List.any_eq_true]
        refine ⟨_, List.mem_of_getElem? HZ.out, ?_⟩
        simp only [Int.toNat_natCast, hcx, h])
      subst eA eK
      clear hj hy hz eB d1 d2 d4 r0 r1 r2 r3 hcx
      by_cases hlt2 : 12 * x1 < n * y
      · have hdl : decide (12 * x1 < n * y) = true := decide_eq_true hlt2
        have HF := Lib.hid (HM.out hdl)
        clear hm0 hm1
        as_aux_lemma =>
        go_upto_region 4 with (fail)
        refine wp_region_extW (by kernel_rfl) (by kernel_rfl) ?_
        repeat (go_big_quiet_step (fail))
        refine wpQuiet_nil ?_
        rintro _ ⟨q1, rfl⟩
        have hb3 := hb0to hb.out (extB_below wr q1)
        go_wp2_with (fail)
        go_ret
        exact ⟨by rw [HF.out]; rfl, hb0to HBW.out hb3⟩
      · have hdl : decide (12 * x1 < n * y) = false := decide_eq_false hlt2
        have HF := Lib.hid (HZA.out.trans hdl)
        clear hm0 hm1
        as_aux_lemma =>
        go_upto_region 4 with (fail)
        refine wp_region_extW (by kernel_rfl) (by kernel_rfl) ?_
        repeat (go_big_quiet_step (fail))
        refine wpQuiet_nil ?_
        rintro _ ⟨q1, rfl⟩
        have hb3 := hb0to hb.out (extB_below wr q1)
        go_wp2_with (fail)
        go_roundw
        case rel => exact ⟨k + 1, by omega, by go_num, HF, Lib.hid hb3⟩
        case measure => simp [intOf]; omega
    · obtain rfl : k = c.length := by omega
      have HF := Lib.hid (show overB s c n p = false by
        have := hok.out
        rw [List.take_of_length_le (by rw [List.length_zip]; omega)] at this
        exact this)
      as_aux_lemma =>
      go_wp2_with (fail)
      go_ret
      exact ⟨by rw [HF.out]; rfl, hb0to HBW.out hb.out⟩
end Go.Proofs.Ytgjpllmmpclgaaa
