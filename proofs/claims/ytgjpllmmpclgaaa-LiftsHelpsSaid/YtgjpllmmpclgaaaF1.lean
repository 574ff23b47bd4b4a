import Derived.Test.YtgjpllmmpclgaaaE8
namespace Go.Proofs.Ytgjpllmmpclgaaa
open Go.RowKit

/-! Lifts in plain words: how great Most and Cheap are. -/
theorem pigeon : ∀ (nb : Nat) (c : List Int), c.Nodup → (∀ x ∈ c, 0 ≤ x ∧ x < nb) → c.length ≤ nb
  | 0, c, _, h => by
    cases c with
    | nil => simp
    | cons x c => have := h x (by simp); omega
  | nb + 1, c, hn, h => by
    have hb : ∀ x ∈ c.erase (nb : Int), 0 ≤ x ∧ x < nb := fun x hx => by
      have h1 := (hn.mem_erase_iff).1 hx
      have := h x h1.2
      have := h1.1
      omega
    have ih := pigeon nb (c.erase (nb : Int)) (hn.erase _) hb
    by_cases hm : (nb : Int) ∈ c
    · rw [List.length_erase_of_mem hm] at ih; omega
    · rw [List.erase_of_not_mem hm] at ih; omega
theorem minN_le (l : List Int) : minN l ≤ 2000 := by
  have : ∀ (l : List Int) (i : Int), l.foldl min i ≤ i := fun l => by
    induction l with
    | nil => intro i; exact Int.le_refl _
    | cons y l ih => intro i; rw [List.foldl_cons]; have := ih (min i y); omega
  exact this l 2000
theorem lift_bd {s : Sea} (hS : SOK s) {c : List Int} (hc : CrewOf s.bs.length s.ps.length c) : 0 ≤ liftS s c ∧ liftS s c ≤ 2000 := by
  refine ⟨(le_minN (by omega) _).2 fun x hx => ?_, minN_le _⟩
  unfold heldL at hx
  obtain ⟨p, hp, rfl⟩ := List.mem_map.1 hx
  obtain ⟨k, hk⟩ := List.mem_iff_getElem?.1 hp
  rw [List.getElem?_zipIdx] at hk
  cases hj : c[k]? with
  | none => rw [hj] at hk; simp at hk
  | some j =>
    rw [hj] at hk
    simp only [Option.map_some, Option.some.injEq, Nat.zero_add] at hk
    subst hk
    obtain ⟨j0, j1⟩ := hc.2.1 j (List.mem_of_getElem? hj)
    have hkl := (List.getElem?_eq_some_iff.1 hj).1
    obtain ⟨z, hz, z0, z1, _, _⟩ := boat_at hS (show j.toNat < s.bs.length by omega)
    have h1 := shares_bd hS (show k < s.ps.length by rw [← hc.1]; exact hkl)
    simp only
    rw [(boat_eq hz).1]
    exact (holds_bd h1.1 z0).1
theorem maxL_ge (f : List Int → Int) : ∀ (l : List (List Int)), -1 ≤ maxL f l ∧ (∀ c ∈ l, f c ≤ maxL f l) ∧ (maxL f l = -1 ∨ ∃ c ∈ l, maxL f l = f c) := by
  intro l
  have : ∀ (l : List (List Int)) (n : Int), n ≤ l.foldl (fun n c => max n (f c)) n ∧ (∀ c ∈ l, f c ≤ l.foldl (fun n c => max n (f c)) n) ∧ (l.foldl (fun n c => max n (f c)) n = n ∨ ∃ c ∈ l, l.foldl (fun n c => max n (f c)) n = f c) := fun l => by
    induction l with
    | nil => intro n; simp
    | cons y l ih =>
      intro n
      obtain ⟨h1, h2, h3⟩ := ih (max n (f y))
      rw [List.foldl_cons]
      refine ⟨by omega, fun c hc => ?_, ?_⟩
      · rcases List.mem_cons.1 hc with rfl | hc
        · omega
        · exact h2 c hc
      · rcases h3 with h3 | ⟨c, hc, h3⟩
        · by_cases hle : f y ≤ n
          · left; rw [h3]; omega
          · right; exact ⟨y, by simp, by rw [h3]; omega⟩
        · right; exact ⟨c, by simp [hc], h3⟩
  exact this l (-1)
theorem crew_first {nb np : Nat} (h : np ≤ nb) : CrewOf nb np ((List.range np).map fun i : Nat => (i : Int)) := by
  refine ⟨by simp, fun x hx => ?_, ?_⟩
  · obtain ⟨i, hi, rfl⟩ := List.mem_map.1 hx
    rw [List.mem_range] at hi
    omega
  · exact List.Pairwise.map _ (fun a b hab => by omega) (List.nodup_range (n := np))
/-- Most: below 0 just if there are too few boats. -/
theorem most_none {s : Sea} (h : s.bs.length < s.ps.length) : mostS s = -1 := by
  rcases (maxL_ge (liftS s) (crewsR s.bs.length s.ps.length [])).2.2 with h1 | ⟨c, hc, _⟩
  · exact h1
  · have := mem_crews.1 hc
    have := pigeon s.bs.length c this.2.2 this.2.1
    have := (mem_crews.1 hc).1
    omega
theorem most_some {s : Sea} (hS : SOK s) (h : s.ps.length ≤ s.bs.length) : 0 ≤ mostS s ∧ mostS s ≤ 2000 := by
  obtain ⟨_, h2, h3⟩ := maxL_ge (liftS s) (crewsR s.bs.length s.ps.length [])
  have hm := h2 _ (mem_crews.2 (crew_first h))
  have hb := lift_bd hS (crew_first h)
  refine ⟨Int.le_trans hb.1 hm, ?_⟩
  rcases h3 with h3 | ⟨c, hc, h3⟩
  · show maxL _ _ ≤ _; omega
  · show maxL _ _ ≤ _; rw [h3]; exact (lift_bd hS (mem_crews.1 hc)).2
theorem most_ge {s : Sea} {c : List Int} (hc : CrewOf s.bs.length s.ps.length c) : liftS s c ≤ mostS s := (maxL_ge (liftS s) _).2.1 c (mem_crews.2 hc)
theorem most_mem {s : Sea} (h : 0 ≤ mostS s) : ∃ c, CrewOf s.bs.length s.ps.length c ∧ mostS s = liftS s c := by
  rcases (maxL_ge (liftS s) (crewsR s.bs.length s.ps.length [])).2.2 with h1 | ⟨c, hc, h1⟩
  · have : mostS s = -1 := h1
    omega
  · exact ⟨c, mem_crews.1 hc, h1⟩
theorem cost_bd {s : Sea} (hS : SOK s) (c : List Int) : 0 ≤ costS s c ∧ costS s c ≤ 99 * c.length := by
  have hp : ∀ j : Nat, 0 ≤ penceN s j ∧ penceN s j ≤ 99 := fun j => by
    by_cases hj : j < s.bs.length
    · obtain ⟨z, hz, _, _, z2, z3⟩ := boat_at hS hj
      rw [(boat_eq hz).2]; exact ⟨z2, z3⟩
    · unfold penceN
      rw [List.getD_eq_getElem?_getD, List.getElem?_eq_none (by omega)]
      simp
  have : ∀ c : List Int, 0 ≤ (c.map fun b => penceN s b.toNat).sum ∧ (c.map fun b => penceN s b.toNat).sum ≤ 99 * c.length := fun c => by
    induction c with
    | nil => simp
    | cons x c ih =>
      have := hp x.toNat
      rw [List.map_cons, List.sum_cons, List.length_cons]
      omega
  unfold costS costTo
  rw [List.take_length]
  exact this c
/-- Cheap: what a crew costs that surely holds. -/
theorem cheap_bd {s : Sea} (hS : SOK s) {c : List Int} {n : Int} (h : cheapS s = some (c, n)) : 0 ≤ n ∧ n ≤ 396 := by
  obtain ⟨h1, h2, h3, _⟩ := cheapL_some _ c n h
  have := cost_bd hS c
  have h4 := (mem_crews.1 h1).1
  have := hS.pl
  omega
/-- What the law's words return. -/
def cheapW (s : Sea) : Int := match cheapS s with | none => 10000 | some (_, n) => n
def canW (s : Sea) (c : List Int) : Int := if crewB s c = true then liftS s c else -1
def needsL (s : Sea) : List Int := (List.range s.ps.length).map (needN s)
def needsTo (s : Sea) (k : Nat) : List Int := (List.range k).map (needN s)
theorem needsTo_succ (s : Sea) (k : Nat) : needsTo s (k + 1) = needsTo s k ++ [needN s k] := by unfold needsTo; rw [List.range_succ, List.map_append]; rfl
theorem needsTo_len (s : Sea) (k : Nat) : (needsTo s k).length = k := by simp [needsTo]
theorem needsL_len (s : Sea) : (needsL s).length = s.ps.length := by simp [needsL]
theorem needsL_at {s : Sea} {k : Nat} (h : k < s.ps.length) : (needsL s)[k]? = some (needN s k) := by
  unfold needsL; rw [List.getElem?_map, List.getElem?_range h]; rfl
end Go.Proofs.Ytgjpllmmpclgaaa
namespace Go.Proofs.Ytgjpllmmpclgaaa
open Go.RowKit

/-! The law's own words: Far 40, ready 16, isKnown 20, has 48, needs 19, can 27, most 34, cheap 36; the specification's Can 22, Least 23. -/
def farB (s : Sea) : Bool := decide (40 < s.ps.length) || decide (40 < s.bs.length)
theorem far_no {s : Sea} (h : validS s = true) : farB s = false := by
  have := SOK.ofValid h
  have h1 := this.pl
  have h2 := this.bl
  unfold farB
  rw [decide_eq_false (by omega), decide_eq_false (by omega)]; rfl
theorem far_le {s : Sea} (h : farB s = false) : s.ps.length ≤ 40 ∧ s.bs.length ≤ 40 := by
  unfold farB at h
  simp only [Bool.or_eq_false_iff, decide_eq_false_iff_not] at h
  omega
set_option maxRecDepth 100000 in
set_option maxHeartbeats 4000000 in
theorem far_any (L : SL) (s : Sea) (w : World) : Calls Try.prog 40 #[L.enc s] w fun e w' => e = .returned (.bool (farB s)) ∧ Below w.heap.size w w' := by
  have hbw := al_below w (.cells #[.int .i64 s.wl, .int .i64 s.wh, .slice L.Ap s.ps.length L.cp, .slice L.Ab s.bs.length L.cb] 27)
  have HB := Lib.hid (SBox.new w L s)
  obtain ⟨c0, c1, c2, c3⟩ := (SBox.new w L s).cells
  obtain ⟨W0, hW0⟩ : ∃ W0, w.alloc (.cells #[.int .i64 s.wl, .int .i64 s.wh, .slice L.Ap s.ps.length L.cp, .slice L.Ab s.bs.length L.cb] 27) = W0 := ⟨_, rfl⟩
  rw [hW0] at hbw HB c0 c1 c2 c3
  have HBW := Lib.hid hbw
  have HW0 := Lib.hid hW0
  clear hbw hW0
  by_cases h1 : 40 < s.ps.length
  · have hd1 : decide ((40 : Int) < (s.ps.length : Int)) = true := decide_eq_true (by omega)
    have HQ := Lib.hid (show farB s = true by unfold farB; rw [decide_eq_true h1]; rfl)
    clear h1
    obtain ⟨Ap, cp, Ab, cb⟩ := L
    go_enter Try.func40, Try.ntmps40
    go_upto_region 1 with (fail)
    have e := HW0.out
    rw [e]
    clear e
    go_wp2_with (fail)
    go_ret
    exact ⟨by rw [HQ.out]; rfl, HBW.out⟩
  · have hd1 : decide ((40 : Int) < (s.ps.length : Int)) = false := decide_eq_false (by omega)
    by_cases h2 : 40 < s.bs.length
    · have hd2 : decide ((40 : Int) < (s.bs.length : Int)) = true := decide_eq_true (by omega)
      have HQ := Lib.hid (show farB s = true by unfold farB; rw [decide_eq_true h2, Bool.or_true])
      clear h1 h2
      obtain ⟨Ap, cp, Ab, cb⟩ := L
      go_enter Try.func40, Try.ntmps40
      go_upto_region 1 with (fail)
      have e := HW0.out
      rw [e]
      clear e
      go_wp2_with (fail)
      go_ret
      exact ⟨by rw [HQ.out]; rfl, HBW.out⟩
    · have hd2 : decide ((40 : Int) < (s.bs.length : Int)) = false := decide_eq_false (by omega)
      have HQ := Lib.hid (show farB s = false by unfold farB; rw [decide_eq_false h1, decide_eq_false h2]; rfl)
      clear h1 h2
      obtain ⟨Ap, cp, Ab, cb⟩ := L
      go_enter Try.func40, Try.ntmps40
      go_upto_region 1 with (fail)
      have e := HW0.out
      rw [e]
      clear e
      go_wp2_with (fail)
      go_ret
      exact ⟨by rw [HQ.out]; rfl, HBW.out⟩
set_option maxRecDepth 100000 in
set_option maxHeartbeats 4000000 in
theorem ready_any (L : SL) (s : Sea) (w : World) (hH : SeaAt w w.heap.size L s) : Calls Try.prog 16 #[L.enc s] w fun e w' => e = .returned (.bool (validS s)) ∧ Below w.heap.size w w' := by
  have hbw := al_below w (.cells #[.int .i64 s.wl, .int .i64 s.wh, .slice L.Ap s.ps.length L.cp, .slice L.Ab s.bs.length L.cb] 27)
  have HB := Lib.hid (SBox.new w L s)
  obtain ⟨c0, c1, c2, c3⟩ := (SBox.new w L s).cells
  obtain ⟨W0, hW0⟩ : ∃ W0, w.alloc (.cells #[.int .i64 s.wl, .int .i64 s.wh, .slice L.Ap s.ps.length L.cp, .slice L.Ab s.bs.length L.cb] 27) = W0 := ⟨_, rfl⟩
  rw [hW0] at hbw HB c0 c1 c2 c3
  have HBW := Lib.hid hbw
  have HW0 := Lib.hid hW0
  have HH := Lib.hid (hH.below hbw)
  have HF := Lib.hid (fun W => far_any L s W)
  have HC := Lib.hid (fun W hW => rcheck_any L s W hW)
  clear hbw hW0 hH
  cases hf : farB s
  · rw [hf] at HF
    rw [ckS_eq] at HC
    cases hv : validS s
    all_goals
      rw [hv] at HC
      clear hf hv
      obtain ⟨Ap, cp, Ab, cb⟩ := L
      as_aux_lemma =>
      go_enter Try.func16, Try.ntmps16
      go_upto_region 1 with (fail)
      have e := HW0.out
      rw [e]
      clear e
      go_wp2_with (first
        | (go_at_call 40; refine (HF.out W0).mono ?_; rintro e w1 ⟨rfl, hb1⟩; have B1 := Lib.hid hb1; obtain ⟨r0, r1, r2, r3⟩ := (HB.out.of (hb1.block _ HB.out.lt)).cells; clear hb1)
        | (go_at_call 52; refine (HC.out w1 (HH.out.below B1.out)).mono ?_; rintro e w2 ⟨rfl, hb2⟩; have B2 := Lib.hid (hb0to B1.out hb2); clear hb2))
      go_ret
      exact ⟨rfl, hb0to HBW.out B2.out⟩
  · rw [hf] at HF
    have hv : validS s = false := by
      cases hv : validS s
      · rfl
      · rw [far_no hv] at hf; cases hf
    rw [hv]
    clear hf hv
    obtain ⟨Ap, cp, Ab, cb⟩ := L
    as_aux_lemma =>
    go_enter Try.func16, Try.ntmps16
    go_upto_region 1 with (fail)
    have e := HW0.out
    rw [e]
    clear e
    go_wp2_with (go_at_call 40; refine (HF.out W0).mono ?_; rintro e w1 ⟨rfl, hb1⟩; have B1 := Lib.hid hb1; obtain ⟨r0, r1, r2, r3⟩ := (HB.out.of (hb1.block _ HB.out.lt)).cells; clear hb1)
    go_ret
    exact ⟨rfl, hb0to HBW.out B1.out⟩
theorem known_any (n : Int) (w : World) : Calls Try.prog 20 #[.int .i64 n] w fun e w' => e = .returned (.bool (decide (n = 0) || decide (n = 3))) ∧ w = w' := by
  by_cases h : n = 0 <;> by_cases h2 : n = 3
  · omega
  all_goals
    go_enter Try.func20, Try.ntmps20
    go_wp2
    go_ret
    simp [*]
theorem has_any (x : Int × Int) (n : Int) (w : World) : Calls Try.prog 48 #[.agg #[.int .i64 x.1, .int .i64 x.2], .int .i64 n] w fun e w' => e = .returned (.bool (inR n x.1 x.2)) ∧ Below w.heap.size w w' := by
  obtain ⟨a, b⟩ := x
  have hq : inR n a b = (decide (a ≤ n) && decide (n ≤ b)) := rfl
  simp only
  by_cases h : a ≤ n <;> by_cases h2 : n ≤ b
  all_goals
    have HQ := Lib.hid hq
    have hd : decide (a ≤ n) = _ := (by first | exact decide_eq_true h | exact decide_eq_false h)
    have hd2 : decide (n ≤ b) = _ := (by first | exact decide_eq_true h2 | exact decide_eq_false h2)
    have HD := Lib.hid (And.intro hd hd2)
    clear hq
    go_enter Try.func48, Try.ntmps48
    go_wp2
    go_ret
    exact ⟨by rw [HQ.out, HD.out.1, HD.out.2]; rfl, al_below _ _⟩
/-- What needs returns. -/
def NeedsRet (s : Sea) (B : Nat) (w' : World) (e : Ending) : Prop := ∃ A cp, e = .returned (.tuple #[.slice A s.ps.length cp, .bool true]) ∧ IntsFrom w' B A (needsL s)
set_option maxRecDepth 100000 in
set_option maxHeartbeats 4000000 in
theorem needs_any (L : SL) (s : Sea) (hv : validS s = true) (w : World) (hH : SeaAt w w.heap.size L s) : Calls Try.prog 19 #[L.enc s] w fun e w' => NeedsRet s w.heap.size w' e ∧ Below w.heap.size w w' := by
  have hbw := al_below w (.cells #[.int .i64 s.wl, .int .i64 s.wh, .slice L.Ap s.ps.length L.cp, .slice L.Ab s.bs.length L.cb] 27)
  have HB := Lib.hid (SBox.new w L s)
  obtain ⟨c0, c1, c2, c3⟩ := (SBox.new w L s).cells
  obtain ⟨W0, hW0⟩ : ∃ W0, w.alloc (.cells #[.int .i64 s.wl, .int .i64 s.wh, .slice L.Ap s.ps.length L.cp, .slice L.Ab s.bs.length L.cb] 27) = W0 := ⟨_, rfl⟩
  rw [hW0] at hbw HB c0 c1 c2 c3
  have HBW := Lib.hid hbw
  have HW0 := Lib.hid hW0
  have HH := Lib.hid (hH.below hbw)
  have hS := SOK.ofValid hv
  have hpl := hS.pl
  have H55 := Lib.hid (fun (k : Nat) (hk : k < s.ps.length) W hW => show Calls Try.prog 55 #[L.enc s, .int .i64 k] W fun e w' => e = .returned (.tuple #[.int .i64 (needN s k), .int .i64 0]) ∧ Below W.heap.size W w' by
    have h := Need_any L s (by omega) k W hW
    have h0 : askS s (inR (k : Int) 0 ((s.ps.length : Int) - 1)) = 0 := by rw [askS_good _ hv, if_neg (by rw [inR_true.2 (by omega)]; simp)]
    rw [show needRet s k = (needN s k, 0) by unfold needRet; rw [h0]; simp] at h
    exact h)
  have HS := Lib.hid hS
  clear hbw hW0 hH hv hS
  obtain ⟨Ap, cp, Ab, cb⟩ := L
  go_enter Try.func19, Try.ntmps19
  go_upto_region 1 with (fail)
  have e := HW0.out
  rw [e]
  clear e
  go_wp2_with (fail)
  clear c0 c1 c2 c3
  go_loopw [4, 5] (fun v i wr => ∃ k : Nat, k ≤ s.ps.length ∧ i = .int .i64 k ∧ Hid (Ints wr W0.heap.size v (needsTo s k)) ∧ Hid (Below W0.heap.size W0 wr)) (fun _ i _ => s.ps.length - (intOf i).toNat)
  case atStart => exact ⟨0, Nat.zero_le _, rfl, Lib.hid (ints_nil _ _), Lib.hid (Below.refl _ _)⟩
  case round =>
    obtain ⟨k, hk, rfl, hI, hb⟩ := hrel
    obtain ⟨r0, r1, r2, r3⟩ := (HB.out.of (hb.out.block _ HB.out.lt)).cells
    by_cases hlt : k < s.ps.length
    · have hnb := needN_bd HS.out hlt
      have HN := Lib.hid (needsTo_succ s k)
      have hl0 : (needsTo s k).length ≤ 1000 := by rw [needsTo_len]; omega
      have H55k := Lib.hid (H55.out k hlt)
      have hk1 := Lib.hid hlt
      generalize needN s k = n at hnb HN H55k
      obtain ⟨n0, n1⟩ := hnb
      have hd1 : decide (n < 0) = false := decide_eq_false (by omega)
      have hd2 : decide ((2000 : Int) < n) = false := decide_eq_false (by omega)
      as_aux_lemma =>
      go_wp2_with (first
        | (go_at_call 55; refine (H55k.out wr (HH.out.below hb.out)).mono ?_; rintro e w1 ⟨rfl, hb1⟩; have B1 := Lib.hid hb1; have HI1 := Lib.hid ((hI.out.below_ hb1 (Nat.le_refl _)).alloc (.cells #[.int .i64 n] 3)); have HC1 := Lib.hid (show (w1.alloc (.cells #[.int .i64 n] 3)).cell? ⟨w1.heap.size, 0, none⟩ = some (.int .i64 n) by simp [go_sem]); have B2 := Lib.hid (hb0to hb.out (hb0to hb1 (al_below w1 (.cells #[.int .i64 n] 3)))); clear hb1)
        | (refine wpl_app (by rfl) _ _ (by rfl) W0.heap.size W0.heap.size _ (needsTo s k) n (by rfl) HI1.out ⟨w1.heap.size, 0, none⟩ 1 (by rfl) HC1.out hl0 B2.out.size (Nat.le_refl _) ?_; intro v' w' h1 h2; have HV := Lib.hid h1; have HW := Lib.hid h2; clear h1 h2))
      go_roundw
      case rel => exact ⟨k + 1, by omega, by go_num, Lib.hid (by rw [HN.out]; exact HV.out), Lib.hid (B2.out.trans HW.out)⟩
      case measure => simp [intOf]; omega
    · obtain rfl : k = s.ps.length := by omega
      have hI2 := hI.out
      rw [show needsTo s s.ps.length = needsL s from rfl] at hI2
      obtain ⟨A, c, rfl, hA0, -, hIn⟩ := hI2.lay
      have hln := needsL_len s
      rw [hln]
      have HIF := Lib.hid (show IntsFrom wr w.heap.size A (needsL s) by
        rcases hIn with h | ⟨b5, o5, e5, h5, h6, h7⟩
        · have : s.ps = [] := by rw [h] at hln; exact List.length_eq_zero_iff.1 hln.symm
          have h12 := HS.out.hi
          rw [this] at h12
          simp [sumH] at h12
        · exact .inr ⟨b5, o5, e5, Nat.le_trans HBW.out.size h5, h6, h7⟩)
      clear hI2 hA0 hIn hln
      as_aux_lemma =>
      go_wp2_with (fail)
      go_ret2
      exact ⟨⟨A, c, rfl, HIF.out⟩, hb0to HBW.out hb.out⟩
set_option maxRecDepth 100000 in
set_option maxHeartbeats 4000000 in
theorem cheapW_any (L : SL) (s : Sea) (hv : validS s = true) (w : World) (hH : SeaAt w w.heap.size L s) : Calls Try.prog 36 #[L.enc s] w fun e w' => e = .returned (.tuple #[.int .i64 (cheapW s), .bool true]) ∧ Below w.heap.size w w' := by
  have hbw := al_below w (.cells #[.int .i64 s.wl, .int .i64 s.wh, .slice L.Ap s.ps.length L.cp, .slice L.Ab s.bs.length L.cb] 27)
  have HB := Lib.hid (SBox.new w L s)
  obtain ⟨c0, c1, c2, c3⟩ := (SBox.new w L s).cells
  obtain ⟨W0, hW0⟩ : ∃ W0, w.alloc (.cells #[.int .i64 s.wl, .int .i64 s.wh, .slice L.Ap s.ps.length L.cp, .slice L.Ab s.bs.length L.cb] 27) = W0 := ⟨_, rfl⟩
  rw [hW0] at hbw HB c0 c1 c2 c3
  have HBW := Lib.hid hbw
  have HW0 := Lib.hid hW0
  have HH := Lib.hid (hH.below hbw)
  have H33 := Lib.hid (fun W hW => Cheap_any L s W hW)
  have hS := SOK.ofValid hv
  have h0 := askS_true hv
  cases hcs : cheapS s with
  | none =>
    rw [show cheapRet s = (0, 3) by unfold cheapRet; rw [h0, hcs]; simp] at H33
    have HQ := Lib.hid (show cheapW s = 10000 by unfold cheapW; rw [hcs])
    clear hbw hW0 hH hv hS h0 hcs
    obtain ⟨Ap, cp, Ab, cb⟩ := L
    go_enter Try.func36, Try.ntmps36
    go_upto_region 1 with (fail)
    have e := HW0.out
    rw [e]
    clear e
    go_wp2_with (go_at_call 33; refine (H33.out W0 HH.out).mono ?_; rintro e w1 ⟨rfl, hb1⟩; have B1 := Lib.hid hb1; clear hb1)
    go_ret2
    exact ⟨by rw [HQ.out]; rfl, hb0to HBW.out B1.out⟩
  | some cn =>
    obtain ⟨c, n⟩ := cn
    obtain ⟨n0, n1⟩ := cheap_bd hS hcs
    rw [show cheapRet s = (n, 0) by unfold cheapRet; rw [h0, hcs]; simp] at H33
    have HQ := Lib.hid (show cheapW s = n by unfold cheapW; rw [hcs])
    have hd1 : decide (n < 10000) = true := decide_eq_true (by omega)
    have hd2 : decide (0 ≤ n) = true := decide_eq_true n0
    clear hbw hW0 hH hv hS h0 hcs
    obtain ⟨Ap, cp, Ab, cb⟩ := L
    go_enter Try.func36, Try.ntmps36
    go_upto_region 1 with (fail)
    have e := HW0.out
    rw [e]
    clear e
    go_wp2_with (go_at_call 33; refine (H33.out W0 HH.out).mono ?_; rintro e w1 ⟨rfl, hb1⟩; have B1 := Lib.hid hb1; clear hb1)
    go_ret2
    exact ⟨by rw [HQ.out]; rfl, hb0to HBW.out B1.out⟩
set_option maxRecDepth 100000 in
set_option maxHeartbeats 4000000 in
theorem mostW_any (L : SL) (s : Sea) (hv : validS s = true) (w : World) (hH : SeaAt w w.heap.size L s) : Calls Try.prog 34 #[L.enc s] w fun e w' => e = .returned (.tuple #[.int .i64 (mostS s), .bool true]) ∧ Below w.heap.size w w' := by
  have hbw := al_below w (.cells #[.int .i64 s.wl, .int .i64 s.wh, .slice L.Ap s.ps.length L.cp, .slice L.Ab s.bs.length L.cb] 27)
  have HB := Lib.hid (SBox.new w L s)
  obtain ⟨c0, c1, c2, c3⟩ := (SBox.new w L s).cells
  obtain ⟨W0, hW0⟩ : ∃ W0, w.alloc (.cells #[.int .i64 s.wl, .int .i64 s.wh, .slice L.Ap s.ps.length L.cp, .slice L.Ab s.bs.length L.cb] 27) = W0 := ⟨_, rfl⟩
  rw [hW0] at hbw HB c0 c1 c2 c3
  have HBW := Lib.hid hbw
  have HW0 := Lib.hid hW0
  have HH := Lib.hid (hH.below hbw)
  have H57 := Lib.hid (fun W hW => Most_any L s W hW)
  have hS := SOK.ofValid hv
  have h0 := askS_true hv
  by_cases hlt : s.bs.length < s.ps.length
  · rw [show mostRet s = (0, 3) by unfold mostRet; rw [h0, most_none hlt]; simp] at H57
    have HQ := Lib.hid (most_none hlt)
    have hd : decide (s.bs.length < s.ps.length) = true := decide_eq_true hlt
    clear hbw hW0 hH hv hS h0 hlt
    obtain ⟨Ap, cp, Ab, cb⟩ := L
    go_enter Try.func34, Try.ntmps34
    go_upto_region 1 with (fail)
    have e := HW0.out
    rw [e]
    clear e
    go_wp2_with (go_at_call 57; refine (H57.out W0 HH.out).mono ?_; rintro e w1 ⟨rfl, hb1⟩; have B1 := Lib.hid hb1; obtain ⟨r0, r1, r2, r3⟩ := (HB.out.of (hb1.block _ HB.out.lt)).cells; have e2 := extB_cell r2; have e3 := extB_cell r3; clear hb1)
    refine wp_region_ext (by kernel_rfl) (by kernel_rfl) ?_
    repeat (go_big_quiet_step (fail))
    refine wpQuiet_nil ?_
    rintro _ ⟨y1, rfl⟩
    go_wp2_with (fail)
    go_ret2
    exact ⟨by rw [HQ.out]; rfl, hb0to HBW.out (hb0to B1.out (extB_below w1 y1))⟩
  · obtain ⟨m0, m1⟩ := most_some hS (by omega)
    have hq : mostRet s = (mostS s, 0) := by unfold mostRet; rw [h0, if_neg (by simp), if_neg (by omega)]
    rw [hq] at H57
    generalize mostS s = m at H57 m0 m1
    have hd1 : decide (s.ps.length ≤ s.bs.length) = true := decide_eq_true (by omega)
    have hd2 : decide (0 ≤ m) = true := decide_eq_true m0
    have hd3 : decide (m ≤ 2000) = true := decide_eq_true m1
    clear hbw hW0 hH hv hS h0 hlt hq
    obtain ⟨Ap, cp, Ab, cb⟩ := L
    go_enter Try.func34, Try.ntmps34
    go_upto_region 1 with (fail)
    have e := HW0.out
    rw [e]
    clear e
    go_wp2_with (go_at_call 57; refine (H57.out W0 HH.out).mono ?_; rintro e w1 ⟨rfl, hb1⟩; have B1 := Lib.hid hb1; obtain ⟨r0, r1, r2, r3⟩ := (HB.out.of (hb1.block _ HB.out.lt)).cells; clear hb1)
    go_ret2
    exact ⟨rfl, hb0to HBW.out B1.out⟩
set_option maxRecDepth 100000 in
set_option maxHeartbeats 4000000 in
theorem canW_any (L : SL) (s : Sea) (hv : validS s = true) (c : List Int) (A : Option Addr) (cv : Nat) (hA : A = none → cv = 0 ∧ c = []) (hcl : c.length ≤ 1000) (w : World) (hH : SeaAt w w.heap.size L s) (hI : IntsAt w w.heap.size A c) : Calls Try.prog 27 #[L.enc s, .slice A c.length cv] w fun e w' => e = .returned (.int .i64 (canW s c)) ∧ Below w.heap.size w w' := by
  have hbw := al_below w (.cells #[.int .i64 s.wl, .int .i64 s.wh, .slice L.Ap s.ps.length L.cp, .slice L.Ab s.bs.length L.cb] 27)
  have HB := Lib.hid (SBox.new w L s)
  obtain ⟨c0, c1, c2, c3⟩ := (SBox.new w L s).cells
  obtain ⟨W0, hW0⟩ : ∃ W0, w.alloc (.cells #[.int .i64 s.wl, .int .i64 s.wh, .slice L.Ap s.ps.length L.cp, .slice L.Ab s.bs.length L.cb] 27) = W0 := ⟨_, rfl⟩
  rw [hW0] at hbw HB c0 c1 c2 c3
  have HBW := Lib.hid hbw
  have HW0 := Lib.hid hW0
  have HH := Lib.hid (hH.below hbw)
  have HI := Lib.hid (ints_later hI hbw)
  have HA := Lib.hid hA
  have H67 := Lib.hid (fun A2 c2 W hW hI => Lifts_any L s c A2 c2 hcl W hW hI)
  have hS := SOK.ofValid hv
  have hI0 := ints_made W0 W0.heap.size (Nat.le_refl _)
  have HI0 := Lib.hid hI0
  have HB0 := Lib.hid (al_below W0 (.cells #[] 3))
  have HCL := Lib.hid hcl
  have key : (liftsRet s c = (liftS s c, 0) ∧ canW s c = liftS s c ∧ 0 ≤ liftS s c ∧ liftS s c ≤ 2000) ∨ (liftsRet s c = (0, 1) ∧ canW s c = -1) := by
    cases hc : crewB s c
    · right
      refine ⟨?_, by unfold canW; rw [if_neg (by simp [hc])]⟩
      unfold liftsRet
      rw [hc, askS_good _ hv]; simp
    · left
      have hcr := crewB_iff.1 hc
      refine ⟨?_, by unfold canW; rw [if_pos hc], lift_bd hS hcr⟩
      unfold liftsRet
      rw [hc, askS_good _ hv]; simp
  clear hbw hW0 hH hI hA hv hS hI0 hcl
  rcases key with ⟨k1, k2, k3, k4⟩ | ⟨k1, k2⟩
  · rw [k1] at H67
    generalize liftS s c = n at H67 k2 k3 k4
    have HQ := Lib.hid k2
    have hd1 : decide (n < 0) = false := decide_eq_false (by omega)
    have hd2 : decide ((2000 : Int) < n) = false := decide_eq_false (by omega)
    clear k1 k2
    obtain ⟨Ap, cp, Ab, cb⟩ := L
    as_aux_lemma =>
    go_enter Try.func27, Try.ntmps27
    go_upto_region 1 with (fail)
    have e := HW0.out
    rw [e]
    clear e
    go_region_held3 (fun w' => w'.cell? ⟨w.heap.size, 0, none⟩ = some (.int .i64 s.wl) ∧ w'.cell? ⟨w.heap.size, 1, none⟩ = some (.int .i64 s.wh) ∧ w'.cell? ⟨w.heap.size, 2, none⟩ = some (.slice Ap s.ps.length cp) ∧ w'.cell? ⟨w.heap.size, 3, none⟩ = some (.slice Ab s.bs.length cb)) (first | go_keep)
      (first
        | (refine step_copyI (by rfl) (.tmp 9) (.tmp 10) (by rfl) W0.heap.size _ [] (by rfl) (show Ints (W0.alloc (.cells #[] 3)).drew W0.heap.size _ [] from HI0.out) A cv c HA.out (by rfl) (ints_later HI.out (al_below W0 (.cells #[] 3)).drew) (by simp) HCL.out (by simp) ?_; intro v3 w3 h1 h2; have B3 := Lib.hid ((al_below W0 (.cells #[] 3)).drew.trans h2); obtain ⟨A3, c3, rfl, -, -, hA3⟩ := (show Ints w3 W0.heap.size v3 c from h1).lay; have I3 := Lib.hid hA3.at_; obtain ⟨r0, r1, r2, r3⟩ := (HB.out.of (B3.out.block _ HB.out.lt)).cells; clear h1 h2 hA3)
        | (go_at_call 67; refine (H67.out A3 c3 w3 (HH.out.below B3.out) I3.out).mono ?_; rintro e w4 ⟨rfl, hb4⟩; have B4 := Lib.hid (hb0to B3.out hb4); obtain ⟨t0, t1, t2, t3⟩ := (HB.out.of (B4.out.block _ HB.out.lt)).cells; clear hb4))
    all_goals
      go_wp2_with (fail)
      go_ret
      exact ⟨by rw [HQ.out]; rfl, hb0to HBW.out B4.out⟩
  · rw [k1] at H67
    have HQ := Lib.hid k2
    clear k1 k2
    obtain ⟨Ap, cp, Ab, cb⟩ := L
    as_aux_lemma =>
    go_enter Try.func27, Try.ntmps27
    go_upto_region 1 with (fail)
    have e := HW0.out
    rw [e]
    clear e
    go_region_held3 (fun w' => w'.cell? ⟨w.heap.size, 0, none⟩ = some (.int .i64 s.wl) ∧ w'.cell? ⟨w.heap.size, 1, none⟩ = some (.int .i64 s.wh) ∧ w'.cell? ⟨w.heap.size, 2, none⟩ = some (.slice Ap s.ps.length cp) ∧ w'.cell? ⟨w.heap.size, 3, none⟩ = some (.slice Ab s.bs.length cb)) (first | go_keep)
      (first
        | (refine step_copyI (by rfl) (.tmp 9) (.tmp 10) (by rfl) W0.heap.size _ [] (by rfl) (show Ints (W0.alloc (.cells #[] 3)).drew W0.heap.size _ [] from HI0.out) A cv c HA.out (by rfl) (ints_later HI.out (al_below W0 (.cells #[] 3)).drew) (by simp) HCL.out (by simp) ?_; intro v3 w3 h1 h2; have B3 := Lib.hid ((al_below W0 (.cells #[] 3)).drew.trans h2); obtain ⟨A3, c3, rfl, -, -, hA3⟩ := (show Ints w3 W0.heap.size v3 c from h1).lay; have I3 := Lib.hid hA3.at_; obtain ⟨r0, r1, r2, r3⟩ := (HB.out.of (B3.out.block _ HB.out.lt)).cells; clear h1 h2 hA3)
        | (go_at_call 67; refine (H67.out A3 c3 w3 (HH.out.below B3.out) I3.out).mono ?_; rintro e w4 ⟨rfl, hb4⟩; have B4 := Lib.hid (hb0to B3.out hb4); obtain ⟨t0, t1, t2, t3⟩ := (HB.out.of (B4.out.block _ HB.out.lt)).cells; clear hb4))
    all_goals
      go_wp2_with (fail)
      go_ret
      exact ⟨by rw [HQ.out]; rfl, hb0to HBW.out B4.out⟩
/-- How many boats can carry so much. -/
def canC (s : Sea) (n : Int) : Nat := (s.bs.filter fun z => decide (n ≤ z.1)).length
def canCTo (s : Sea) (n : Int) (k : Nat) : Nat := ((s.bs.take k).filter fun z => decide (n ≤ z.1)).length
theorem canCTo_all (s : Sea) (n : Int) : canCTo s n s.bs.length = canC s n := by unfold canCTo canC; rw [List.take_length]
theorem canCTo_next {s : Sea} {n : Int} {k : Nat} {z : Int × Int} (hz : s.bs[k]? = some z) : canCTo s n (k + 1) = canCTo s n k + if n ≤ z.1 then 1 else 0 := by
  unfold canCTo
  rw [List.take_add_one, hz, List.filter_append, List.length_append]
  by_cases h : n ≤ z.1 <;> simp [h]
theorem canCTo_le (s : Sea) (n : Int) (k : Nat) : canCTo s n k ≤ k := by
  unfold canCTo
  exact Nat.le_trans (List.length_filter_le _ _) (by simp; omega)
set_option maxRecDepth 100000 in
set_option maxHeartbeats 4000000 in
theorem Can_any (L : SL) (s : Sea) (hn : s.bs.length ≤ 1000) (n : Int) (w : World) (hH : SeaAt w w.heap.size L s) : Calls Try.prog 22 #[L.enc s, .int .i64 n] w fun e w' => e = .returned (.int .i64 (canC s n : Nat)) ∧ Below w.heap.size w w' := by
  have hbw := al_below w (.cells #[.int .i64 s.wl, .int .i64 s.wh, .slice L.Ap s.ps.length L.cp, .slice L.Ab s.bs.length L.cb] 27)
  have HB := Lib.hid (SBox.new w L s)
  obtain ⟨c0, c1, c2, c3⟩ := (SBox.new w L s).cells
  obtain ⟨W0, hW0⟩ : ∃ W0, w.alloc (.cells #[.int .i64 s.wl, .int .i64 s.wh, .slice L.Ap s.ps.length L.cp, .slice L.Ab s.bs.length L.cb] 27) = W0 := ⟨_, rfl⟩
  rw [hW0] at hbw HB c0 c1 c2 c3
  have HBW := Lib.hid hbw
  have HW0 := Lib.hid hW0
  have HH := Lib.hid (hH.below hbw)
  have HQ := Lib.hid (canCTo_all s n)
  clear hbw hW0 hH
  obtain ⟨Ap, cp, Ab, cb⟩ := L
  go_enter Try.func22, Try.ntmps22
  go_upto_region 1 with (fail)
  have e := HW0.out
  rw [e]
  clear e
  go_wp2_with (fail)
  go_loop [5, 6] (fun v i => ∃ k : Nat, k ≤ s.bs.length ∧ i = .int .i64 k ∧ v = .int .i64 (canCTo s n k : Nat)) (fun _ i => s.bs.length - (intOf i).toNat)
  case atStart => exact ⟨0, Nat.zero_le _, rfl, rfl⟩
  case round =>
    obtain ⟨k, hk, rfl, rfl⟩ := hrel
    have hle := canCTo_le s n k
    by_cases hlt : k < s.bs.length
    · obtain ⟨z, hz⟩ : ∃ z, s.bs[k]? = some z := ⟨_, List.getElem?_eq_getElem hlt⟩
      obtain ⟨bb, ob, eB, blt, d2, _⟩ := HH.out.b.at_ hz
      have HN := Lib.hid (canCTo_next (n := n) hz)
      simp only at eB
      obtain ⟨cy, pn⟩ := z
      simp only at d2 HN
      subst eB
      clear hz
      by_cases hle2 : n ≤ cy
      · have hd : decide (n ≤ cy) = true := decide_eq_true hle2
        have HN2 := Lib.hid (show canCTo s n (k + 1) = canCTo s n k + 1 by rw [HN.out, if_pos hle2])
        clear hle2
        as_aux_lemma =>
        go_wp2_with (fail)
        go_round
        case rel => exact ⟨k + 1, by omega, by go_num, by rw [HN2.out]; rfl⟩
        case measure => simp [intOf]; omega
      · have hd : decide (n ≤ cy) = false := decide_eq_false hle2
        have HN2 := Lib.hid (show canCTo s n (k + 1) = canCTo s n k by rw [HN.out, if_neg hle2]; rfl)
        clear hle2
        as_aux_lemma =>
        go_wp2_with (fail)
        go_round
        case rel => exact ⟨k + 1, by omega, by go_num, by rw [HN2.out]⟩
        case measure => simp [intOf]; omega
    · obtain rfl : k = s.bs.length := by omega
      go_wp2_with (fail)
      go_ret
      exact ⟨by rw [← HQ.out]; rfl, HBW.out⟩
/-- The least of the needs of some places. -/
def leastTo (ks ps : List Int) (k : Nat) : Int := (ps.take k).foldl (fun n i => min n (ks.getD i.toNat 0)) (ks.getD (ps.getD 0 0).toNat 0)
def leastL (ks ps : List Int) : Int := leastTo ks ps ps.length
theorem leastTo_next {ks ps : List Int} {k : Nat} {i : Int} (h : ps[k]? = some i) : leastTo ks ps (k + 1) = min (leastTo ks ps k) (ks.getD i.toNat 0) := by
  unfold leastTo
  rw [List.take_add_one, h]
  simp
set_option maxRecDepth 100000 in
set_option maxHeartbeats 4000000 in
theorem Least_any (ks ps : List Int) (A B : Option Addr) (ca cb : Nat) (_ : ks.length ≤ 1000) (hp : ps.length ≤ 1000) (h1 : ps ≠ []) (hin : ∀ i ∈ ps, 0 ≤ i ∧ i < ks.length) (w : World) (hI : IntsAt w w.heap.size A ks) (hJ : IntsAt w w.heap.size B ps) :
    Calls Try.prog 23 #[.slice A ks.length ca, .slice B ps.length cb] w fun e w' => e = .returned (.int .i64 (leastL ks ps)) ∧ w = w' := by
  have HI := Lib.hid hI
  have HJ := Lib.hid hJ
  have HIN := Lib.hid hin
  have hpos : 0 < ps.length := List.length_pos_iff.2 h1
  obtain ⟨i0, hi0⟩ : ∃ i, ps[0]? = some i := ⟨_, List.getElem?_eq_getElem hpos⟩
  obtain ⟨j0, j1⟩ := hin i0 (List.mem_of_getElem? hi0)
  obtain ⟨x0, hx0⟩ : ∃ x, ks[i0.toNat]? = some x := ⟨_, List.getElem?_eq_getElem (by omega)⟩
  obtain ⟨n0, rfl⟩ : ∃ n : Nat, i0 = n := ⟨i0.toNat, by omega⟩
  rw [Int.toNat_natCast] at hx0
  obtain ⟨ba, oa, rfl, alt, d1⟩ := hI.at_ hx0
  obtain ⟨bb, ob, rfl, blt, d2⟩ := hJ.at_ hi0
  simp only [Nat.add_zero] at d2
  have HT := Lib.hid (show leastTo ks ps 0 = x0 by
    unfold leastTo
    simp [List.getD, hi0, hx0])
  clear hI hJ hin h1 hi0 hx0
  go_enter Try.func23, Try.ntmps23
  go_wp2_with (fail)
  clear d1 d2
  go_loop [5, 6] (fun v i => ∃ k : Nat, k ≤ ps.length ∧ i = .int .i64 k ∧ v = .int .i64 (leastTo ks ps k)) (fun _ i => ps.length - (intOf i).toNat)
  case atStart => exact ⟨0, Nat.zero_le _, rfl, by rw [HT.out]⟩
  case round =>
    clear HT
    obtain ⟨k, hkk, rfl, rfl⟩ := hrel
    by_cases hlt : k < ps.length
    · obtain ⟨i, hi⟩ : ∃ i, ps[k]? = some i := ⟨_, List.getElem?_eq_getElem hlt⟩
      obtain ⟨u0, u1⟩ := HIN.out i (List.mem_of_getElem? hi)
      obtain ⟨y, hy⟩ : ∃ y, ks[i.toNat]? = some y := ⟨_, List.getElem?_eq_getElem (by omega)⟩
      have HN := Lib.hid (show leastTo ks ps (k + 1) = min (leastTo ks ps k) y by rw [leastTo_next hi]; simp [List.getD, hy])
      obtain ⟨n, rfl⟩ : ∃ n : Nat, i = n := ⟨i.toNat, by omega⟩
      rw [Int.toNat_natCast] at hy
      obtain ⟨_, _, e1, _, d1⟩ := HI.out.at_ hy
      cases e1
      obtain ⟨_, _, e2, _, d2⟩ := HJ.out.at_ hi
      cases e2
      generalize hm : leastTo ks ps k = m at HN
      clear hi hy hm
      by_cases hym : y < m
      · have HN2 := Lib.hid (show leastTo ks ps (k + 1) = y by rw [HN.out]; omega)
        as_aux_lemma =>
        go_wp2_with (fail)
        go_round
        case rel => exact ⟨k + 1, by omega, by go_num, by rw [HN2.out]⟩
        case measure => simp [intOf]; omega
      · have HN2 := Lib.hid (show leastTo ks ps (k + 1) = m by rw [HN.out]; omega)
        as_aux_lemma =>
        go_wp2_with (fail)
        go_round
        case rel => exact ⟨k + 1, by omega, by go_num, by rw [HN2.out]⟩
        case measure => simp [intOf]; omega
    · obtain rfl : k = ps.length := by omega
      go_wp2_with (fail)
      go_ret
      exact ⟨rfl, rfl⟩
end Go.Proofs.Ytgjpllmmpclgaaa
