import Derived.Test.YtmbcpmnigggbaaaFE
namespace Go.Proofs.Ytmbcpmnigggbaaa
open Go.RowKit

attribute [local go_sem] Oper.semAt_some
/-! winners 80. -/
theorem winTo_lt (q : List Bid) {N : Nat} (h0 : 0 < N) (S : List Nat) (h : ∀ m ∈ S, m < N) : (winTo q S).1 < N := by
  revert h
  refine snoc_indN (P := fun S => (∀ m ∈ S, m < N) → (winTo q S).1 < N) (fun _ => h0) (fun S x ih hm => ?_) S
  rw [winTo_snoc]
  unfold winStep
  split
  · exact hm x (by simp)
  · exact ih fun m hm' => hm m (by simp [hm'])
/-- A region that draws its order, in a round: from the world behind the draw on, S is held. -/
theorem wpIn_region_heldR {l n id : Nat} {P : Program} {L : List Oper} {Q : Exit → Act → World → Prop} {S : World → Prop} {a : Act} {w : World} (hQ : ¬ LetsOut Q) (hd : noDefer L = true) (hm : P.follows .mixedOrders = true) (hS : S w.drew)
    (h : S w.drew → wpAnyH P .any L.toArray Q S L.toArray.size (Array.replicate L.toArray.size false) a w.drew) : (Code.region id L.toArray true).wpIn (Fence.wide.inRound l) n P Q a w :=
  wpIn_region_any hm (wpAnyIn_round (fun i o ho => noDefer_at hd (by simpa using ho)) hQ _ _ _ _ (wpAny_of_held _ _ _ _ (h hS)))
structure WinI (w : World) (m : Nat) (n : Int) (X : World) : Prop where
  bl : Below w.heap.size w X
  b : X.heap[w.heap.size]? = some (.cells #[.int .i64 (m : Int)] 133 (0, 0))
  n : X.heap[w.heap.size + 1]? = some (.cells #[.int .i64 n] 3 (0, 0))
theorem WinI.kp {w : World} {m : Nat} {n : Int} {X Y : World} (h : WinI w m n X) {S : Nat → Prop} (hk : KpB S X.heap.size X Y) (hS : ∀ k, S k → w.heap.size + 2 ≤ k) : WinI w m n Y :=
  ⟨h.bl.trans (hk.belowOf h.bl.size (fun k hs => by have := hS k hs; omega)), (hk.block _ (heap_lt h.b) (fun hs => by have := hS _ hs; omega)).trans h.b, (hk.block _ (heap_lt h.n) (fun hs => by have := hS _ hs; omega)).trans h.n⟩
theorem WinI.set {w : World} {m : Nat} {n : Int} {X : World} (h : WinI w m n X) (m' : Nat) (n' : Int) : WinI w m' n' ((X.setCell ⟨w.heap.size, 0, none⟩ (.int .i64 (m' : Int))).setCell ⟨w.heap.size + 1, 0, none⟩ (.int .i64 n')) := by
  have z : (X.setCell ⟨w.heap.size, 0, none⟩ (.int .i64 (m' : Int))).heap.size = X.heap.size := by simp [World.setCell]
  exact ⟨(h.bl.setCell (Nat.le_refl _) _).setCell (by show w.heap.size ≤ w.heap.size + 1; omega) _,
    (set_other_heap (by rw [z]; exact heap_lt h.b) (by omega)).trans (heap_set _ h.b),
    heap_set _ ((set_other_heap (heap_lt h.n) (by omega)).trans h.n)⟩
set_option maxRecDepth 100000 in
set_option maxHeartbeats 4000000 in
theorem winners_any (F : FL) (f : Fair) (hf : FOK f) (rd : List Int) (b : Nat) (w : World) (hO : OpenAt w b F f rd) :
    Calls Try.prog 92 #[.pointer (some ⟨b, 0, none⟩)] w fun e w' => e = .returned (.int .i64 (winS f.q rd : Int)) ∧ Below w.heap.size w w' := by
  have h1 := heap_keep (o' := .cells #[.int .i64 0] 3) (heap_new1 w (.cells #[.int .i64 0] 133))
  have h2 := heap_new2 w (.cells #[.int .i64 0] 133) (.cells #[.int .i64 0] 3)
  have hb2 := hb0to (al_below w (.cells #[.int .i64 0] 133)) (al_below _ (.cells #[.int .i64 0] 3))
  obtain ⟨W2, hW2⟩ : ∃ W2, (w.alloc (.cells #[.int .i64 0] 133)).alloc (.cells #[.int .i64 0] 3) = W2 := ⟨_, rfl⟩
  rw [hW2] at h1 h2 hb2
  have q1 := cell_of_heap (o := 0) h1 rfl
  have q2 := cell_of_heap (o := 0) h2 rfl
  have q3 := frozen_of_heap h2
  have qb1 := heap_lt h1
  have qb2 := heap_lt h2
  have H1 := Lib.hid h1
  have H2 := Lib.hid h2
  have HB2 := Lib.hid hb2
  have HO := Lib.hid hO
  have HF := Lib.hid hf
  have hql := hf.ql
  clear h1 h2 hb2 hO hf
  refine (callsIn_wide (n := 10)).1 ?_
  refine callsIn_of_wp_marks Try.func92 rfl trivial ?_ rfl
  simp only [Try.ntmps92, List.size_toArray, List.length_cons, List.length_nil, Nat.reduceAdd, Nat.reduceSub, Array.replicate_succ, Array.replicate_zero, List.push_toArray, List.append_toArray, List.nil_append, List.cons_append]
  gi_wp2_with (fail)
  have hI1 : WinI w 0 (-1) (W2.setCell ⟨w.heap.size + 1, 0, none⟩ (.int .i64 (-1))) := ⟨HB2.out.setCell (by show w.heap.size ≤ w.heap.size + 1; omega) _, (set_other_heap (heap_lt H1.out) (by omega)).trans H1.out, heap_set _ H2.out⟩
  have hz1 : (W2.setCell ⟨w.heap.size + 1, 0, none⟩ (.int .i64 (-1))).heap.size = W2.heap.size := by simp [World.setCell]
  obtain ⟨W1, hW1⟩ : ∃ W1, W2.setCell ⟨w.heap.size + 1, 0, none⟩ (.int .i64 (-1)) = W1 := ⟨_, rfl⟩
  rw [hW1] at hI1 hz1 ⊢
  have HI1 := Lib.hid hI1
  have hzw : w.heap.size + 2 ≤ W1.heap.size := by omega
  clear hW1 q1 q2 q3 hI1 hz1 hW2
  refine wpIn_rangeFunc_makes (S := fun k => k = w.heap.size ∨ k = w.heap.size + 1) (Sees := SeesN f.q) (fb := #[.pointer (some ⟨b, 0, none⟩)]) (lb := #[]) (xs := setsL f.q rd) (w0 := W1) rfl (by omega) rfl trivial (fun _ _ => rfl)
    (sales_makes 9 F f HF.out rd b w W1 HO.out HI1.out.bl (fun k => k = w.heap.size ∨ k = w.heap.size + 1) (fun k hk => by omega)) (Below.refl _ _) (fun k hk => by omega)
    (fun B x args X hs => by cases hs; rfl) (fun B x args X Y _ hs hk => hs)
    (fun pre X => WinI w (winTo f.q pre).1 (winTo f.q pre).2 X)
    (fun c pre X => False)
    ?hI ?hIx ?h0 (fun x args a' X => a' = { tmps := #[.pointer (some ⟨b, 0, none⟩), undef, .int .i64 0, .pointer (some ⟨w.heap.size, 0, none⟩), .pointer (some ⟨w.heap.size + 1, 0, none⟩), args.getD 0 undef, args.getD 1 undef, undef, undef, .pointer (some ⟨b, 0, none⟩), .func (.func 140) #[.pointer (some ⟨b, 0, none⟩)] #[], args.getD 0 undef, args.getD 1 undef, undef, undef, undef, undef, undef, undef, undef, undef, undef, undef, undef, undef, undef, undef, undef, undef, undef, undef, undef, undef, undef, undef, undef, undef, undef, undef, undef, undef], defers := [] }) ?hAx ?hassign ?hbody ?hdone ?hstop
  case hI =>
    intro q X Y hX h hk
    exact h.kp hk (fun k hs => by have := hs.1; omega)
  case hIx => exact fun _ _ _ _ _ h _ => h.elim
  case h0 =>
    intro X hX hb
    exact HI1.out.kp (kpB_of_below hb (S := fun _ => False)) (fun _ h => h.elim)
  case hAx => exact fun _ _ _ _ _ _ h _ => h
  case hassign =>
    intro l' x args X K hz hs hK
    cases hs
    have hK' := hK _ X (.inl rfl) rfl
    clear hK
    simp only [List.zip_toArray, List.zip_cons_cons, List.zip_nil_right, List.foldl_toArray, List.foldl_cons, List.foldl_nil, List.setIfInBounds_toArray, List.set_cons_succ, List.set_cons_zero]
    gi_wp2_with (fail)
    exact hK'
  case hbody =>
    rintro l' pre m args a' X hX hpre hI hsee rfl
    cases hsee
    have hxm := (mem_setsTo.1 (hpre.subset (List.mem_append_right _ (List.mem_singleton.2 rfl)))).1
    have hbm := winTo_lt f.q (Nat.pow_pos (n := f.q.length) (show 0 < 2 by omega)) pre (fun k hk => (mem_setsTo.1 (hpre.subset (List.mem_append_left _ hk))).1)
    have HN := Lib.hid (winTo_snoc f.q pre m)
    have hz0 := brings_nonneg HF.out.pos (bitsL f.q.length m)
    generalize hst : winTo f.q pre = st at hI HN hbm
    obtain ⟨bm, n⟩ := st
    simp only at hI hbm
    unfold winStep at HN
    simp only at HN
    have hm8 : m < 256 := Nat.lt_of_lt_of_le hxm (pow_eight hql)
    have hb8 : bm < 256 := Nat.lt_of_lt_of_le hbm (pow_eight hql)
    have H69a := Lib.hid (fun W => by have := list_any m hm8 W; rw [bits_eight hql hxm] at this; exact this)
    have H69b := Lib.hid (fun W => by have := list_any bm hb8 W; rw [bits_eight hql hbm] at this; exact this)
    have hl1 := Nat.le_trans (bits_len f.q.length m) hql
    have hl2 := Nat.le_trans (bits_len f.q.length bm) hql
    generalize hv : bringsL f.q (bitsL f.q.length m) = v at HN hz0
    generalize hL1 : bitsL f.q.length m = L1 at HN H69a hl1
    generalize hL2 : bitsL f.q.length bm = L2 at HN H69b hl2
    have e0 := cell_of_heap (o := 0) hI.b rfl
    have e1 := cell_of_heap (o := 0) hI.n rfl
    have HI := Lib.hid hI
    clear hv hI hL1 hL2 hst hxm hbm hm8 hb8
    gi_wp2_with (fail)
    refine wpIn_region_heldR (S := fun w' => w'.cell? ⟨w.heap.size, 0, none⟩ = some (.int .i64 (bm : Int))) (by rintro ⟨_, _, hh⟩; exact hh) (by rfl) (by kernel_rfl) e0 (fun hHeld => ?_)
    refine wpAnyH_take (i := 0) (oi := _) (v := .int .i64 (m : Int)) rfl (by kernel_rfl) (by kernel_rfl) (by kernel_rfl) (fun _ _ _ h => h) (Or.inl ⟨by rfl, fun w hSw => ?_⟩) hHeld ?_
    · go_simp
    refine wpAnyH_take (i := 2) (oi := _) (v := .int .i64 (bm : Int)) rfl (by kernel_rfl) (by kernel_rfl) (by kernel_rfl) (fun _ _ _ h => h) (Or.inl ⟨by rfl, fun w hSw => ?_⟩) hHeld ?_
    · (try dsimp only at hSw); go_simp
    try simp only [Act.put, List.setIfInBounds_toArray, List.set_cons_zero, List.set_cons_succ]
    refine wpAnyH_ready (rs := [1]) (by kernel_rfl) (by simp) ?_
    refine AllReadyH.cons (o := _) rfl (fun K hK => ?_) AllReadyH.nil
    go_simp
    refine (H69a.out _).mono ?_
    rintro e w1 ⟨⟨v1, rfl, hv1⟩, hb1⟩
    have B1 := Lib.hid (hb0to (drew_below X) hb1)
    obtain ⟨A1, c1, rfl, _, _, hI1⟩ := hv1.lay
    rw [intsN_len]
    have HI1 := Lib.hid hI1.at_
    have s1 := below_cell B1.out e0
    clear hb1 hv1 hI1
    refine hK.out _ _ s1 (fun hHeld => ?_)
    clear hK K
    refine wpAnyH_ready (rs := [3]) (by kernel_rfl) (by simp) ?_
    refine AllReadyH.cons (o := _) rfl (fun K hK => ?_) AllReadyH.nil
    go_simp
    refine (H69b.out _).mono ?_
    rintro e w2 ⟨⟨v2, rfl, hv2⟩, hb2⟩
    have B2 := Lib.hid (hb0to B1.out hb2)
    have HI2a := Lib.hid (ints_later HI1.out hb2)
    obtain ⟨A2, c2, rfl, _, _, hI2⟩ := hv2.lay
    rw [intsN_len]
    have HI2 := Lib.hid hI2.at_
    have s2 := below_cell B2.out e0
    clear hb2 hv2 hI2
    refine hK.out _ _ s2 (fun hHeld => ?_)
    clear hK K
    refine wpAnyH_ready (rs := [4]) (by kernel_rfl) (by simp) ?_
    refine AllReadyH.cons (o := _) rfl (fun K hK => ?_) AllReadyH.nil
    go_simp
    refine hK.out _ _ s2 (fun hHeld => ?_)
    clear hK K
    refine wpAnyH_ready (rs := [5]) (by kernel_rfl) (by simp) ?_
    refine AllReadyH.cons (o := _) rfl (fun K hK => ?_) AllReadyH.nil
    go_simp
    refine hK.out _ _ s2 (fun hHeld => ?_)
    clear hK K
    refine wpAnyH_done (by kernel_rfl) ?_ _
    have hHI := HI.out.kp (S := fun _ => False) (kpB_of_below B2.out) (fun _ h => h.elim)
    have t0 := cell_of_heap (o := 0) hHI.b rfl
    have t1 := cell_of_heap (o := 0) hHI.n rfl
    have f0 := frozen_of_heap hHI.b
    have f1 := frozen_of_heap hHI.n
    have HHI := Lib.hid hHI
    have HLA := Lib.hid (or_ahead L1 L2)
    have H107 := Lib.hid (fun W hW1 hW2 => by have := compare_any (intsN L1) (intsN L2) A1 A2 c1 c2 (by rw [intsN_len]; omega) (by rw [intsN_len]; omega) W hW1 hW2; rw [intsN_len, intsN_len] at this; exact this)
    clear hHI e0 e1 s1 s2 hHeld
    have hq1 := heap_lt HHI.out.b
    have hq2 := heap_lt HHI.out.n
    have hne1 : ¬ w.heap.size = w2.heap.size := by omega
    have hne2 : ¬ w.heap.size + 1 = w2.heap.size := by omega
    by_cases hlt : n < v
    · rw [if_pos (.inl hlt)] at HN
      have hd1 : decide (n < v) = true := decide_eq_true hlt
      clear hlt
      gi_wp2_with (refine ⟨trivial, ?_⟩)
      all_goals first | (rename_i g1 g2; exact absurd g1 (by unfold undef; simp)) | skip
      refine ⟨((kpB_of_below B2.out).set _ _ (Or.inl (Or.inl rfl))).set _ _ (Or.inl (Or.inr rfl)), ?_⟩
      show WinI w (winTo f.q (pre ++ [m])).1 (winTo f.q (pre ++ [m])).2 _
      rw [HN.out]
      exact HHI.out.set m v
    · have hd1 : decide (n < v) = false := decide_eq_false hlt
      by_cases he : v = n
      · have hd2 : (v == n) = true := by simp [he]
        have hb3 := hb0to B2.out (al_below w2 (.cells #[.int .i64 ((L1.length : Int) - (L2.length : Int)), .int .i64 (cmpI (intsN L1) (intsN L2))] 3))
        by_cases ha : aheadP L1 L2
        · rw [if_pos (.inr ⟨he, ha⟩)] at HN
          have hd3 : decide (orI ((L1.length : Int) - (L2.length : Int)) (cmpI (intsN L1) (intsN L2)) < 0) = true := decide_eq_true (HLA.out.2 ha)
          have HHI3 := Lib.hid (HHI.out.kp (S := fun _ => False) (kpB_of_below (al_below w2 (.cells #[.int .i64 ((L1.length : Int) - (L2.length : Int)), .int .i64 (cmpI (intsN L1) (intsN L2))] 3))) (fun _ h => h.elim))
          clear HLA ha hlt he
          generalize cmpI (intsN L1) (intsN L2) = z at H107 hd3 hb3 HHI3
          have HB3 := Lib.hid hb3
          clear hb3
          gi_wp2_with (first
          | (refine ⟨trivial, ?_⟩; gi_at_call 142; refine (CallsIn.mono (CallsIn.inRound l' (callsIn_wide.2 (H107.out _ HI2a.out HI2.out))) ?_); rintro e W5 ⟨rfl, rfl⟩)
          | (refine ⟨trivial, ?_⟩; gi_at_call 141; refine (CallsIn.mono (CallsIn.inRound l' (callsIn_wide.2 (or_any ((L1.length : Int) - (L2.length : Int)) z w2.heap.size 2 _ (by simp [go_sem]) (by simp [go_sem])))) ?_); rintro e W6 ⟨rfl, rfl⟩))
          refine ⟨(((kpB_of_below B2.out).set _ _ (Or.inl (Or.inl rfl))).set _ _ (Or.inl (Or.inr rfl))).alloc _ (by simpa [World.setCell] using B2.out.size), ?_⟩
          show WinI w (winTo f.q (pre ++ [m])).1 (winTo f.q (pre ++ [m])).2 _
          rw [HN.out]
          exact (HHI.out.set m v).kp (S := fun _ => False) (kpB_of_below (al_below _ _)) (fun _ h => h.elim)
        · rw [if_neg (fun h => h.elim hlt (fun h => ha h.2))] at HN
          have hd3 : decide (orI ((L1.length : Int) - (L2.length : Int)) (cmpI (intsN L1) (intsN L2)) < 0) = false := decide_eq_false (fun h => ha (HLA.out.1 h))
          have HHI3 := Lib.hid (HHI.out.kp (S := fun _ => False) (kpB_of_below (al_below w2 (.cells #[.int .i64 ((L1.length : Int) - (L2.length : Int)), .int .i64 (cmpI (intsN L1) (intsN L2))] 3))) (fun _ h => h.elim))
          clear HLA ha hlt he
          generalize cmpI (intsN L1) (intsN L2) = z at H107 hd3 hb3 HHI3
          have HB3 := Lib.hid hb3
          clear hb3
          gi_wp2_with (first
          | (refine ⟨trivial, ?_⟩; gi_at_call 142; refine (CallsIn.mono (CallsIn.inRound l' (callsIn_wide.2 (H107.out _ HI2a.out HI2.out))) ?_); rintro e W5 ⟨rfl, rfl⟩)
          | (refine ⟨trivial, ?_⟩; gi_at_call 141; refine (CallsIn.mono (CallsIn.inRound l' (callsIn_wide.2 (or_any ((L1.length : Int) - (L2.length : Int)) z w2.heap.size 2 _ (by simp [go_sem]) (by simp [go_sem])))) ?_); rintro e W6 ⟨rfl, rfl⟩))
          refine ⟨kpB_of_below HB3.out, ?_⟩
          show WinI w (winTo f.q (pre ++ [m])).1 (winTo f.q (pre ++ [m])).2 _
          rw [HN.out]
          exact HHI3.out
      · have hd2 : (v == n) = false := by simp [he]
        rw [if_neg (fun h => h.elim hlt (fun h => he h.1))] at HN
        clear hlt he
        gi_wp2_with (refine ⟨trivial, ?_⟩)
        all_goals first | (rename_i g1 g2; exact absurd g1 (by unfold undef; simp)) | skip
        refine ⟨kpB_of_below B2.out, ?_⟩
        show WinI w (winTo f.q (pre ++ [m])).1 (winTo f.q (pre ++ [m])).2 _
        rw [HN.out]
        exact HHI.out
  case hdone =>
    rintro X hX hI hk
    have e1 := cell_of_heap (o := 0) hI.b rfl
    have HB := Lib.hid hI.bl
    have HK := Lib.hid hk
    clear hI hk
    gi_wp2_with (fail)
    refine ⟨by simp, .inl ⟨_, _, rfl, run_takeDeferred HK.out, ?_⟩⟩
    refine ⟨.int .i64 (winS f.q rd : Int), by simp [results, Try.results92, go_sem, winS], rfl, ?_⟩
    exact HB.out.trans (KpB.belowOf (S := fun k => k = W1.heap.size) ((KpB.refl _ _ _).put _ _ (.inl rfl)) HB.out.size (fun k hk => by omega))
  case hstop => exact fun _ _ _ _ _ h => h.elim

end Go.Proofs.Ytmbcpmnigggbaaa
namespace Go.Proofs.Ytmbcpmnigggbaaa
open Go.RowKit

theorem payAt_le {q : List Bid} (hq : ∀ b ∈ q, 0 ≤ b.pay ∧ b.pay ≤ 99) (i : Nat) : 0 ≤ payAt q i ∧ payAt q i ≤ 99 := by
  unfold payAt
  cases h : q[i]? with
  | none => simp
  | some b => exact hq b (List.mem_of_getElem? h)
theorem brings_le {q : List Bid} (hq : ∀ b ∈ q, 0 ≤ b.pay ∧ b.pay ≤ 99) : ∀ l : List Nat, bringsL q l ≤ 99 * (l.length : Int)
  | [] => by simp [bringsL]
  | i :: l => by
    have := brings_le hq l
    have := (payAt_le hq i).2
    rw [brings_cons, List.length_cons]
    omega
theorem mostTo_bd {q : List Bid} (hn : q.length ≤ 8) (hq : ∀ b ∈ q, 0 ≤ b.pay ∧ b.pay ≤ 99) (p : Nat → Bool) (S : List Nat) : -1 ≤ mostTo q p S ∧ mostTo q p S ≤ 792 := by
  have h0 := fun b hb => (hq b hb).1
  rcases (mostTo_ge q p h0 S).2 with ⟨e, _⟩ | ⟨m, _, _, e⟩
  · omega
  · have h1 := brings_le hq (bitsL q.length m)
    have h2 := bits_len q.length m
    have h3 := brings_nonneg h0 (bitsL q.length m)
    omega
theorem others_snoc (q : List Bid) (v : Int) (l : List Nat) (i : Nat) : othersL q v (l ++ [i]) = if ownP q v i = true then othersL q v l else othersL q v l + payAt q i := by
  unfold othersL
  rw [List.filter_append, brings_app]
  by_cases h : ownP q v i = true
  · rw [if_pos h, List.filter_cons_of_neg (by simp [h])]; simp [bringsL]
  · rw [if_neg h, List.filter_cons_of_pos (by simp [h])]; simp [bringsL]
def ownN (q : List Bid) (v : Int) (l : List Nat) : Nat := (l.filter (ownP q v)).length
theorem ownN_snoc (q : List Bid) (v : Int) (l : List Nat) (i : Nat) : ownN q v (l ++ [i]) = if ownP q v i = true then ownN q v l + 1 else ownN q v l := by
  unfold ownN
  rw [List.filter_append, List.length_append]
  by_cases h : ownP q v i = true
  · rw [if_pos h, List.filter_cons_of_pos h]; rfl
  · rw [if_neg h, List.filter_cons_of_neg h]; rfl
theorem ownN_le (q : List Bid) (v : Int) (l : List Nat) : ownN q v l ≤ l.length := List.length_filter_le _ _
theorem ownN_zero {q : List Bid} {v : Int} {l : List Nat} : ownN q v l = 0 ↔ ¬ l.any (ownP q v) = true := by
  unfold ownN
  rw [List.length_eq_zero_iff, List.filter_eq_nil_iff, List.any_eq_true]
  exact ⟨fun h ⟨i, hi, ho⟩ => h i hi ho, fun h i hi ho => h ⟨i, hi, ho⟩⟩
set_option maxRecDepth 100000 in
set_option maxHeartbeats 4000000 in
theorem pays_any (F : FL) (f : Fair) (hf : FOK f) (rd : List Int) (b : Nat) (v : Int) (w : World) (hO : OpenAt w b F f rd) :
    Calls Try.prog 103 #[.pointer (some ⟨b, 0, none⟩), .int .i64 v] w fun e w' => e = .returned (.int .i64 (payV f.q rd v)) ∧ Below w.heap.size w w' := by
  have h1 := heap_keep (o' := .cells #[.func (.func 158) #[] #[.pointer (some ⟨w.heap.size, 0, none⟩), .pointer (some ⟨w.heap.size + 1, 0, none⟩)]] 81) (heap_keep (o' := .cells #[.int .i64 v] 3) (heap_new1 w (.cells #[.pointer (some ⟨b, 0, none⟩)] 128)))
  have h2 := heap_keep (o' := .cells #[.func (.func 158) #[] #[.pointer (some ⟨w.heap.size, 0, none⟩), .pointer (some ⟨w.heap.size + 1, 0, none⟩)]] 81) (heap_new2 w (.cells #[.pointer (some ⟨b, 0, none⟩)] 128) (.cells #[.int .i64 v] 3))
  have h3 := heap_new3 w (.cells #[.pointer (some ⟨b, 0, none⟩)] 128) (.cells #[.int .i64 v] 3) (.cells #[.func (.func 158) #[] #[.pointer (some ⟨w.heap.size, 0, none⟩), .pointer (some ⟨w.heap.size + 1, 0, none⟩)]] 81)
  have hb4 := hb0to (hb0to (al_below w (.cells #[.pointer (some ⟨b, 0, none⟩)] 128)) (al_below _ (.cells #[.int .i64 v] 3))) (al_below _ (.cells #[.func (.func 158) #[] #[.pointer (some ⟨w.heap.size, 0, none⟩), .pointer (some ⟨w.heap.size + 1, 0, none⟩)]] 81))
  obtain ⟨W4, hW4⟩ : ∃ W4, ((w.alloc (.cells #[.pointer (some ⟨b, 0, none⟩)] 128)).alloc (.cells #[.int .i64 v] 3)).alloc (.cells #[.func (.func 158) #[] #[.pointer (some ⟨w.heap.size, 0, none⟩), .pointer (some ⟨w.heap.size + 1, 0, none⟩)]] 81) = W4 := ⟨_, rfl⟩
  rw [hW4] at h1 h2 h3 hb4
  have k1 := cell_of_heap (o := 0) h1 rfl
  have k2 := cell_of_heap (o := 0) h2 rfl
  have k3 := cell_of_heap (o := 0) h3 rfl
  have HO := Lib.hid (hO.below hb4)
  have HK1 := Lib.hid k1
  have HK2 := Lib.hid k2
  have HK3 := Lib.hid k3
  have HW4 := Lib.hid hW4
  have HB4 := Lib.hid hb4
  have HF := Lib.hid hf
  have hql := hf.ql
  have hwn := (win_of_sets (q := f.q) (rd := rd) hf.ql hf.pos).1
  have hw8 := Nat.lt_of_lt_of_le hwn (pow_eight hf.ql)
  have H80 := Lib.hid (winners_any F f hf rd b W4 HO.out)
  have H69 := Lib.hid (fun W => by have := list_any (winS f.q rd) hw8 W; rw [bits_eight hf.ql hwn] at this; exact this)
  have HIN := Lib.hid (show ∀ i ∈ bitsL f.q.length (winS f.q rd), i < f.q.length from fun i hi => bits_lt hi)
  have hll := Nat.le_trans (bits_len f.q.length (winS f.q rd)) hf.ql
  have HPV := Lib.hid (show payV f.q rd v = if (bitsL f.q.length (winS f.q rd)).any (ownP f.q v) = true then noneV f.q rd v - othersL f.q v (bitsL f.q.length (winS f.q rd)) else 0 from rfl)
  obtain ⟨l, hl⟩ : ∃ l, bitsL f.q.length (winS f.q rd) = l := ⟨_, rfl⟩
  rw [hl] at H69 HIN hll HPV
  clear h1 h2 h3 hW4 hb4 k1 k2 k3 hO hf hwn hw8 hl
  go_enter Try.func103, Try.ntmps103
  go_upto_region 2 with (fail)
  have e := HW4.out
  rw [e]
  clear e
  have k1 := HK1.out
  go_wp2_with (first
    | (go_at_call 92; refine H80.out.mono ?_; rintro e w1 ⟨rfl, hb1⟩; have HB1 := Lib.hid hb1; clear hb1 k1)
    | (go_at_call 93; refine (H69.out _).mono ?_; rintro e w2 ⟨⟨v2, rfl, hv2⟩, hb2⟩; have HB2 := Lib.hid (hb0to HB1.out hb2); obtain ⟨A2, c2, rfl, _, _, hI2⟩ := hv2.lay; rw [intsN_len]; have HI2 := Lib.hid hI2.at_; clear hb2 hv2 hI2))
  go_loopw [15, 6, 7] (fun i c o wr => ∃ (k : Nat) (x : Int), k ≤ l.length ∧ i = .int .i64 k ∧ c = .int .i64 (ownN f.q v (l.take k) : Int) ∧ o = .int .i64 x ∧ 0 ≤ x ∧ x ≤ 99 * (k : Int) ∧ Hid (x = othersL f.q v (l.take k)) ∧ Hid (Below w2.heap.size w2 wr)) (fun i _ _ _ => l.length - (intOf i).toNat)
  case atStart => exact ⟨0, 0, Nat.zero_le _, rfl, rfl, rfl, by omega, by omega, Lib.hid rfl, Lib.hid (Below.refl _ _)⟩
  case round =>
    obtain ⟨k, x, hk, rfl, rfl, rfl, hx0, hx1, hx, hb⟩ := hrel
    have hbw := hb0to HB2.out hb.out
    by_cases hlt : k < l.length
    · obtain ⟨i, hi⟩ : ∃ i, l[k]? = some i := ⟨_, List.getElem?_eq_getElem hlt⟩
      have hiq := HIN.out i (List.mem_of_getElem? hi)
      obtain ⟨y, hy⟩ : ∃ y, f.q[i]? = some y := ⟨_, List.getElem?_eq_getElem hiq⟩
      obtain ⟨b1, o1, rfl, b1lt, d1⟩ := HI2.out.at_ (intsN_at hi)
      have d2 := below_cell hb.out d1
      have HO2 := Lib.hid (HO.out.below hbw)
      have H99 := Lib.hid (own1_any F f rd b w.heap.size (w.heap.size + 1) i v y hy hql wr HO2.out (below_cell hbw HK1.out) (below_cell hbw HK2.out))
      have k3 := below_cell hbw HK3.out
      have HT := Lib.hid (show l.take (k + 1) = l.take k ++ [i] from (take_snoc_next hi).symm)
      have hon := ownN_le f.q v (l.take k)
      have htl : (l.take k).length ≤ 8 := by rw [List.length_take]; omega
      have hpy := HF.out.pay y (List.mem_of_getElem? hy)
      have HPY := Lib.hid (payAt_some hy)
      have HY := Lib.hid hy
      have HON := Lib.hid (ownN_snoc f.q v (l.take k) i)
      have HOT := Lib.hid (others_snoc f.q v (l.take k) i)
      have HB := Lib.hid hbw
      generalize ownN f.q v (l.take k) = c at hon HON ⊢
      clear hi hy d1 hbw
      cases ho : ownP f.q v i
      · rw [ho] at H99 HON HOT
        simp only [Bool.false_eq_true, if_false] at HON HOT
        clear ho
        obtain ⟨Al, cl, r, hOB, hLA, -⟩ := HO2.out.ex
        obtain ⟨lb, ol, rfl, lblt, mb, hmb, _, _, d3⟩ := hLA.at_ HY.out
        obtain ⟨_, _, _, _, _, _, _, _, g8, _⟩ := hOB.cells
        have G8 := Lib.hid g8
        have D3 := Lib.hid d3
        have K1R := Lib.hid (below_cell HB.out HK1.out)
        clear hOB hLA hmb g8 d3
        go_wp2_with (go_at_call 158; refine H99.out.mono ?_; rintro e w3 ⟨rfl, hb3⟩; have HB3 := Lib.hid hb3; have p1 := below_cell hb3 K1R.out; have p8 := below_cell hb3 G8.out; have p3 := below_cell hb3 D3.out; clear hb3)
        go_roundw
        case rel => exact ⟨k + 1, x + y.pay, by omega, by go_num, by rw [HT.out, HON.out], rfl, by omega, by omega, Lib.hid (by rw [HT.out, HOT.out, HPY.out, hx.out]), Lib.hid (hb0to hb.out HB3.out)⟩
        case measure => simp [intOf]; omega
      · rw [ho, if_pos rfl] at HON HOT
        rw [ho] at H99
        clear ho
        go_wp2_with (go_at_call 158; refine H99.out.mono ?_; rintro e w3 ⟨rfl, hb3⟩; have HB3 := Lib.hid hb3; clear hb3)
        go_roundw
        case rel => exact ⟨k + 1, x, by omega, by go_num, by rw [HT.out, HON.out]; go_num, rfl, hx0, by omega, Lib.hid (by rw [HT.out, HOT.out]; exact hx.out), Lib.hid (hb0to hb.out HB3.out)⟩
        case measure => simp [intOf]; omega
    · obtain rfl : k = l.length := by omega
      have hx2 := hx.out
      rw [List.take_length] at hx2 ⊢
      have HX2 := Lib.hid hx2
      have hnv := mostTo_bd hql HF.out.pay (noneM f.q v) (setsL f.q rd)
      have HNV := Lib.hid (show noneV f.q rd v = mostTo f.q (noneM f.q v) (setsL f.q rd) from rfl)
      have hoz := ownN_zero (q := f.q) (v := v) (l := l)
      have hon := ownN_le f.q v l
      have HB := Lib.hid hbw
      have hb3 := below_cell hbw HK1.out
      have H77 := Lib.hid (most_100 F f HF.out rd b (w.heap.size + 1 + 1) (noneM f.q v) wr (HO.out.below hbw) (fun m hm X hX => none2_any F f HF.out rd b w.heap.size (w.heap.size + 1) (w.heap.size + 1 + 1) v m hm X (HO.out.below (hb0to hbw hX)) (below_cell (hb0to hbw hX) HK1.out) (below_cell (hb0to hbw hX) HK2.out) (below_cell (hb0to hbw hX) HK3.out)))
      generalize ownN f.q v l = c at hoz hon ⊢
      generalize mostTo f.q (noneM f.q v) (setsL f.q rd) = z at hnv HNV H77
      clear hx hx2 hbw
      by_cases hz : c = 0
      · have hd : ((c : Int) == 0) = true := by simp [hz]
        have HQ := Lib.hid (show payV f.q rd v = 0 by rw [HPV.out, if_neg (hoz.1 hz)])
        clear hz hoz
        go_wp2_with (fail)
        go_ret
        exact ⟨by rw [HQ.out]; rfl, hb0to HB4.out HB.out⟩
      · have hd : ((c : Int) == 0) = false := by simp [hz]
        have HQ := Lib.hid (show payV f.q rd v = z - x by rw [HPV.out, if_pos (Classical.not_not.1 (fun h => hz (hoz.2 h))), HNV.out, HX2.out])
        clear hz hoz
        go_wp2_with (go_at_call 90; refine H77.out.mono ?_; rintro e w4 ⟨rfl, hb5⟩; have HB5 := Lib.hid hb5; clear hb5)
        go_ret
        exact ⟨by rw [HQ.out]; rfl, hb0to HB4.out (hb0to HB.out HB5.out)⟩

end Go.Proofs.Ytmbcpmnigggbaaa
