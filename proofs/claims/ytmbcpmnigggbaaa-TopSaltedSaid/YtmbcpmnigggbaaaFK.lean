import Derived.Test.YtmbcpmnigggbaaaFE
namespace Go.Proofs.Ytmbcpmnigggbaaa
open Go.RowKit

attribute [local go_sem] Oper.semAt_some
/-! winners 80. -/
theorem winTo_lt (q : List Bid) {N : Nat} (h0 : 0 < N) (S : List Nat) (h : ∀ m ∈ S, m < N) : (winTo q S).1 < N := by
  revert h
  refine snoc_indN (P := fun S => (∀ m ∈ S, m < N) → (winTo q S).1 < N) (fun _ => h0) (fun S x ih hm => ?_) S
  rw [winTo_snoc]
  unfold winStep
  split
  · exact hm x (by simp)
  · exact ih fun m hm' => hm m (by simp [hm'])
/-- A region that draws its order, in a round: from the world behind the draw on, S is held. -/
theorem wpIn_region_heldR {l n id : Nat} {P : Program} {L : List Oper} {Q : Exit → Act → World → Prop} {S : World → Prop} {a : Act} {w : World} (hQ : ¬ LetsOut Q) (hd : noDefer L = true) (hm : P.follows .mixedOrders = true) (hS : S w.drew)
    (h : S w.drew → wpAnyH P .any L.toArray Q S L.toArray.size (Array.replicate L.toArray.size false) a w.drew) : (Code.region id L.toArray true).wpIn (Fence.wide.inRound l) n P Q a w :=
  wpIn_region_any hm (wpAnyIn_round (fun i o ho => noDefer_at hd (by simpa using ho)) hQ _ _ _ _ (wpAny_of_held _ _ _ _ (h hS)))
structure WinI (w : World) (m : Nat) (n : Int) (X : World) : Prop where
  bl : Below w.heap.size w X
  b : X.heap[w.heap.size]? = some (.cells #[.int .i64 (m : Int)] 133 (0, 0))
  n : X.heap[w.heap.size + 1]? = some (.cells #[.int .i64 n] 3 (0, 0))
theorem WinI.kp {w : World} {m : Nat} {n : Int} {X Y : World} (h : WinI w m n X) {S : Nat → Prop} (hk : KpB S X.heap.size X Y) (hS : ∀ k, S k → w.heap.size + 2 ≤ k) : WinI w m n Y :=
  ⟨h.bl.trans (hk.belowOf h.bl.size (fun k hs => by have := hS k hs; omega)), (hk.block _ (heap_lt h.b) (fun hs => by have := hS _ hs; omega)).trans h.b, (hk.block _ (heap_lt h.n) (fun hs => by have := hS _ hs; omega)).trans h.n⟩
theorem WinI.set {w : World} {m : Nat} {n : Int} {X : World} (h : WinI w m n X) (m' : Nat) (n' : Int) : WinI w m' n' ((X.setCell ⟨w.heap.size, 0, none⟩ (.int .i64 (m' : Int))).setCell ⟨w.heap.size + 1, 0, none⟩ (.int .i64 n')) := by
  have z : (X.setCell ⟨w.heap.size, 0, none⟩ (.int .i64 (m' : Int))).heap.size = X.heap.size := by simp [World.setCell]
  exact ⟨(h.bl.setCell (Nat.le_refl _) _).setCell (by show w.heap.size ≤ w.heap.size + 1; omega) _,
    (set_other_heap (by rw [z]; exact heap_lt h.b) (by omega)).trans (heap_set _ h.b),
    heap_set _ ((set_other_heap (heap_lt h.n) (by omega)).trans h.n)⟩
set_option maxRecDepth 100000 in
set_option maxHeartbeats 4000000 in
theorem winners_any (F : FL) (f : Fair) (hf : FOK f) (rd : List Int) (b : Nat) (w : World) (hO : OpenAt w b F f rd) :
    Calls Try.prog 92 #[.pointer (some ⟨b, 0, none⟩)] w fun e w' => e = .returned (.int .i64 (winS f.q rd : Int)) ∧ Below w.heap.size w w' := by
  have h1 := heap_keep (o' := .cells #[.int .i64 0] 3) (heap_new1 w (.cells #[.int .i64 0] 133))
  have h2 := heap_new2 w (.cells #[.int .i64 0] 133) (.cells #[.int .i64 0] 3)
  have hb2 := hb0to (al_below w (.cells #[.int .i64 0] 133)) (al_below _ (.cells #[.int .i64 0] 3))
  obtain ⟨W2, hW2⟩ : ∃ W2, (w.alloc (.cells #[.int .i64 0] 133)).alloc (.cells #[.int .i64 0] 3) = W2 := ⟨_, rfl⟩
  rw [hW2] at h1 h2 hb2
  have q1 := cell_of_heap (o := 0) h1 rfl
  have q2 := cell_of_heap (o := 0) h2 rfl
  have q3 := frozen_of_heap h2
  have qb1 := heap_lt h1
  have qb2 := heap_lt h2
  have H1 := Lib.hid h1
  have H2 := Lib.hid h2
  have HB2 := Lib.hid hb2
  have HO := Lib.hid hO
  have HF := Lib.hid hf
  have hql := hf.ql
  clear h1 h2 hb2 hO hf
  refine (callsIn_wide (n := 10)).1 ?_
  refine callsIn_of_wp_marks Try.func92 rfl trivial ?_ rfl
  simp only [Try.ntmps92, List.size_toArray, List.length_cons, List.length_nil, Nat.reduceAdd, Nat.reduceSub, Array.replicate_succ, Array.replicate_zero, List.push_toArray, List.append_toArray, List.nil_append, List.cons_append]
  gi_wp2_with (fail)
  have hI1 : WinI w 0 (-1) (W2.setCell ⟨w.heap.size + 1, 0, none⟩ (.int .i64 (-1))) := ⟨HB2.out.setCell (by show w.heap.size ≤ w.heap.size + 1; omega) _, (set_other_heap (heap_lt H1.out) (by omega)).trans H1.out, heap_set _ H2.out⟩
  have hz1 : (W2.setCell ⟨w.heap.size + 1, 0, none⟩ (.int .i64 (-1))).heap.size = W2.heap.size := by simp [World.setCell]
  obtain ⟨W1, hW1⟩ : ∃ W1, W2.setCell ⟨w.heap.size + 1, 0, none⟩ (.int .i64 (-1)) = W1 := ⟨_, rfl⟩
  rw [hW1] at hI1 hz1 ⊢
  have HI1 := Lib.hid hI1
  have hzw : w.heap.size + 2 ≤ W1.heap.size := by omega
  clear hW1 q1 q2 q3 hI1 hz1 hW2
  refine wpIn_rangeFunc_makes (S := fun k => k = w.heap.size ∨ k = w.heap.size + 1) (Sees := SeesN f.q) (fb := #[.pointer (some ⟨b, 0, none⟩)]) (lb := #[]) (xs := setsL f.q rd) (w0 := W1) rfl (by omega) rfl trivial (fun _ _ => rfl)
    (sales_makes 9 F f HF.out rd b w W1 HO.out HI1.out.bl (fun k => k = w.heap.size ∨ k = w.heap.size + 1) (fun k hk => by omega)) (Below.refl _ _) (fun k hk => by omega)
    (fun B x args X hs => by cases hs; rfl) (fun B x args X Y _ hs hk => hs)
    (fun pre X => WinI w (winTo f.q pre).1 (winTo f.q pre).2 X)
    (fun c pre X => False)
    ?hI ?hIx ?h0 (fun x args a' X => a' = { tmps := #[.pointer (some ⟨b, 0, none⟩), undef, .int .i64 0, .pointer (some ⟨w.heap.size, 0, none⟩), .pointer (some ⟨w.heap.size + 1, 0, none⟩), args.getD 0 undef, args.getD 1 undef, undef, undef, .pointer (some ⟨b, 0, none⟩), .func (.func 140) #[.pointer (some ⟨b, 0, none⟩)] #[], args.getD 0 undef, args.getD 1 undef, undef, undef, undef, undef, undef, undef, undef, undef, undef, undef, undef, undef, undef, undef, undef, undef, undef, undef, undef, undef, undef, undef, undef, undef, undef, undef, undef, undef], defers := [] }) ?hAx ?hassign ?hbody ?hdone ?hstop
  case hI =>
    intro q X Y hX h hk
    exact h.kp hk (fun k hs => by have := hs.1; omega)
  case hIx => exact fun _ _ _ _ _ h _ => h.elim
  case h0 =>
    intro X hX hb
    exact HI1.out.kp (kpB_of_below hb (S := fun _ => False)) (fun _ h => h.elim)
  case hAx => exact fun _ _ _ _ _ _ h _ => h
  case hassign =>
    intro l' x args X K hz hs hK
    cases hs
    have hK' := hK _ X (.inl rfl) rfl
    clear hK
    simp only [List.zip_toArray, List.zip_cons_cons, List.zip_nil_right, List.foldl_toArray, List.foldl_cons, List.foldl_nil, List.setIfInBounds_toArray, List.set_cons_succ, List.set_cons_zero]
    gi_wp2_with (fail)
    exact hK'
  case hbody =>
    rintro l' pre m args a' X hX hpre hI hsee rfl
    cases hsee
    have hxm := (mem_setsTo.1 (hpre.subset (List.mem_append_right _ (List.mem_singleton.2 rfl)))).1
    have hbm := winTo_lt f.q (Nat.pow_pos (n := f.q.length) (show 0 < 2 by omega)) pre (fun k hk => (mem_setsTo.1 (hpre.subset (List.mem_append_left _ hk))).1)
    have HN := Lib.hid (winTo_snoc f.q pre m)
    have hz0 := brings_nonneg HF.out.pos (bitsL f.q.length m)
    generalize hst : winTo f.q pre = st at hI HN hbm
    obtain ⟨bm, n⟩ := st
    simp only at hI hbm
    unfold winStep at HN
    simp only at HN
    have hm8 : m < 256 := Nat.lt_of_lt_of_le hxm (pow_eight hql)
    have hb8 : bm < 256 := Nat.lt_of_lt_of_le hbm (pow_eight hql)
    have H69a := Lib.hid (fun W => by have := list_any m hm8 W; rw [bits_eight hql hxm] at this; exact this)
    have H69b := Lib.hid (fun W => by have := list_any bm hb8 W; rw [bits_eight hql hbm] at this; exact this)
    have hl1 := Nat.le_trans (bits_len f.q.length m) hql
    have hl2 := Nat.le_trans (bits_len f.q.length bm) hql
    generalize hv : bringsL f.q (bitsL f.q.length m) = v at HN hz0
    generalize hL1 : bitsL f.q.length m = L1 at HN H69a hl1
    generalize hL2 : bitsL f.q.length bm = L2 at HN H69b hl2
    have e0 := cell_of_heap (o := 0) hI.b rfl
    have e1 := cell_of_heap (o := 0) hI.n rfl
    have HI := Lib.hid hI
    clear hv hI hL1 hL2 hst hxm hbm hm8 hb8
    gi_wp2_with (fail)
    refine wpIn_region_heldR (S := fun w' => w'.cell? ⟨w.heap.size, 0, none⟩ = some (.int .i64 (bm : Int))) (by rintro ⟨_, _, hh⟩; exact hh) (by rfl) (by kernel_rfl) e0 (fun hHeld => ?_)
    refine wpAnyH_take (i := 0) (oi := _) (v := .int .i64 (m : Int)) rfl (by kernel_rfl) (by kernel_rfl) (by kernel_rfl) (fun _ _ _ h => h) (Or.inl ⟨by rfl, fun w hSw => ?_⟩) hHeld ?_
    · go_simp
    refine wpAnyH_take (i := 2) (oi := _) (v := .int .i64 (bm : Int)) rfl (by kernel_rfl) (by kernel_rfl) (by kernel_rfl) (fun _ _ _ h => h) (Or.inl ⟨by rfl, fun w hSw => ?_⟩) hHeld ?_
    · (try dsimp only at hSw); go_simp
    try simp only [Act.put, List.setIfInBounds_toArray, List.set_cons_zero, List.set_cons_succ]
    refine wpAnyH_ready (rs := [1]) (by kernel_rfl) (by simp) ?_
    refine AllReadyH.cons (o := _) rfl (fun K hK => ?_) AllReadyH.nil
    go_simp
    refine (H69a.out _).mono ?_
    rintro e w1 ⟨⟨v1, rfl, hv1⟩, hb1⟩
    have B1 := Lib.hid (hb0to (drew_below X) hb1)
    obtain ⟨A1, c1, rfl, _, _, hI1⟩ := hv1.lay
    rw [intsN_len]
    have HI1 := Lib.hid hI1.at_
    have s1 := below_cell B1.out e0
    clear hb1 hv1 hI1
    refine hK.out _ _ s1 (fun hHeld => ?_)
    clear hK K
    refine wpAnyH_ready (rs := [3]) (by kernel_rfl) (by simp) ?_
    refine AllReadyH.cons (o := _) rfl (fun K hK => ?_) AllReadyH.nil
    go_simp
    refine (H69b.out _).mono ?_
    rintro e w2 ⟨⟨v2, rfl, hv2⟩, hb2⟩
    have B2 := Lib.hid (hb0to B1.out hb2)
    have HI2a := Lib.hid (ints_later HI1.out hb2)
    obtain ⟨A2, c2, rfl, _, _, hI2⟩ := hv2.lay
    rw [intsN_len]
    have HI2 := Lib.hid hI2.at_
    have s2 := below_cell B2.out e0
    clear hb2 hv2 hI2
    refine hK.out _ _ s2 (fun hHeld => ?_)
    clear hK K
    refine wpAnyH_ready (rs := [4]) (by kernel_rfl) (by simp) ?_
    refine AllReadyH.cons (o := _) rfl (fun K hK => ?_) AllReadyH.nil
    go_simp
    refine hK.out _ _ s2 (fun hHeld => ?_)
    clear hK K
    refine wpAnyH_ready (rs := [5]) (by kernel_rfl) (by simp) ?_
    refine AllReadyH.cons (o := _) rfl (fun K hK => ?_) AllReadyH.nil
    go_simp
    refine hK.out _ _ s2 (fun hHeld => ?_)
    clear hK K
    refine wpAnyH_done (by kernel_rfl) ?_ _
    have hHI := HI.out.kp (S := fun _ => False) (kpB_of_below B2.out) (fun _ h => h.elim)
    have t0 := cell_of_heap (o := 0) hHI.b rfl
    have t1 := cell_of_heap (o := 0) hHI.n rfl
    have f0 := frozen_of_heap hHI.b
    have f1 := frozen_of_heap hHI.n
    have HHI := Lib.hid hHI
    have HLA := Lib.hid (or_ahead L1 L2)
    have H107 := Lib.hid (fun W hW1 hW2 => by have := compare_any (intsN L1) (intsN L2) A1 A2 c1 c2 (by rw [intsN_len]; omega) (by rw [intsN_len]; omega) W hW1 hW2; rw [intsN_len, intsN_len] at this; exact this)
    clear hHI e0 e1 s1 s2 hHeld
    have hq1 := heap_lt HHI.out.b
    have hq2 := heap_lt HHI.out.n
    have hne1 : ¬ w.heap.size = w2.heap.size := by omega
    have hne2 : ¬ w.heap.size + 1 = w2.heap.size := by omega
    by_cases hlt : n < v
    · rw [if_pos (.inl hlt)] at HN
      have hd1 : decide (n < v) = true := decide_eq_true hlt
      clear hlt
      gi_wp2_with (refine ⟨trivial, ?_⟩)
      all_goals first | (rename_i g1 g2; exact absurd g1 (by unfold undef; simp)) | skip
      refine ⟨((kpB_of_below B2.out).set _ _ (Or.inl (Or.inl rfl))).set _ _ (Or.inl (Or.inr rfl)), ?_⟩
      show WinI w (winTo f.q (pre ++ [m])).1 (winTo f.q (pre ++ [m])).2 _
      rw [HN.out]
      exact HHI.out.set m v
    · have hd1 : decide (n < v) = false := decide_eq_false hlt
      by_cases he : v = n
      · have hd2 : (v == n) = true := by simp [he]
        have hb3 := hb0to B2.out (al_below w2 (.cells #[.int .i64 ((L1.length : Int) - (L2.length : Int)), .int .i64 (cmpI (intsN L1) (intsN L2))] 3))
        by_cases ha : aheadP L1 L2
        · rw [if_pos (.inr ⟨he, ha⟩)] at HN
          have hd3 : decide (orI ((L1.length : Int) - (L2.length : Int)) (cmpI (intsN L1) (intsN L2)) < 0) = true := decide_eq_true (HLA.out.2 ha)
          have HHI3 := Lib.hid (HHI.out.kp (S := fun _ => False) (kpB_of_below (al_below w2 (.cells #[.int .i64 ((L1.length : Int) - (L2.length : Int)), .int .i64 (cmpI (intsN L1) (intsN L2))] 3))) (fun _ h => h.elim))
          clear HLA ha hlt he
          generalize cmpI (intsN L1) (intsN L2) = z at H107 hd3 hb3 HHI3
          have HB3 := Lib.hid hb3
          clear hb3
          gi_wp2_with (first
          | (refine ⟨trivial, ?_⟩; gi_at_call 142; refine (CallsIn.mono (CallsIn.inRound l' (callsIn_wide.2 (H107.out _ HI2a.out HI2.out))) ?_); rintro e W5 ⟨rfl, rfl⟩)
          | (refine ⟨trivial, ?_⟩; gi_at_call 141; refine (CallsIn.mono (CallsIn.inRound l' (callsIn_wide.2 (or_any ((L1.length : Int) - (L2.length : Int)) z w2.heap.size 2 _ (by simp [go_sem]) (by simp [go_sem])))) ?_); rintro e W6 ⟨rfl, rfl⟩))
          refine ⟨(((kpB_of_below B2.out).set _ _ (Or.inl (Or.inl rfl))).set _ _ (Or.inl (Or.inr rfl))).alloc _ (by simpa [World.setCell] using B2.out.size), ?_⟩
          show WinI w (winTo f.q (pre ++ [m])).1 (winTo f.q (pre ++ [m])).2 _
          rw [HN.out]
          exact (HHI.out.set m v).kp (S := fun _ => False) (kpB_of_below (al_below _ _)) (fun _ h => h.elim)
        · rw [if_neg (fun h => h.elim hlt (fun h => ha h.2))] at HN
          have hd3 : decide (orI ((L1.length : Int) - (L2.length : Int)) (cmpI (intsN L1) (intsN L2)) < 0) = false := decide_eq_false (fun h => ha (HLA.out.1 h))
          have HHI3 := Lib.hid (HHI.out.kp (S := fun _ => False) (kpB_of_below (al_below w2 (.cells #[.int .i64 ((L1.length : Int) - (L2.length : Int)), .int .i64 (cmpI (intsN L1) (intsN L2))] 3))) (fun _ h => h.elim))
          clear HLA ha hlt he
          generalize cmpI (intsN L1) (intsN L2) = z at H107 hd3 hb3 HHI3
          have HB3 := Lib.hid hb3
          clear hb3
          gi_wp2_with (first
          | (refine ⟨trivial, ?_⟩; gi_at_call 142; refine (CallsIn.mono (CallsIn.inRound l' (callsIn_wide.2 (H107.out _ HI2a.out HI2.out))) ?_); rintro e W5 ⟨rfl, rfl⟩)
          | (refine ⟨trivial, ?_⟩; gi_at_call 141; refine (CallsIn.mono (CallsIn.inRound l' (callsIn_wide.2 (or_any ((L1.length : Int) - (L2.length : Int)) z w2.heap.size 2 _ (by simp [go_sem]) (by simp [go_sem])))) ?_); rintro e W6 ⟨rfl, rfl⟩))
          refine ⟨kpB_of_below HB3.out, ?_⟩
          show WinI w (winTo f.q (pre ++ [m])).1 (winTo f.q (pre ++ [m])).2 _
          rw [HN.out]
          exact HHI3.out
      · have hd2 : (v == n) = false := by simp [he]
        rw [if_neg (fun h => h.elim hlt (fun h => he h.1))] at HN
        clear hlt he
        gi_wp2_with (refine ⟨trivial, ?_⟩)
        all_goals first | (rename_i g1 g2; exact absurd g1 (by unfold undef; simp)) | skip
        refine ⟨kpB_of_below B2.out, ?_⟩
        show WinI w (winTo f.q (pre ++ [m])).1 (winTo f.q (pre ++ [m])).2 _
        rw [HN.out]
        exact HHI.out
  case hdone =>
    rintro X hX hI hk
    have e1 := cell_of_heap (o := 0) hI.b rfl
    have HB := Lib.hid hI.bl
    have HK := Lib.hid hk
    clear hI hk
    gi_wp2_with (fail)
    refine ⟨by simp, .inl ⟨_, _, rfl, run_takeDeferred HK.out, ?_⟩⟩
    refine ⟨.int .i64 (winS f.q rd : Int), by simp [results, Try.results92, go_sem, winS], rfl, ?_⟩
    exact HB.out.trans (KpB.belowOf (S := fun k => k = W1.heap.size) ((KpB.refl _ _ _).put _ _ (.inl rfl)) HB.out.size (fun k hk => by omega))
  case hstop => exact fun _ _ _ _ _ h => h.elim

end Go.Proofs.Ytmbcpmnigggbaaa
namespace Go.Proofs.Ytmbcpmnigggbaaa
open Go.RowKit

theorem payAt_le {q : List Bid} (hq : ∀ b ∈ q, 0 ≤ b.pay ∧ b.pay ≤ 99) (i : Nat) : 0 ≤ payAt q i ∧ payAt q i ≤ 99 := by
  unfold payAt
  cases h : q[i]? with
  | none => simp
  | some b => exact hq b (List.mem_of_getElem? h)
theorem brings_le {q : List Bid} (hq : ∀ b ∈ q, 0 ≤ b.pay ∧ b.pay ≤ 99) : ∀ l : List Nat, bringsL q l ≤ 99 * (l.length : Int)
  | [] => by simp [bringsL]
  | i :: l => by
    have := brings_le hq l
    have := (payAt_le hq i).2
    rw [brings_cons, List.length_cons]
    omega
theorem mostTo_bd {q : List Bid} (hn : q.length ≤ 8) (hq : ∀ b ∈ q, 0 ≤ b.pay ∧ b.pay ≤ 99) (p : Nat → Bool) (S : List Nat) : -1 ≤ mostTo q p S ∧ mostTo q p S ≤ 792 := by
  have h0 := fun b hb => (hq b hb).1
  rcases (mostTo_ge q p h0 S).2 with ⟨e, _⟩ | ⟨m, _, _, e⟩
  · omega
  · have h1 := brings_le hq (bitsL q.length m)
    have h2 := bits_len q.length m
    have h3 := brings_nonneg h0 (bitsL q.length m)
    omega
theorem others_snoc (q : List Bid) (v : Int) (l : List Nat) (i : Nat) : othersL q v (l ++ [i]) = if ownP q v i = true then othersL q v l else othersL q v l + payAt q i := by
  unfold othersL
  rw [List.filter_append, brings_app]
  by_cases h : ownP q v i = true
  · rw [if_pos h, List.filter_cons_of_neg (by simp [h])]; simp [bringsL]
  · rw [if_neg h, List.filter_cons_of_pos (by simp [h])]; simp [bringsL]
def ownN (q : List Bid) (v : Int) (l : List Nat) : Nat := (l.filter (ownP q v)).length
theorem ownN_snoc (q : List Bid) (v : Int) (l : List Nat) (i : Nat) : ownN q v (l ++ [i]) = if ownP q v i = true then ownN q v l + 1 else ownN q v l := by
  unfold ownN
  rw [List.filter_append, List.length_append]
  by_cases h : ownP q v i = true
  · rw [if_pos h, List.filter_cons_of_pos h]; rfl
  · rw [if_neg h, List.filter_cons_of_neg h]; rfl
theorem ownN_le (q : List Bid) (v : Int) (l : List Nat) : ownN q v l ≤ l.length := List.length_filter_le _ _
theorem ownN_zero {q : List Bid} {v : Int} {l : List Nat} : ownN q v l = 0 ↔ ¬ l.any (ownP q v) = true := by
  unfold ownN
  rw [List.length_eq_zero_iff, List.filter_eq_nil_iff, List.any_eq_true]
  exact ⟨fun h ⟨i, hi, ho⟩ => h i hi ho, fun h i hi ho => h ⟨i, hi, ho⟩⟩
set_option maxRecDepth 100000 in
set_option maxHeartbeats 4000000 in
theorem pays_any (F : FL) (f : Fair) (hf : FOK f) (rd : List Int) (b : Nat) (v : Int) (w : World) (hO : OpenAt w b F f rd) :
    Calls Try.prog 103 #[.pointer (some ⟨b, 0, none⟩), .int .i64 v] w fun e w' => e = .returned (.int .i64 (payV f.q rd v)) ∧ Below w.heap.size w w' := by
  have h1 := heap_keep (o' := .cells #[.func (.func 158) #[] #[.pointer (some ⟨w.heap.size, 0, none⟩), .pointer (some ⟨w.heap.size + 1, 0, none⟩)]] 81) (heap_keep (o' := .cells #[.int .i64 v] 3) (heap_new1 w (.cells #[.pointer (some ⟨b, 0, none⟩)] 128)))
  have h2 := heap_keep (o' := .cells #[.func (.func 158) #[] #[.pointer (some ⟨w.heap.size, 0, none⟩), .pointer (some ⟨w.heap.size + 1, 0, none⟩)]] 81) (heap_new2 w (.cells #[.pointer (some ⟨b, 0, none⟩)] 128) (.cells #[.int .i64 v] 3))
  have h3 := heap_new3 w (.cells #[.pointer (some ⟨b, 0, none⟩)] 128) (.cells #[.int .i64 v] 3) (.cells #[.func (.func 158) #[] #[.pointer (some ⟨w.heap.size, 0, none⟩), .pointer (some ⟨w.heap.size + 1, 0, none⟩)]] 81)
  have hb4 := hb0to (hb0to (al_below w (.cells #[.pointer (some ⟨b, 0, none⟩)] 128)) (al_below _ (.cells #[.int .i64 v] 3))) (al_below _ (.cells #[.func (.func 158) #[] #[.pointer (some ⟨w.heap.size, 0, none⟩), .pointer (some ⟨w.heap.size + 1, 0, none⟩)]] 81))
  obtain ⟨W4, hW4⟩ : ∃ W4, ((w.alloc (.cells #[.pointer (some ⟨b, 0, none⟩)] 128)).alloc (.cells #[.int .i64 v] 3)).alloc (.cells #[.func (.func 158) #[] #[.pointer (some ⟨w.heap.size, 0, none⟩), .pointer (some ⟨w.heap.size + 1, 0, none⟩)]] 81) = W4 := ⟨_, rfl⟩
  rw [hW4] at h1 h2 h3 hb4
  have k1 := cell_of_heap (o := 0) h1 rfl
  have k2 := cell_of_heap (o := 0) h2 rfl
  have k3 := cell_of_heap (o := 0) h3 rfl
  have HO := Lib.hid (hO.below hb4)
  have HK1 := Lib.hid k1
  have HK2 := Lib.hid k2
  have HK3 := Lib.hid k3
  have HW4 := Lib.hid hW4
  have HB4 := Lib.hid hb4
  have HF := Lib.hid hf
  have hql := hf.ql
  have hwn := (win_of_sets (q := f.q) (rd := rd) hf.ql hf.pos).1
  have hw8 := Nat.lt_of_lt_of_le hwn (pow_eight hf.ql)
  have H80 := Lib.hid (winners_any F f hf rd b W4 HO.out)
  have H69 := Lib.hid (fun W => by have := list_any (winS f.q rd) hw8 W; rw [bits_eight hf.ql hwn] at this; exact this)
  have HIN := Lib.hid (show ∀ i ∈ bitsL f.q.length (winS f.q rd), i < f.q.length from fun i hi => bits_lt hi)
  have hll := Nat.le_trans (bits_len f.q.length (winS f.q rd)) hf.ql
  have HPV := Lib.hid (show payV f.q rd v = if (bitsL f.q.length (winS f.q rd)).any (ownP f.q v) = true then noneV f.q rd v - othersL f.q v (bitsL f.q.length (winS f.q rd)) else 0 from rfl)
  obtain ⟨l, hl⟩ : ∃ l, bitsL f.q.length (winS f.q rd) = l := ⟨_, rfl⟩
  rw [hl] at H69 HIN hll HPV
  clear h1 h2 h3 hW4 hb4 k1 k2 k3 hO hf hwn hw8 hl
  go_enter Try.func103, Try.ntmps103
  go_upto_region 2 with (fail)
  have e := HW4.out
  rw [e]
  clear e
  have k1 := HK1.out
  go_wp2_with (first
    | (go_at_call 92; refine H80.out.mono ?_; rintro e w1 ⟨rfl, hb1⟩; have HB1 := Lib.hid hb1; clear hb1 k1)
    | (go_at_call 93; refine (H69.out _).mono ?_; rintro e w2 ⟨⟨v2, rfl, hv2⟩, hb2⟩; have HB2 := Lib.hid (hb0to HB1.out hb2); obtain ⟨A2, c2, rfl, _, _, hI2⟩ := hv2.lay; rw [intsN_len]; have HI2 := Lib.hid hI2.at_; clear hb2 hv2 hI2))
  go_loopw [15, 6, 7] (fun i c o wr => ∃ (k : Nat) (x : Int), k ≤ l.length ∧ i = .int .i64 k ∧ c = .int .i64 (ownN f.q v (l.take k) : Int) ∧ o = .int .i64 x ∧ 0 ≤ x ∧ x ≤ 99 * (k : Int) ∧ Hid (x = othersL f.q v (l.take k)) ∧ Hid (Below w2.heap.size w2 wr)) (fun i _ _ _ => l.length - (intOf i).toNat)
  case atStart => exact ⟨0, 0, Nat.zero_le _, rfl, rfl, rfl, by omega, by omega, Lib.hid rfl, Lib.hid (Below.refl _ _)⟩
  case round =>
    obtain ⟨k, x, hk, rfl, rfl, rfl, hx0, hx1, hx, hb⟩ := hrel
    have hbw := hb0to HB2.out hb.out
    by_cases hlt : k < l.length
    · obtain ⟨i, hi⟩ : ∃ i, l[k]? = some i := ⟨_, List.getElem?_eq_getElem hlt⟩
      have hiq := HIN.out i (List.mem_of_getElem? hi)
      obtain ⟨y, hy⟩ : ∃ y, f.q[i]? = some y := ⟨_, List.getElem?_eq_getElem hiq⟩
      obtain ⟨b1, o1, rfl, b1lt, d1⟩ := HI2.out.at_ (intsN_at hi)
      have d2 := below_cell hb.out d1
      have HO2 := Lib.hid (HO.out.below hbw)
      have H99 := Lib.hid (own1_any F f rd b w.heap.size (w.heap.size + 1) i v y hy hql wr HO2.out (below_cell hbw HK1.out) (below_cell hbw HK2.out))
      have k3 := below_cell hbw HK3.out
      have HT := Lib.hid (show l.take (k + 1) = l.take k ++ [i] from (take_snoc_next hi).symm)
      have hon := ownN_le f.q v (l.take k)
      have htl : (l.take k).length ≤ 8 := by rw [List.length_take]; omega
      have hpy := HF.out.pay y (List.mem_of_getElem? hy)
      have HPY := Lib.hid (payAt_some hy)
      have HY := Lib.hid hy
      have HON := Lib.hid (ownN_snoc f.q v (l.take k) i)
      have HOT := Lib.hid (others_snoc f.q v (l.take k) i)
      have HB := Lib.hid hbw
      generalize ownN f.q v (l.take k) = c at hon HON ⊢
      clear hi hy d1 hbw
      cases ho : ownP f.q v i
      · rw [ho] at H99 HON HOT
        simp only [Bool.false_eq_true, if_false] at HON HOT
        clear ho
        obtain ⟨Al, cl, r, hOB, hLA, -⟩ := HO2.out.ex
        obtain ⟨lb, ol, rfl, lblt, mb, hmb, _, _, d3⟩ := hLA.at_ HY.out
        obtain ⟨_, _, _, _, _, _, _, _, g8, _⟩ := hOB.cells
        have G8 := Lib.hid g8
        have D3 := Lib.hid d3
        have K1R := Lib.hid (below_cell HB.out HK1.out)
        clear hOB hLA hmb g8 d3
        go_wp2_with (go_at_call 158; refine H99.out.mono ?_; rintro e w3 ⟨rfl, hb3⟩; have HB3 := Lib.hid hb3; have p1 := below_cell hb3 K1R.out; have p8 := below_cell hb3 G8.out; have p3 := below_cell hb3 D3.out; clear hb3)
        go_roundw
        case rel => exact ⟨k + 1, x + y.pay, by omega, by go_num, by rw [HT.out, HON.out], rfl, by omega, by omega, Lib.hid (by rw [HT.out, HOT.out, HPY.out, hx.out]), Lib.hid (hb0to hb.out HB3.out)⟩
        case measure => simp [intOf]; omega
      · rw [ho, if_pos rfl] at HON HOT
        rw [ho] at H99
        clear ho
        go_wp2_with (go_at_call 158; refine H99.out.mono ?_; rintro e w3 ⟨rfl, hb3⟩; have HB3 := Lib.hid hb3; clear hb3)
        go_roundw
        case rel => exact ⟨k + 1, x, by omega, by go_num, by rw [HT.out, HON.out]; go_num, rfl, hx0, by omega, Lib.hid (by rw [HT.out, HOT.out]; exact hx.out), Lib.hid (hb0to hb.out HB3.out)⟩
        case measure => simp [intOf]; omega
    · obtain rfl : k = l.length := by omega
      have hx2 := hx.out
      rw [List.take_length] at hx2 ⊢
      have HX2 := Lib.hid hx2
      have hnv := mostTo_bd hql HF.out.pay (noneM f.q v) (setsL f.q rd)
      have HNV := Lib.hid (show noneV f.q rd v = mostTo f.q (noneM f.q v) (setsL f.q rd) from rfl)
      have hoz := ownN_zero (q := f.q) (v := v) (l := l)
      have hon := ownN_le f.q v l
      have HB := Lib.hid hbw
      have hb3 := below_cell hbw HK1.out
      have H77 := Lib.hid (most_100 F f HF.out rd b (w.heap.size + 1 + 1) (noneM f.q v) wr (HO.out.below hbw) (fun m hm X hX => none2_any F f HF.out rd b w.heap.size (w.heap.size + 1) (w.heap.size + 1 + 1) v m hm X (HO.out.below (hb0to hbw hX)) (below_cell (hb0to hbw hX) HK1.out) (below_cell (hb0to hbw hX) HK2.out) (below_cell (hb0to hbw hX) HK3.out)))
      generalize ownN f.q v l = c at hoz hon ⊢
      generalize mostTo f.q (noneM f.q v) (setsL f.q rd) = z at hnv HNV H77
      clear hx hx2 hbw
      by_cases hz : c = 0
      · have hd : ((c : Int) == 0) = true := by simp [hz]
        have HQ := Lib.hid (show payV f.q rd v = 0 by rw [HPV.out, if_neg (hoz.1 hz)])
        clear hz hoz
        go_wp2_with (fail)
        go_ret
        exact ⟨by rw [HQ.out]; rfl, hb0to HB4.out HB.out⟩
      · have hd : ((c : Int) == 0) = false := by simp [hz]
        have HQ := Lib.hid (show payV f.q rd v = z - x by rw [HPV.out, if_pos (Classical.not_not.1 (fun h => hz (hoz.2 h))), HNV.out, HX2.out])
        clear hz hoz
        go_wp2_with (go_at_call 90; refine H77.out.mono ?_; rintro e w4 ⟨rfl, hb5⟩; have HB5 := Lib.hid hb5; clear hb5)
        go_ret
        exact ⟨by rw [HQ.out]; rfl, hb0to HB4.out (hb0to HB.out HB5.out)⟩

end Go.Proofs.Ytmbcpmnigggbaaa
namespace Go.Proofs.Ytmbcpmnigggbaaa
open Go.RowKit

/-! The program's functions: Most 40, Winners 42, Ready 29, Paid 32, Won 36, Pays 23, Need 37. -/
abbrev rdF (f : Fair) : List Int := readyL f.h f.pk f.day
def numRF (f : Fair) (is : Bool) (v : Int) : Int × Int := if askF f is = 0 then (v, 0) else (0, askF f is)
theorem numRF_ok {f : Fair} {is : Bool} {v : Int} (h : askF f is = 0) : numRF f is v = (v, 0) := if_pos h
theorem numRF_no {f : Fair} {is : Bool} {v er : Int} (h : er = askF f is) (h0 : er ≠ 0) : numRF f is v = (0, er) := by
  unfold numRF; rw [if_neg (by rw [← h]; exact h0), h]
def NumEnd (r : Int × Int) (e : Ending) : Prop := e = .returned (.tuple #[.int .i64 r.1, .int .i64 r.2])
theorem NumEnd.mk {r : Int × Int} {x y : Int} (h : r = (x, y)) : NumEnd r (.returned (.tuple #[.int .i64 x, .int .i64 y])) := by unfold NumEnd; rw [h]
def listRF (f : Fair) (is : Bool) (l : List Int) : List Int × Int := if askF f is = 0 then (l, 0) else ([], askF f is)
theorem listRF_ok {f : Fair} {is : Bool} {v : List Int} (h : askF f is = 0) : listRF f is v = (v, 0) := if_pos h
theorem listRF_no {f : Fair} {is : Bool} {v : List Int} {er : Int} (h : er = askF f is) (h0 : er ≠ 0) : listRF f is v = ([], er) := by
  unfold listRF; rw [if_neg (by rw [← h]; exact h0), h]
def ListEnd (r : List Int × Int) (B : Nat) (w' : World) (e : Ending) : Prop := ∃ v, e = .returned (.tuple #[v, .int .i64 r.2]) ∧ Ints w' B v r.1
theorem ListEnd.mk {r : List Int × Int} {B : Nat} {w' : World} {v : Value} {l : List Int} {y : Int} (h : r = (l, y)) (hv : Ints w' B v l) : ListEnd r B w' (.returned (.tuple #[v, .int .i64 y])) := by subst h; exact ⟨v, rfl, hv⟩
def mostRet (f : Fair) : Int × Int := numRF f true (mostV f.q (rdF f))
def winRet (f : Fair) : List Int × Int := listRF f true (intsN (winL f.q (rdF f)))
def paidRet (f : Fair) : Int × Int := numRF f true (paidTo f.q (rdF f) f.nb.toNat)
def isBuyer (f : Fair) (x : Int) : Bool := inR x 0 (f.nb - 1)
def payRet (f : Fair) (x : Int) : Int × Int := numRF f (isBuyer f x) (payV f.q (rdF f) x)
set_option maxRecDepth 100000 in
set_option maxHeartbeats 4000000 in
theorem Most_any (F : FL) (f : Fair) (hn : FN f) (w : World) (hF : FairAt w w.heap.size F f) : Calls Try.prog 33 #[F.enc f] w fun e w' => NumEnd (mostRet f) e ∧ Below w.heap.size w w' := by
  have hbw := al_below w (.cells #[.slice F.L.Ak f.h.ks.length F.L.ck, .int .i64 f.h.fl, .slice F.L.Ap f.h.ps.length F.L.cp, .slice F.L.Ab f.h.bs.length F.L.cb, .slice F.Ap f.pk.length F.cp, .int .i64 f.day, .int .i64 f.nb, .slice F.Aq f.q.length F.cq] 62)
  have HB := Lib.hid (FBox.new w F f)
  obtain ⟨c0, c1, c2, c3, c4, c5, c6, c7⟩ := (FBox.new w F f).cells
  obtain ⟨W0, hW0⟩ : ∃ W0, w.alloc (.cells #[.slice F.L.Ak f.h.ks.length F.L.ck, .int .i64 f.h.fl, .slice F.L.Ap f.h.ps.length F.L.cp, .slice F.L.Ab f.h.bs.length F.L.cb, .slice F.Ap f.pk.length F.cp, .int .i64 f.day, .int .i64 f.nb, .slice F.Aq f.q.length F.cq] 62) = W0 := ⟨_, rfl⟩
  rw [hW0] at hbw HB c0 c1 c2 c3 c4 c5 c6 c7
  have HBW := Lib.hid hbw
  have HW0 := Lib.hid hW0
  have HF := Lib.hid (hF.below hbw)
  clear hbw hW0 hF
  have HN := Lib.hid hn
  clear hn
  by_cases h0 : askF f true = 0
  · have H66 := Lib.hid (open_yes F f true HN.out W0 HF.out h0)
    have HV := Lib.hid (askF_ok h0).1
    have HFO := Lib.hid (FOK.of HV.out)
    have HA := Lib.hid h0
    clear h0
    obtain ⟨L, Ap, cp, Aq, cq⟩ := F
    go_enter Try.func33, Try.ntmps33
    go_upto_region 1 with (fail)
    have e := HW0.out
    rw [e]
    clear e
    go_wp2_with (first
      | (go_at_call 89; refine (H66.out).mono ?_; rintro e w1 ⟨⟨b, rfl, hbb, hO⟩, hb1⟩; have B1 := Lib.hid hb1; have HO := Lib.hid hO; have HBB := Lib.hid hbb; clear hb1 hO hbb)
      | (go_at_call 90; refine (most_78 _ f HFO.out _ b allM w1 HO.out (fun m hm X hX => (all_any78 m X).mono fun e X' h => ⟨h.1, h.2 ▸ Below.refl _ _⟩)).mono ?_; rintro e w2 ⟨rfl, hb2⟩; have B2 := Lib.hid hb2; clear hb2))
    go_ret2
    exact ⟨NumEnd.mk (numRF_ok HA.out), hb0to HBW.out (hb0to B1.out B2.out)⟩
  · have H66 := Lib.hid (open_no F f true HN.out W0 HF.out h0)
    obtain ⟨er, her⟩ : ∃ x, x = askF f true := ⟨_, rfl⟩
    have HQ := Lib.hid her
    rw [← her] at H66 h0
    have hd : (er != 0) = true := bne_iff_ne.2 h0
    clear h0 her
    obtain ⟨L, Ap, cp, Aq, cq⟩ := F
    go_enter Try.func33, Try.ntmps33
    go_upto_region 1 with (fail)
    have e := HW0.out
    rw [e]
    clear e
    go_wp2_with (go_at_call 89; refine (H66.out).mono ?_; rintro e w1 ⟨rfl, hb1⟩; have B1 := Lib.hid hb1; clear hb1)
    go_ret2
    exact ⟨NumEnd.mk (numRF_no HQ.out (bne_iff_ne.1 hd)), hb0to HBW.out B1.out⟩
set_option maxRecDepth 100000 in
set_option maxHeartbeats 4000000 in
theorem Winners_any (F : FL) (f : Fair) (hn : FN f) (w : World) (hF : FairAt w w.heap.size F f) : Calls Try.prog 34 #[F.enc f] w fun e w' => ListEnd (winRet f) w.heap.size w' e ∧ Below w.heap.size w w' := by
  have hbw := al_below w (.cells #[.slice F.L.Ak f.h.ks.length F.L.ck, .int .i64 f.h.fl, .slice F.L.Ap f.h.ps.length F.L.cp, .slice F.L.Ab f.h.bs.length F.L.cb, .slice F.Ap f.pk.length F.cp, .int .i64 f.day, .int .i64 f.nb, .slice F.Aq f.q.length F.cq] 62)
  have HB := Lib.hid (FBox.new w F f)
  obtain ⟨c0, c1, c2, c3, c4, c5, c6, c7⟩ := (FBox.new w F f).cells
  obtain ⟨W0, hW0⟩ : ∃ W0, w.alloc (.cells #[.slice F.L.Ak f.h.ks.length F.L.ck, .int .i64 f.h.fl, .slice F.L.Ap f.h.ps.length F.L.cp, .slice F.L.Ab f.h.bs.length F.L.cb, .slice F.Ap f.pk.length F.cp, .int .i64 f.day, .int .i64 f.nb, .slice F.Aq f.q.length F.cq] 62) = W0 := ⟨_, rfl⟩
  rw [hW0] at hbw HB c0 c1 c2 c3 c4 c5 c6 c7
  have HBW := Lib.hid hbw
  have HW0 := Lib.hid hW0
  have HF := Lib.hid (hF.below hbw)
  clear hbw hW0 hF
  have HN := Lib.hid hn
  clear hn
  by_cases h0 : askF f true = 0
  · have H66 := Lib.hid (open_yes F f true HN.out W0 HF.out h0)
    have HV := Lib.hid (askF_ok h0).1
    have HFO := Lib.hid (FOK.of HV.out)
    have HA := Lib.hid h0
    clear h0
    obtain ⟨L, Ap, cp, Aq, cq⟩ := F
    go_enter Try.func34, Try.ntmps34
    go_upto_region 1 with (fail)
    have e := HW0.out
    rw [e]
    clear e
    go_wp2_with (first
      | (go_at_call 89; refine (H66.out).mono ?_; rintro e w1 ⟨⟨b, rfl, hbb, hO⟩, hb1⟩; have B1 := Lib.hid hb1; have HO := Lib.hid hO; have HBB := Lib.hid hbb; clear hb1 hO hbb)
      | (go_at_call 92; refine (winners_any _ f HFO.out _ b w1 HO.out).mono ?_; rintro e w2 ⟨rfl, hb2⟩; have B2 := Lib.hid hb2; clear hb2)
      | (go_at_call 93; refine (list_any (winS f.q (rdF f)) (Nat.lt_of_lt_of_le (win_of_sets HFO.out.ql HFO.out.pos).1 (pow_eight HFO.out.ql)) w2).mono ?_; rintro e w3 ⟨⟨v3, rfl, hv3⟩, hb3⟩; have B3 := Lib.hid hb3; have HV3 := Lib.hid hv3; clear hb3 hv3))
    go_ret2
    have hv := HV3.out
    rw [bits_eight HFO.out.ql (win_of_sets HFO.out.ql HFO.out.pos).1] at hv
    have hall := hb0to HBW.out (hb0to B1.out (hb0to B2.out B3.out))
    exact ⟨ListEnd.mk (listRF_ok HA.out) (hv.mono (hb0to HBW.out (hb0to B1.out B2.out)).size), hall⟩
  · have H66 := Lib.hid (open_no F f true HN.out W0 HF.out h0)
    obtain ⟨er, her⟩ : ∃ x, x = askF f true := ⟨_, rfl⟩
    have HQ := Lib.hid her
    rw [← her] at H66 h0
    have hd : (er != 0) = true := bne_iff_ne.2 h0
    clear h0 her
    obtain ⟨L, Ap, cp, Aq, cq⟩ := F
    go_enter Try.func34, Try.ntmps34
    go_upto_region 1 with (fail)
    have e := HW0.out
    rw [e]
    clear e
    go_wp2_with (go_at_call 89; refine (H66.out).mono ?_; rintro e w1 ⟨rfl, hb1⟩; have B1 := Lib.hid hb1; clear hb1)
    go_ret2
    exact ⟨ListEnd.mk (listRF_no HQ.out (bne_iff_ne.1 hd)) (ints_nil _ _), hb0to HBW.out B1.out⟩
open Go.RowKit

/-! Paid 32, Won 36, Pays 23, Need 37. -/
theorem ownL_le {q : List Bid} (hq : ∀ b ∈ q, 0 ≤ b.pay) (v : Int) (l : List Nat) : ownL q v l ≤ bringsL q l := by
  have h1 := own_others q v l
  have h2 : 0 ≤ othersL q v l := brings_nonneg hq _
  omega
theorem payV_le {q : List Bid} {rd : List Int} (hn : q.length ≤ 8) (hq : ∀ b ∈ q, 0 ≤ b.pay ∧ b.pay ≤ 99) (v : Int) : 0 ≤ payV q rd v ∧ payV q rd v ≤ 792 := by
  have h0 := fun b hb => (hq b hb).1
  have h1 := payV_bd (rd := rd) hn h0 v
  have h2 := ownL_le h0 v (winL q rd)
  have h3 := brings_le hq (winL q rd)
  have h4 := bits_len q.length (winS q rd)
  unfold winL at h2 h3 h1
  omega
set_option maxRecDepth 100000 in
set_option maxHeartbeats 4000000 in
theorem Paid_any (F : FL) (f : Fair) (hn : FN f) (w : World) (hF : FairAt w w.heap.size F f) : Calls Try.prog 39 #[F.enc f] w fun e w' => NumEnd (paidRet f) e ∧ Below w.heap.size w w' := by
  have hbw := al_below w (.cells #[.slice F.L.Ak f.h.ks.length F.L.ck, .int .i64 f.h.fl, .slice F.L.Ap f.h.ps.length F.L.cp, .slice F.L.Ab f.h.bs.length F.L.cb, .slice F.Ap f.pk.length F.cp, .int .i64 f.day, .int .i64 f.nb, .slice F.Aq f.q.length F.cq] 62)
  have HB := Lib.hid (FBox.new w F f)
  obtain ⟨c0, c1, c2, c3, c4, c5, c6, c7⟩ := (FBox.new w F f).cells
  obtain ⟨W0, hW0⟩ : ∃ W0, w.alloc (.cells #[.slice F.L.Ak f.h.ks.length F.L.ck, .int .i64 f.h.fl, .slice F.L.Ap f.h.ps.length F.L.cp, .slice F.L.Ab f.h.bs.length F.L.cb, .slice F.Ap f.pk.length F.cp, .int .i64 f.day, .int .i64 f.nb, .slice F.Aq f.q.length F.cq] 62) = W0 := ⟨_, rfl⟩
  rw [hW0] at hbw HB c0 c1 c2 c3 c4 c5 c6 c7
  have HBW := Lib.hid hbw
  have HW0 := Lib.hid hW0
  have HF := Lib.hid (hF.below hbw)
  clear hbw hW0 hF
  have HN := Lib.hid hn
  clear hn
  by_cases h0 : askF f true = 0
  · have H66 := Lib.hid (open_yes F f true HN.out W0 HF.out h0)
    have HV := Lib.hid (askF_ok h0).1
    have HFO := Lib.hid (FOK.of HV.out)
    have HA := Lib.hid h0
    clear h0
    obtain ⟨nb, hnb⟩ := Int.eq_ofNat_of_zero_le HFO.out.n0
    have hnb4 : nb ≤ 4 := by have := HFO.out.n1; omega
    have HNB := Lib.hid hnb
    clear hnb
    obtain ⟨L, Ap, cp, Aq, cq⟩ := F
    go_enter Try.func39, Try.ntmps39
    go_upto_region 1 with (fail)
    have e := HW0.out
    rw [e]
    clear e
    go_wp2_with (first
      | (go_at_call 89; refine (H66.out).mono ?_; rintro e w1 ⟨⟨b, rfl, hbb, hO⟩, hb1⟩; have B1 := Lib.hid hb1; have HO := Lib.hid hO; have HBB := Lib.hid hbb; have r6 := (HB.out.of (hb1.block _ HB.out.lt)).cells.2.2.2.2.2.2.1; rw [HNB.out] at r6; clear hb1 hO hbb)
      | (fail))
    clear r6
    go_loopw [18, 6] (fun i s wr => ∃ (k : Nat) (x : Int), k ≤ nb ∧ i = .int .i64 k ∧ s = .int .i64 x ∧ 0 ≤ x ∧ x ≤ 792 * (k : Int) ∧ Hid (x = paidTo f.q (rdF f) k) ∧ Hid (Below w1.heap.size w1 wr)) (fun i _ _ => nb - (intOf i).toNat)
    case atStart => exact ⟨0, 0, Nat.zero_le _, rfl, rfl, by omega, by omega, Lib.hid rfl, Lib.hid (Below.refl _ _)⟩
    case round =>
      obtain ⟨k, x, hk, rfl, rfl, hx0, hx1, hx, hb⟩ := hrel
      by_cases hlt : k < nb
      · have hp := payV_le (rd := rdF f) HFO.out.ql HFO.out.pay (k : Int)
        have H68 := Lib.hid (pays_any _ f HFO.out _ b (k : Int) wr (HO.out.below hb.out))
        have HN := Lib.hid (show paidTo f.q (rdF f) (k + 1) = paidTo f.q (rdF f) k + payV f.q (rdF f) k from rfl)
        generalize payV f.q (rdF f) (k : Int) = p at hp H68 HN
        go_wp2_with (go_at_call 103; refine H68.out.mono ?_; rintro e w2 ⟨rfl, hb2⟩; have B2 := Lib.hid hb2; clear hb2)
        go_roundw
        case rel => exact ⟨k + 1, x + p, by omega, by go_num, rfl, by omega, by omega, Lib.hid (by rw [HN.out, hx.out]), Lib.hid (hb0to hb.out B2.out)⟩
        case measure => simp [intOf]; omega
      · obtain rfl : k = nb := by omega
        have HQ := Lib.hid (show paidRet f = (x, 0) by unfold paidRet; rw [numRF_ok HA.out, hx.out, HNB.out]; rfl)
        go_wp2_with (fail)
        go_ret2
        exact ⟨NumEnd.mk HQ.out, hb0to HBW.out (hb0to B1.out hb.out)⟩
  · have H66 := Lib.hid (open_no F f true HN.out W0 HF.out h0)
    obtain ⟨er, her⟩ : ∃ x, x = askF f true := ⟨_, rfl⟩
    have HQ := Lib.hid her
    rw [← her] at H66 h0
    have hd : (er != 0) = true := bne_iff_ne.2 h0
    clear h0 her
    obtain ⟨L, Ap, cp, Aq, cq⟩ := F
    go_enter Try.func39, Try.ntmps39
    go_upto_region 1 with (fail)
    have e := HW0.out
    rw [e]
    clear e
    go_wp2_with (go_at_call 89; refine (H66.out).mono ?_; rintro e w1 ⟨rfl, hb1⟩; have B1 := Lib.hid hb1; clear hb1)
    go_ret2
    exact ⟨NumEnd.mk (numRF_no HQ.out (bne_iff_ne.1 hd)), hb0to HBW.out B1.out⟩
theorem pay_eq {f : Fair} {x : Int} {is : Bool} (his : is = inR x 0 (IntKind.i64.wrap (f.nb - 1))) (v : Int) : numRF f (isBuyer f x) v = numRF f is v := by
  cases hv : validF f
  · unfold numRF; rw [askF_bad _ hv, askF_bad _ hv]
  · have h := FOK.of hv
    have h0 := h.n0
    have h1 := h.n1
    rw [his, IntWalk.i64_in _ (by omega)]
    rfl
set_option maxRecDepth 100000 in
set_option maxHeartbeats 4000000 in
theorem Pays_any (F : FL) (f : Fair) (hn : FN f) (x : Int) (w : World) (hF : FairAt w w.heap.size F f) : Calls Try.prog 48 #[F.enc f, .int .i64 x] w fun e w' => NumEnd (payRet f x) e ∧ Below w.heap.size w w' := by
  have hbw := al_below w (.cells #[.slice F.L.Ak f.h.ks.length F.L.ck, .int .i64 f.h.fl, .slice F.L.Ap f.h.ps.length F.L.cp, .slice F.L.Ab f.h.bs.length F.L.cb, .slice F.Ap f.pk.length F.cp, .int .i64 f.day, .int .i64 f.nb, .slice F.Aq f.q.length F.cq] 62)
  have HB := Lib.hid (FBox.new w F f)
  obtain ⟨c0, c1, c2, c3, c4, c5, c6, c7⟩ := (FBox.new w F f).cells
  obtain ⟨W0, hW0⟩ : ∃ W0, w.alloc (.cells #[.slice F.L.Ak f.h.ks.length F.L.ck, .int .i64 f.h.fl, .slice F.L.Ap f.h.ps.length F.L.cp, .slice F.L.Ab f.h.bs.length F.L.cb, .slice F.Ap f.pk.length F.cp, .int .i64 f.day, .int .i64 f.nb, .slice F.Aq f.q.length F.cq] 62) = W0 := ⟨_, rfl⟩
  rw [hW0] at hbw HB c0 c1 c2 c3 c4 c5 c6 c7
  have HBW := Lib.hid hbw
  have HW0 := Lib.hid hW0
  have HF := Lib.hid (hF.below hbw)
  clear hbw hW0 hF
  have HN := Lib.hid hn
  have hqn := hn.q
  obtain ⟨is, his⟩ : ∃ b, b = inR x 0 (IntKind.i64.wrap (f.nb - 1)) := ⟨_, rfl⟩
  have H67 := Lib.hid (fun W => by have := swithin_any x 0 (IntKind.i64.wrap (f.nb - 1)) W; rw [← his] at this; exact this)
  have HIS := Lib.hid his
  clear hn
  by_cases h0 : askF f is = 0
  · have hi := (askF_ok h0).2
    have HV := Lib.hid (askF_ok h0).1
    have HFO := Lib.hid (FOK.of HV.out)
    have HA := Lib.hid h0
    have H66 := Lib.hid (fun W hW => open_yes F f is HN.out W hW h0)
    have HR := Lib.hid (inR_true.1 (his.symm.trans hi))
    clear h0 his
    subst hi
    have HQ0 := Lib.hid (show payRet f x = (payV f.q (rdF f) x, 0) by unfold payRet; rw [pay_eq HIS.out, numRF_ok HA.out])
    have H68 := Lib.hid (fun b W hW => pays_any F f HFO.out (rdF f) b x W hW)
    obtain ⟨L, Ap, cp, Aq, cq⟩ := F
    go_enter Try.func48, Try.ntmps48
    go_upto_region 1 with (fail)
    have e := HW0.out
    rw [e]
    clear e
    go_region_held3 (fun w' => w'.cell? ⟨w.heap.size, 0, none⟩ = some (.slice L.Ak f.h.ks.length L.ck) ∧ w'.cell? ⟨w.heap.size, 1, none⟩ = some (.int .i64 f.h.fl) ∧ w'.cell? ⟨w.heap.size, 2, none⟩ = some (.slice L.Ap f.h.ps.length L.cp) ∧ w'.cell? ⟨w.heap.size, 3, none⟩ = some (.slice L.Ab f.h.bs.length L.cb) ∧ w'.cell? ⟨w.heap.size, 4, none⟩ = some (.slice Ap f.pk.length cp) ∧ w'.cell? ⟨w.heap.size, 5, none⟩ = some (.int .i64 f.day) ∧ w'.cell? ⟨w.heap.size, 6, none⟩ = some (.int .i64 f.nb) ∧ w'.cell? ⟨w.heap.size, 7, none⟩ = some (.slice Aq f.q.length cq)) (first | go_keep)
      (first
        | (go_at_call 110; refine (H67.out _).mono ?_; rintro e w1 ⟨rfl, rfl⟩)
        | (go_at_call 89; refine (H66.out _ (HF.out.below (by first | exact Below.refl _ _ | exact drew_below W0))).mono ?_; rintro e w2 ⟨⟨b, rfl, hbb, hO⟩, hb2⟩; have B2 := Lib.hid (by first | exact hb2 | exact hb0to (drew_below W0) hb2 : Below W0.heap.size W0 w2); have HO := Lib.hid hO; have HBB := Lib.hid hbb; clear hO hbb; obtain ⟨r0, r1, r2, r3, r4, r5, r6, r7⟩ := (HB.out.of (B2.out.block _ HB.out.lt)).cells; clear hb2))
    all_goals
      go_wp2_with (go_at_call 103; refine (H68.out b _ HO.out).mono ?_; rintro e w3 ⟨rfl, hb3⟩; have B3 := Lib.hid hb3; clear hb3)
      go_ret2
      exact ⟨NumEnd.mk HQ0.out, hb0to HBW.out (hb0to B2.out B3.out)⟩
  · have H66 := Lib.hid (fun W hW => open_no F f is HN.out W hW h0)
    obtain ⟨er, her⟩ : ∃ x, x = askF f is := ⟨_, rfl⟩
    have HQ := Lib.hid her
    rw [← her] at H66 h0
    have hd : (er != 0) = true := bne_iff_ne.2 h0
    clear h0 her his
    obtain ⟨L, Ap, cp, Aq, cq⟩ := F
    go_enter Try.func48, Try.ntmps48
    go_upto_region 1 with (fail)
    have e := HW0.out
    rw [e]
    clear e
    go_region_held3 (fun w' => w'.cell? ⟨w.heap.size, 0, none⟩ = some (.slice L.Ak f.h.ks.length L.ck) ∧ w'.cell? ⟨w.heap.size, 1, none⟩ = some (.int .i64 f.h.fl) ∧ w'.cell? ⟨w.heap.size, 2, none⟩ = some (.slice L.Ap f.h.ps.length L.cp) ∧ w'.cell? ⟨w.heap.size, 3, none⟩ = some (.slice L.Ab f.h.bs.length L.cb) ∧ w'.cell? ⟨w.heap.size, 4, none⟩ = some (.slice Ap f.pk.length cp) ∧ w'.cell? ⟨w.heap.size, 5, none⟩ = some (.int .i64 f.day) ∧ w'.cell? ⟨w.heap.size, 6, none⟩ = some (.int .i64 f.nb) ∧ w'.cell? ⟨w.heap.size, 7, none⟩ = some (.slice Aq f.q.length cq)) (first | go_keep)
      (first
        | (go_at_call 110; refine (H67.out _).mono ?_; rintro e w1 ⟨rfl, rfl⟩)
        | (go_at_call 89; refine (H66.out _ (HF.out.below (by first | exact Below.refl _ _ | exact drew_below W0))).mono ?_; rintro e w2 ⟨rfl, hb2⟩; have B2 := Lib.hid (by first | exact hb2 | exact hb0to (drew_below W0) hb2 : Below W0.heap.size W0 w2); obtain ⟨r0, r1, r2, r3, r4, r5, r6, r7⟩ := (HB.out.of (B2.out.block _ HB.out.lt)).cells; clear hb2))
    all_goals
      go_wp2_with (fail)
      go_ret2
      exact ⟨NumEnd.mk (by unfold payRet; rw [pay_eq HIS.out]; exact numRF_no HQ.out (bne_iff_ne.1 hd)), hb0to HBW.out B2.out⟩
end Go.Proofs.Ytmbcpmnigggbaaa
namespace Go.Proofs.Ytmbcpmnigggbaaa
open Go.RowKit

/-! The specification's IsBuyer 17, IsBid 35, IsDay 27, Check 48, ask 82. -/
theorem rwithin_any (n lo hi : Int) (w : World) : Calls Try.prog 86 #[.int .i64 n, .int .i64 lo, .int .i64 hi] w fun e w' => e = .returned (.bool (inR n lo hi)) ∧ w = w' := by
  go_enter Try.func86, Try.ntmps86
  go_wp2_with (go_at_call 28; refine (within1_any _ _ _ _).mono ?_; rintro e w' ⟨rfl, rfl⟩)
  go_ret
  exact ⟨rfl, rfl⟩
set_option maxRecDepth 100000 in
set_option maxHeartbeats 4000000 in
theorem rIsBuyer_any (F : FL) (f : Fair) (n : Int) (h0 : 0 ≤ f.nb) (h4 : f.nb ≤ 4) (w : World) : Calls Try.prog 87 #[F.enc f, .int .i64 n] w fun e w' => e = .returned (.bool (isBuyer f n)) ∧ Below w.heap.size w w' := by
  have hbw := al_below w (.cells #[.slice F.L.Ak f.h.ks.length F.L.ck, .int .i64 f.h.fl, .slice F.L.Ap f.h.ps.length F.L.cp, .slice F.L.Ab f.h.bs.length F.L.cb, .slice F.Ap f.pk.length F.cp, .int .i64 f.day, .int .i64 f.nb, .slice F.Aq f.q.length F.cq] 62)
  obtain ⟨c0, c1, c2, c3, c4, c5, c6, c7⟩ := (FBox.new w F f).cells
  obtain ⟨W0, hW0⟩ : ∃ W0, w.alloc (.cells #[.slice F.L.Ak f.h.ks.length F.L.ck, .int .i64 f.h.fl, .slice F.L.Ap f.h.ps.length F.L.cp, .slice F.L.Ab f.h.bs.length F.L.cb, .slice F.Ap f.pk.length F.cp, .int .i64 f.day, .int .i64 f.nb, .slice F.Aq f.q.length F.cq] 62) = W0 := ⟨_, rfl⟩
  rw [hW0] at hbw c0 c1 c2 c3 c4 c5 c6 c7
  have HBW := Lib.hid hbw
  have HW0 := Lib.hid hW0
  clear hbw hW0 c0 c1 c2 c3 c4 c5 c7
  obtain ⟨L, Ap, cp, Aq, cq⟩ := F
  go_enter Try.func87, Try.ntmps87
  go_upto_region 1 with (fail)
  have e := HW0.out
  rw [e]
  clear e
  go_wp2_with (go_at_call 86; refine (rwithin_any _ _ _ _).mono ?_; rintro e w' ⟨rfl, rfl⟩)
  go_ret
  exact ⟨rfl, HBW.out⟩
set_option maxRecDepth 100000 in
set_option maxHeartbeats 4000000 in
theorem rcheckF_any (F : FL) (f : Fair) (hn : FN f) (w : World) (hF : FairAt w w.heap.size F f) : Calls Try.prog 32 #[F.enc f] w fun e w' => e = .returned (.int .i64 (ckF f)) ∧ Below w.heap.size w w' := by
  have hbw := al_below w (.cells #[.slice F.L.Ak f.h.ks.length F.L.ck, .int .i64 f.h.fl, .slice F.L.Ap f.h.ps.length F.L.cp, .slice F.L.Ab f.h.bs.length F.L.cb, .slice F.Ap f.pk.length F.cp, .int .i64 f.day, .int .i64 f.nb, .slice F.Aq f.q.length F.cq] 62)
  have HB := Lib.hid (FBox.new w F f)
  obtain ⟨c0, c1, c2, c3, c4, c5, c6, c7⟩ := (FBox.new w F f).cells
  obtain ⟨W0, hW0⟩ : ∃ W0, w.alloc (.cells #[.slice F.L.Ak f.h.ks.length F.L.ck, .int .i64 f.h.fl, .slice F.L.Ap f.h.ps.length F.L.cp, .slice F.L.Ab f.h.bs.length F.L.cb, .slice F.Ap f.pk.length F.cp, .int .i64 f.day, .int .i64 f.nb, .slice F.Aq f.q.length F.cq] 62) = W0 := ⟨_, rfl⟩
  rw [hW0] at hbw HB c0 c1 c2 c3 c4 c5 c6 c7
  have HBW := Lib.hid hbw
  have HW0 := Lib.hid hW0
  have HF := Lib.hid (hF.below hbw)
  clear hbw hW0 hF
  have HN := Lib.hid hn
  have hqn := hn.q
  clear hn
  obtain ⟨L, Ap, cp, Aq, cq⟩ := F
  cases hv : validH f.h
  · rw [ckF_no (valid_no1 (by simp [packOK, hv]))]
    have H87 := Lib.hid (by have := rcheck_any L f.h HN.out.h W0 HF.out.h; rw [ckH_no hv] at this; exact this)
    clear hv
    go_enter Try.func32, Try.ntmps32
    go_upto_region 1 with (fail)
    have e := HW0.out
    rw [e]
    clear e
    go_wp2_with (first
      | (go_at_call 11; refine H87.out.mono ?_; rintro e W1 ⟨rfl, hb1⟩; have B1 := Lib.hid hb1; clear hb1))
    go_ret
    exact ⟨rfl, hb0to HBW.out B1.out⟩
  have HV := Lib.hid (HOK.ofValid hv)
  have H87 := Lib.hid (by have := rcheck_any L f.h HN.out.h W0 HF.out.h; rw [ckH_yes hv] at this; exact this)
  cases hg : goodB f.h f.pk
  · rw [ckF_no (valid_no1 (by simp [packOK, hg]))]
    have H88 := Lib.hid (fun W h1 h2 => by have := isPacking_any L f.h HV.out f.pk HN.out.p Ap cp W h1 h2; rw [hg] at this; exact this)
    clear hv hg
    go_enter Try.func32, Try.ntmps32
    go_upto_region 1 with (fail)
    have e := HW0.out
    rw [e]
    clear e
    go_wp2_with (first
      | (go_at_call 11; refine H87.out.mono ?_; rintro e W1 ⟨rfl, hb1⟩; have B1 := Lib.hid hb1; obtain ⟨g0, g1, g2, g3, g4, g5, g6, g7⟩ := (HB.out.of (hb1.block _ HB.out.lt)).cells; clear hb1)
      | (go_at_call 85; refine (H88.out W1 (HF.out.below B1.out).h (HF.out.below B1.out).p).mono ?_; rintro e W2 ⟨rfl, hb2⟩; have B2 := Lib.hid (hb0to B1.out hb2); clear hb2))
    go_ret
    exact ⟨rfl, hb0to HBW.out B2.out⟩
  have HPK : Hid (packOK f = true) := Lib.hid (by simp [packOK, hv, hg])
  have H88 := Lib.hid (fun W h1 h2 => by have := isPacking_any L f.h HV.out f.pk HN.out.p Ap cp W h1 h2; rw [hg] at this; exact this)
  clear hv hg
  cases h1 : inR f.day 0 20
  · rw [ckF_no (valid_no2 (by simp [numsOK, h1]))]
    go_enter Try.func32, Try.ntmps32
    go_upto_region 1 with (fail)
    have e := HW0.out
    rw [e]
    clear e
    go_wp2_with (first
      | (go_at_call 11; refine H87.out.mono ?_; rintro e W1 ⟨rfl, hb1⟩; have B1 := Lib.hid hb1; obtain ⟨g0, g1, g2, g3, g4, g5, g6, g7⟩ := (HB.out.of (hb1.block _ HB.out.lt)).cells; clear hb1)
      | (go_at_call 85; refine (H88.out W1 (HF.out.below B1.out).h (HF.out.below B1.out).p).mono ?_; rintro e W2 ⟨rfl, hb2⟩; have B2 := Lib.hid (hb0to B1.out hb2); obtain ⟨g0, g1, g2, g3, g4, g5, g6, g7⟩ := (HB.out.of (B2.out.block _ HB.out.lt)).cells; clear hb2)
      | (go_at_call 86; refine (rwithin_any _ _ _ _).mono ?_; rintro e w' ⟨rfl, rfl⟩))
    go_ret
    exact ⟨rfl, hb0to HBW.out B2.out⟩
  cases h2 : inR f.nb 0 4
  · rw [ckF_no (valid_no2 (by simp [numsOK, h2]))]
    go_enter Try.func32, Try.ntmps32
    go_upto_region 1 with (fail)
    have e := HW0.out
    rw [e]
    clear e
    go_wp2_with (first
      | (go_at_call 11; refine H87.out.mono ?_; rintro e W1 ⟨rfl, hb1⟩; have B1 := Lib.hid hb1; obtain ⟨g0, g1, g2, g3, g4, g5, g6, g7⟩ := (HB.out.of (hb1.block _ HB.out.lt)).cells; clear hb1)
      | (go_at_call 85; refine (H88.out W1 (HF.out.below B1.out).h (HF.out.below B1.out).p).mono ?_; rintro e W2 ⟨rfl, hb2⟩; have B2 := Lib.hid (hb0to B1.out hb2); obtain ⟨g0, g1, g2, g3, g4, g5, g6, g7⟩ := (HB.out.of (B2.out.block _ HB.out.lt)).cells; clear hb2)
      | (go_at_call 86; refine (rwithin_any _ _ _ _).mono ?_; rintro e w' ⟨rfl, rfl⟩))
    go_ret
    exact ⟨rfl, hb0to HBW.out B2.out⟩
  have hnbr := inR_true.1 h2
  by_cases h3 : 8 < f.q.length
  · rw [ckF_no (valid_no2 (by simp [numsOK]; omega))]
    go_enter Try.func32, Try.ntmps32
    go_upto_region 1 with (fail)
    have e := HW0.out
    rw [e]
    clear e
    go_wp2_with (first
      | (go_at_call 11; refine H87.out.mono ?_; rintro e W1 ⟨rfl, hb1⟩; have B1 := Lib.hid hb1; obtain ⟨g0, g1, g2, g3, g4, g5, g6, g7⟩ := (HB.out.of (hb1.block _ HB.out.lt)).cells; clear hb1)
      | (go_at_call 85; refine (H88.out W1 (HF.out.below B1.out).h (HF.out.below B1.out).p).mono ?_; rintro e W2 ⟨rfl, hb2⟩; have B2 := Lib.hid (hb0to B1.out hb2); obtain ⟨g0, g1, g2, g3, g4, g5, g6, g7⟩ := (HB.out.of (B2.out.block _ HB.out.lt)).cells; clear hb2)
      | (go_at_call 86; refine (rwithin_any _ _ _ _).mono ?_; rintro e w' ⟨rfl, rfl⟩))
    go_ret
    exact ⟨rfl, hb0to HBW.out B2.out⟩
  have HNU : Hid (numsOK f = true) := Lib.hid (by simp [numsOK, h1, h2]; omega)
  go_enter Try.func32, Try.ntmps32
  go_upto_region 1 with (fail)
  have e := HW0.out
  rw [e]
  clear e
  go_wp2_with (first
    | (go_at_call 11; refine H87.out.mono ?_; rintro e W1 ⟨rfl, hb1⟩; have B1 := Lib.hid hb1; obtain ⟨g0, g1, g2, g3, g4, g5, g6, g7⟩ := (HB.out.of (hb1.block _ HB.out.lt)).cells; clear hb1)
    | (go_at_call 85; refine (H88.out W1 (HF.out.below B1.out).h (HF.out.below B1.out).p).mono ?_; rintro e W2 ⟨rfl, hb2⟩; have B2 := Lib.hid (hb0to B1.out hb2); obtain ⟨g0, g1, g2, g3, g4, g5, g6, g7⟩ := (HB.out.of (B2.out.block _ HB.out.lt)).cells; clear hb2)
    | (go_at_call 86; refine (rwithin_any _ _ _ _).mono ?_; rintro e w' ⟨rfl, rfl⟩))
  clear h1 h2 g0 g1 g2 g3 g4 g5 g6 g7
  go_loopw [3] (fun i wr => ∃ k : Nat, k ≤ f.q.length ∧ i = .int .i64 k ∧ Hid (∀ j b, j < k → f.q[j]? = some b → bidOK f b = true) ∧ Hid (Below W0.heap.size W0 wr)) (fun i _ => f.q.length - (intOf i).toNat)
  case atStart => exact ⟨0, Nat.zero_le _, rfl, Lib.hid (fun j x hj => by omega), B2⟩
  case round =>
    obtain ⟨k, hk, rfl, hok, hb⟩ := hrel
    have hFr := HB.out.of (hb.out.block _ HB.out.lt)
    obtain ⟨g0, g1, g2, g3, g4, g5, g6, g7⟩ := hFr.cells
    by_cases hlt : k < f.q.length
    · obtain ⟨x, hx⟩ : ∃ x, f.q[k]? = some x := ⟨_, List.getElem?_eq_getElem hlt⟩
      obtain ⟨bk, ok, A', c', eA, hbk, d1, d2, d3, hA', hI⟩ := HF.out.q.at_ hx
      have e1 := below_cell hb.out d1
      have e2 := below_cell hb.out d2
      have e3 := below_cell hb.out d3
      have hx4 := HN.out.b x (List.mem_of_getElem? hx)
      have hbs := HN.out.h.2.2
      have HX := Lib.hid hx
      have HI := Lib.hid hI
      rw [show Aq = _ from eA] at g7
      have hb5 := al_below wr (.cells #[.int .i64 x.who, .slice A' x.bar.length c', .int .i64 x.pay] 68)
      have hbb := BBox.new wr A' c' x
      obtain ⟨W5, hW5⟩ : ∃ W5, wr.alloc (.cells #[.int .i64 x.who, .slice A' x.bar.length c', .int .i64 x.pay] 68) = W5 := ⟨_, rfl⟩
      rw [hW5] at hb5 hbb
      have HBB := Lib.hid hbb
      have HB5 := Lib.hid (hb0to hb.out hb5)
      have HW5 := Lib.hid hW5
      have HF5 := Lib.hid (HF.out.below HB5.out)
      have HFB := Lib.hid (HB.out.of (HB5.out.block _ HB.out.lt))
      have HEA := Lib.hid eA
      clear hx hI hA' d1 d2 d3 hb5 hbb hW5 hFr eA
      go_upto_region 9 with (fail)
      have e := HW5.out
      rw [e]
      clear e g0 g1 g2 g3 g4 g5 g6 g7 e1 e2 e3
      obtain ⟨k0, k1, k2⟩ := HBB.out.cells
      obtain ⟨g0, g1, g2, g3, g4, g5, g6, g7⟩ := HFB.out.cells
      cases h1 : isBuyer f x.who
      · have hno : Hid (bidOK f x = false) := Lib.hid (by have : inR x.who 0 (f.nb - 1) = false := h1; simp [bidOK, this])
        have H17 := Lib.hid (by have := rIsBuyer_any ⟨L, Ap, cp, Aq, cq⟩ f x.who hnbr.1 hnbr.2 W5; rw [h1] at this; exact this)
        clear h1
        go_wp2_with (go_at_call 87; refine H17.out.mono ?_; rintro e W6 ⟨rfl, hb6⟩; have B6 := Lib.hid (hb0to HB5.out hb6); clear hb6)
        go_ret
        exact ⟨by rw [ckF_no (bids_no HX.out hno.out)]; rfl, hb0to HBW.out B6.out⟩
      have H17 := Lib.hid (by have := rIsBuyer_any ⟨L, Ap, cp, Aq, cq⟩ f x.who hnbr.1 hnbr.2 W5; rw [h1] at this; exact this)
      by_cases h3 : x.bar.length = 0
      · have hno : Hid (bidOK f x = false) := Lib.hid (by simp [bidOK, List.length_eq_zero_iff.1 h3])
        have h3' : ((x.bar.length : Int) == 0) = true := by simpa using h3
        clear h1 h3
        go_wp2_with (go_at_call 87; refine H17.out.mono ?_; rintro e W6 ⟨rfl, hb6⟩; have B6 := Lib.hid (hb0to HB5.out hb6); have p1 := below_cell hb6 k1; clear hb6)
        go_ret
        exact ⟨by rw [ckF_no (bids_no HX.out hno.out)]; rfl, hb0to HBW.out B6.out⟩
      have h3' : ((x.bar.length : Int) == 0) = false := by simpa using h3
      have H89 := Lib.hid (fun W (hW : Below W5.heap.size W5 W) => rising_any x.bar hx4 f.h.bs.length A' c' W (ints_later HI.out (hb0to HB5.out hW)))
      cases h4 : riseB x.bar f.h.bs.length
      · have hno : Hid (bidOK f x = false) := Lib.hid (by simp [bidOK, h4])
        rw [h4] at H89
        clear h1 h3 h4
        go_wp2_with (first
          | (go_at_call 87; refine H17.out.mono ?_; rintro e W6 ⟨rfl, hb6⟩; have B6 := Lib.hid hb6; have p1 := below_cell hb6 k1; have p3 := below_cell hb6 g3; clear hb6)
          | (go_at_call 88; refine (H89.out W6 B6.out).mono ?_; rintro e W7 ⟨rfl, hb7⟩; have B7 := Lib.hid (hb0to B6.out hb7); clear hb7))
        go_ret
        exact ⟨by rw [ckF_no (bids_no HX.out hno.out)]; rfl, hb0to HBW.out (hb0to HB5.out B7.out)⟩
      rw [h4] at H89
      cases h5 : inR x.pay 0 99
      · have hno : Hid (bidOK f x = false) := Lib.hid (by simp [bidOK, h5])
        clear h1 h3 h4
        go_wp2_with (first
          | (go_at_call 87; refine H17.out.mono ?_; rintro e W6 ⟨rfl, hb6⟩; have B6 := Lib.hid hb6; have p1 := below_cell hb6 k1; have p3 := below_cell hb6 g3; clear hb6)
          | (go_at_call 88; refine (H89.out W6 B6.out).mono ?_; rintro e W7 ⟨rfl, hb7⟩; have B7 := Lib.hid (hb0to B6.out hb7); have p2 := below_cell B7.out k2; clear hb7)
          | (go_at_call 86; refine (rwithin_any _ _ _ _).mono ?_; rintro e w' ⟨rfl, rfl⟩))
        go_ret
        exact ⟨by rw [ckF_no (bids_no HX.out hno.out)]; rfl, hb0to HBW.out (hb0to HB5.out B7.out)⟩
      have hbk : Hid (bidOK f x = true) := Lib.hid (by have h1' : inR x.who 0 (f.nb - 1) = true := h1; have hne : x.bar ≠ [] := fun e => h3 (by rw [e]; rfl); simp [bidOK, h1', h4, h5, hne])
      clear h1 h3 h4
      go_wp2_with (first
        | (go_at_call 87; refine H17.out.mono ?_; rintro e W6 ⟨rfl, hb6⟩; have B6 := Lib.hid hb6; have p1 := below_cell hb6 k1; have p3 := below_cell hb6 g3; clear hb6)
        | (go_at_call 88; refine (H89.out W6 B6.out).mono ?_; rintro e W7 ⟨rfl, hb7⟩; have B7 := Lib.hid (hb0to B6.out hb7); have p2 := below_cell B7.out k2; clear hb7)
        | (go_at_call 86; refine (rwithin_any _ _ _ _).mono ?_; rintro e w' ⟨rfl, rfl⟩))
      go_roundw
      case rel => exact ⟨k + 1, by omega, by go_num, Lib.hid (fun m b hm hb' => by
        by_cases e : m = k
        · subst e
          have := HX.out.symm.trans hb'
          cases this
          exact hbk.out
        · exact hok.out m b (by omega) hb'), Lib.hid (hb0to HB5.out B7.out)⟩
      case measure => simp [intOf]; omega
    · obtain rfl : k = f.q.length := by omega
      have hall : Hid (f.q.all (bidOK f) = true) := Lib.hid (bids_all hok.out)
      clear hok hlt hk
      go_wp2_with (fail)
      go_ret
      exact ⟨by rw [ckF_yes (by rw [validF, HPK.out, HNU.out, hall.out]; rfl)]; rfl, hb0to HBW.out hb.out⟩
end Go.Proofs.Ytmbcpmnigggbaaa
namespace Go.Proofs.Ytmbcpmnigggbaaa
open Go.RowKit

/-! The specification's ReadyOf 90, Ready 49. -/
theorem rise_iff {l : List Int} {n : Int} : riseB l n = true ↔ l.Pairwise (· < ·) ∧ ∀ x ∈ l, 0 ≤ x ∧ x < n := by
  constructor
  · intro h
    have hat : ∀ (k : Nat) (x : Int), l[k]? = some x → (0 ≤ x ∧ x < n) ∧ ∀ y, 0 < k → l[k - 1]? = some y → y < x := fun k x hx => by
      have hk := (List.getElem?_eq_some_iff.1 hx).1
      have h1 := riseB_at h hk
      unfold riseOK at h1
      rw [Bool.and_eq_true, inR_true, show l.getD k 0 = x by simp [List.getD, hx]] at h1
      refine ⟨by omega, fun y hk0 hy => ?_⟩
      rw [show l.getD (k - 1) 0 = y by simp [List.getD, hy]] at h1
      have h2 := h1.2
      rw [Bool.or_eq_true, decide_eq_true_eq] at h2
      rcases h2 with h2 | h2
      · simp at h2; omega
      · exact h2
    refine ⟨?_, fun x hx => by obtain ⟨k, hk⟩ := List.mem_iff_getElem?.1 hx; exact (hat k x hk).1⟩
    rw [List.pairwise_iff_getElem]
    have step : ∀ (d i : Nat) (hi : i < l.length) (hj : i + d + 1 < l.length), l[i] < l[i + d + 1] := fun d => by
      induction d with
      | zero => intro i hi hj; exact (hat (i + 0 + 1) _ (List.getElem?_eq_getElem hj)).2 _ (by omega) (by simp)
      | succ d ih =>
        intro i hi hj
        have h1 := ih i hi (by omega)
        have h2 := (hat (i + (d + 1) + 1) _ (List.getElem?_eq_getElem hj)).2 (l[i + d + 1]'(by omega)) (by omega) (by rw [show i + (d + 1) + 1 - 1 = i + d + 1 by omega]; exact List.getElem?_eq_getElem (by omega))
        omega
    intro i j hi hj hij
    obtain ⟨d, rfl⟩ : ∃ d, j = i + d + 1 := ⟨j - i - 1, by omega⟩
    exact step d i hi hj
  · rintro ⟨h1, h2⟩
    refine riseB_yes fun k hk => ?_
    unfold riseOK
    rw [Bool.and_eq_true, inR_true, Bool.or_eq_true, decide_eq_true_eq]
    have hx : l.getD k 0 = l[k] := by simp [List.getD, List.getElem?_eq_getElem hk]
    have hm := h2 _ (List.getElem_mem hk)
    rw [hx]
    refine ⟨by omega, ?_⟩
    cases k with
    | zero => left; rfl
    | succ k =>
      right
      have hy : l.getD k 0 = l[k] := by simp [List.getD, List.getElem?_eq_getElem (show k < l.length by omega)]
      rw [show k + 1 - 1 = k by omega, hy]
      exact List.pairwise_iff_getElem.1 h1 k (k + 1) (by omega) hk (by omega)
def readyTo (h : House) (pk : List Int) (day : Int) (k : Nat) : List Int := ((List.range k).map fun i : Nat => (i : Int)).filter fun b => decide (b ∈ pk) && dOK h pk day b
theorem readyTo_succ (h : House) (pk : List Int) (day : Int) (k : Nat) : readyTo h pk day (k + 1) = readyTo h pk day k ++ if (decide ((k : Int) ∈ pk) && dOK h pk day k) = true then [(k : Int)] else [] := by
  unfold readyTo
  rw [List.range_succ, List.map_append, List.filter_append]
  congr 1
  cases hh : (decide ((k : Int) ∈ pk) && dOK h pk day k) <;> simp [hh]
theorem readyTo_len (h : House) (pk : List Int) (day : Int) (k : Nat) : (readyTo h pk day k).length ≤ k := by
  unfold readyTo
  refine Nat.le_trans (List.length_filter_le _ _) (by simp)
theorem inOf_nil {pk : List Int} {b : Int} : inOf pk b = [] ↔ b ∉ pk := by
  constructor
  · intro h hb
    obtain ⟨j, hj⟩ := List.getElem?_of_mem hb
    have : (j : Int) ∈ inOf pk b := mem_inTo.2 ⟨j, rfl, (List.getElem?_eq_some_iff.1 hj).1, by simp [barrelOf, List.getD, hj]⟩
    rw [h] at this; simp at this
  · intro h
    refine List.eq_nil_iff_forall_not_mem.2 fun i hi => ?_
    obtain ⟨j, -, hj, hb⟩ := mem_inTo.1 hi
    refine h ?_
    have := List.getElem?_eq_getElem hj
    rw [← hb]
    simp [barrelOf, List.getD, this]
theorem dOK_eq {f : Fair} (hf : FOK f) (day : Int) {b : Nat} (hb : b < f.h.bs.length) : dOK f.h f.pk day b = decide ((caskIn f.h (inOf f.pk b)).d ≤ day) := by
  have hbl := hf.bl
  have hp := goodB_parts hf.p
  unfold dOK
  rw [Int.toNat_natCast, caskOf_packed hp.1 (nb := f.h.bs.length) (hp.2.1.low (by omega)) (by omega) (by omega)]
set_option maxRecDepth 100000 in
set_option maxHeartbeats 4000000 in
theorem readyOf_any (F : FL) (f : Fair) (hn : FN f) (hf : FOK f) (w : World) (hF : FairAt w w.heap.size F f) : Calls Try.prog 95 #[F.enc f] w fun e w' => RowRet (rdF f) w.heap.size w' e ∧ Below w.heap.size w w' := by
  have hbw := al_below w (.cells #[.slice F.L.Ak f.h.ks.length F.L.ck, .int .i64 f.h.fl, .slice F.L.Ap f.h.ps.length F.L.cp, .slice F.L.Ab f.h.bs.length F.L.cb, .slice F.Ap f.pk.length F.cp, .int .i64 f.day, .int .i64 f.nb, .slice F.Aq f.q.length F.cq] 62)
  have HB := Lib.hid (FBox.new w F f)
  obtain ⟨c0, c1, c2, c3, c4, c5, c6, c7⟩ := (FBox.new w F f).cells
  obtain ⟨W0, hW0⟩ : ∃ W0, w.alloc (.cells #[.slice F.L.Ak f.h.ks.length F.L.ck, .int .i64 f.h.fl, .slice F.L.Ap f.h.ps.length F.L.cp, .slice F.L.Ab f.h.bs.length F.L.cb, .slice F.Ap f.pk.length F.cp, .int .i64 f.day, .int .i64 f.nb, .slice F.Aq f.q.length F.cq] 62) = W0 := ⟨_, rfl⟩
  rw [hW0] at hbw HB c0 c1 c2 c3 c4 c5 c6 c7
  have HBW := Lib.hid hbw
  have HW0 := Lib.hid hW0
  have HF := Lib.hid (hF.below hbw)
  clear hbw hW0 hF
  have HN := Lib.hid hn
  have HFO := Lib.hid hf
  have hbl := hf.bl
  have hpl : f.pk.length ≤ 6 := by have := (goodB_parts hf.p).1; have := (HOK.ofValid hf.h).pl; omega
  clear hn hf
  obtain ⟨L, Ap, cp, Aq, cq⟩ := F
  go_enter Try.func95, Try.ntmps95
  go_upto_region 1 with (fail)
  have e := HW0.out
  rw [e]
  clear e
  go_wp2_with (fail)
  go_loopw [3, 4] (fun s i wr => ∃ k : Nat, k ≤ f.h.bs.length ∧ i = .int .i64 k ∧ Hid (Ints wr W0.heap.size s (readyTo f.h f.pk f.day k)) ∧ Hid (Below W0.heap.size W0 wr)) (fun _ i _ => f.h.bs.length - (intOf i).toNat)
  case atStart => exact ⟨0, Nat.zero_le _, rfl, Lib.hid (ints_nil _ _), Lib.hid (Below.refl _ _)⟩
  case round =>
    obtain ⟨k, hk, rfl, hown, hb⟩ := hrel
    obtain ⟨g0, g1, g2, g3, g4, g5, g6, g7⟩ := (HB.out.of (hb.out.block _ HB.out.lt)).cells
    by_cases hlt : k < f.h.bs.length
    · have HT := Lib.hid (readyTo_succ f.h f.pk f.day k)
      have hlr := readyTo_len f.h f.pk f.day k
      have HFr := Lib.hid (HF.out.below hb.out)
      have H115 := Lib.hid (in_any f.pk (by omega) (k : Int) Ap cp wr HFr.out.p)
      have HDO := Lib.hid (dOK_eq HFO.out f.day hlt)
      have HIN := Lib.hid (inOf_nil (pk := f.pk) (b := (k : Int)))
      have hil : (inOf f.pk (k : Int)).length ≤ 6 := Nat.le_trans (inTo_len f.pk k f.pk.length) hpl
      have HPA := Lib.hid (show PartsOK f.h (inOf f.pk (k : Int)) from inTo_parts (by have := (goodB_parts HFO.out.p).1; omega))
      obtain ⟨ps, hps⟩ : ∃ ps, inOf f.pk (k : Int) = ps := ⟨_, rfl⟩
      rw [hps] at H115 HDO HIN hil HPA
      have H116 := Lib.hid (fun W A c hW (hI : IntsAt W W.heap.size A ps) => daysOf_any L f.h (HOK.ofValid HFO.out.h) ps (by omega) HPA.out A c W hW hI)
      clear hps
      go_upto_region 6 with (go_at_call 145; refine H115.out.mono ?_; rintro e w1 ⟨⟨v1, rfl, hv1⟩, hb1⟩; have B1 := Lib.hid (hb0to hb.out hb1); have B1r := Lib.hid hb1; obtain ⟨A1, c1, rfl, _, _, hI1⟩ := hv1.lay; have HI1 := Lib.hid hI1.at_; clear hb1 hv1 hI1)
      clear g0 g1 g2 g3 g4 g5 g6 g7
      obtain ⟨g0, g1, g2, g3, g4, g5, g6, g7⟩ := (HB.out.of (B1.out.block _ HB.out.lt)).cells
      have y0 := extB_cell g0
      have y1 := extB_cell g1
      have y2 := extB_cell g2
      have y3 := extB_cell g3
      have y5 := extB_cell g5
      by_cases he : ps = []
      · have hd : decide (0 < ps.length) = false := decide_eq_false (by rw [he]; simp)
        have hq : readyTo f.h f.pk f.day (k + 1) = readyTo f.h f.pk f.day k := by
          rw [HT.out, decide_eq_false (HIN.out.1 he)]; simp
        have HQ := Lib.hid hq
        clear hq he
        refine wp_region_ext (by kernel_rfl) (by kernel_rfl) ?_
        repeat (go_big_quiet_step (fail))
        refine wpQuiet_nil ?_
        rintro _ ⟨t1, rfl⟩
        clear y0 y1 y2 y3 y5 g0 g1 g2 g3 g4 g5 g6 g7
        have HB6 := Lib.hid (extB_below w1 t1)
        obtain ⟨W6, hW6⟩ : ∃ W6, extB w1 t1 = W6 := ⟨_, rfl⟩
        rw [hW6] at HB6 ⊢
        clear hW6
        go_wp2_with (fail)
        go_roundw
        case rel => exact ⟨k + 1, by omega, by go_num, Lib.hid (by rw [HQ.out]; exact (hown.out.below_ B1r.out (Nat.le_refl _)).below_ HB6.out (Nat.le_refl _)), Lib.hid (hb0to B1.out HB6.out)⟩
        case measure => simp [intOf]; omega
      · have hd : decide (0 < ps.length) = true := decide_eq_true (List.length_pos_iff.2 he)
        have HM : Hid ((k : Int) ∈ f.pk) := Lib.hid (Classical.not_not.1 (fun h => he (HIN.out.2 h)))
        have HF1 := Lib.hid (HF.out.below B1.out)
        have H116x := Lib.hid (fun z => H116.out (extB w1 z) A1 c1 (HF1.out.below (extB_below w1 z)).h (ints_later HI1.out (extB_below w1 z)))
        clear he
        generalize (caskIn f.h ps).d = dd at H116x HDO
        by_cases hdd : dd ≤ f.day
        · have hd2 : decide (dd ≤ f.day) = true := decide_eq_true hdd
          have HQ := Lib.hid (show readyTo f.h f.pk f.day (k + 1) = readyTo f.h f.pk f.day k ++ [(k : Int)] by rw [HT.out, decide_eq_true HM.out, HDO.out, hd2]; rfl)
          clear hdd
          refine wp_region_ext (by kernel_rfl) (by kernel_rfl) ?_
          repeat (go_big_quiet_step ((go_at_call 146; exact ext_call (H116x.out _))))
          refine wpQuiet_nil ?_
          rintro _ ⟨t1, rfl⟩
          clear y0 y1 y2 y3 y5 g0 g1 g2 g3 g4 g5 g6 g7
          have HB6 := Lib.hid (extB_below w1 t1)
          obtain ⟨W6, hW6⟩ : ∃ W6, extB w1 t1 = W6 := ⟨_, rfl⟩
          rw [hW6] at HB6 ⊢
          clear hW6
          have HOW := Lib.hid ((hown.out.below_ B1r.out (Nat.le_refl _)).below_ HB6.out (Nat.le_refl _))
          have hbz := hb0to B1.out HB6.out
          have hszw := hbz.size
          have HBZ := Lib.hid hbz
          clear hbz
          go_wp2_with (refine wpl_app (by rfl) _ _ (by rfl) W0.heap.size W0.heap.size _ (readyTo f.h f.pk f.day k) (k : Int) (by rfl) (HOW.out.alloc _) ⟨W6.heap.size, 0, none⟩ 1 (by rfl) (by simp [go_sem]) (by omega) (by simp; omega) (Nat.le_refl _) ?_; intro v7 w7 hown7 hb7; have H7 := Lib.hid hown7; have B7 := Lib.hid hb7; clear hown7 hb7)
          go_roundw
          case rel => exact ⟨k + 1, by omega, by go_num, Lib.hid (by rw [HQ.out]; exact H7.out), Lib.hid ((hb0to B1.out HB6.out).trans (((al_below W6 _).mono (hb0to B1.out HB6.out).size).trans B7.out))⟩
          case measure => simp [intOf]; omega
        · have hd2 : decide (dd ≤ f.day) = false := decide_eq_false hdd
          have HQ := Lib.hid (show readyTo f.h f.pk f.day (k + 1) = readyTo f.h f.pk f.day k by rw [HT.out, decide_eq_true HM.out, HDO.out, hd2]; simp)
          clear hdd
          refine wp_region_ext (by kernel_rfl) (by kernel_rfl) ?_
          repeat (go_big_quiet_step ((go_at_call 146; exact ext_call (H116x.out _))))
          refine wpQuiet_nil ?_
          rintro _ ⟨t1, rfl⟩
          clear y0 y1 y2 y3 y5 g0 g1 g2 g3 g4 g5 g6 g7
          have HB6 := Lib.hid (extB_below w1 t1)
          obtain ⟨W6, hW6⟩ : ∃ W6, extB w1 t1 = W6 := ⟨_, rfl⟩
          rw [hW6] at HB6 ⊢
          clear hW6
          go_wp2_with (fail)
          go_roundw
          case rel => exact ⟨k + 1, by omega, by go_num, Lib.hid (by rw [HQ.out]; exact (hown.out.below_ B1r.out (Nat.le_refl _)).below_ HB6.out (Nat.le_refl _)), Lib.hid (hb0to B1.out HB6.out)⟩
          case measure => simp [intOf]; omega
    · obtain rfl : k = f.h.bs.length := by omega
      go_wp2_with (fail)
      go_ret
      exact ⟨⟨_, rfl, hown.out.mono HBW.out.size⟩, hb0to HBW.out hb.out⟩
open Go.RowKit

/-! The specification's apart 117, isSale 93, IsSale 56, Brings 57. -/
abbrev bidE (x : Bid) (A : Option Addr) (c : Nat) : Value := .agg #[.int .i64 x.who, .slice A x.bar.length c, .int .i64 x.pay]
theorem apartB_no {x y : Bid} (h : x.who = y.who) : apartB x y = false := by unfold apartB; simp [h]
theorem apartB_in {x y : Bid} {n : Int} (h : n ∈ x.bar) (k : n ∈ y.bar) : apartB x y = false := by
  rw [← Bool.not_eq_true]
  exact fun e => (apart_iff.1 e).2 n h k
set_option maxRecDepth 100000 in
set_option maxHeartbeats 4000000 in
theorem apart_any (x y : Bid) (A B : Option Addr) (c d : Nat) (hx : x.bar.length ≤ 1000) (hy : y.bar.length ≤ 1000) (w : World) (hI : IntsAt w w.heap.size A x.bar) (hJ : IntsAt w w.heap.size B y.bar) :
    Calls Try.prog 144 #[bidE x A c, bidE y B d] w fun e w' => e = .returned (.bool (apartB x y)) ∧ Below w.heap.size w w' := by
  have h1 := heap_keep (o' := .cells #[.int .i64 y.who, .slice B y.bar.length d, .int .i64 y.pay] 68) (heap_new1 w (.cells #[.int .i64 x.who, .slice A x.bar.length c, .int .i64 x.pay] 68))
  have h2 := heap_new2 w (.cells #[.int .i64 x.who, .slice A x.bar.length c, .int .i64 x.pay] 68) (.cells #[.int .i64 y.who, .slice B y.bar.length d, .int .i64 y.pay] 68)
  have hb2 := hb0to (al_below w (.cells #[.int .i64 x.who, .slice A x.bar.length c, .int .i64 x.pay] 68)) (al_below _ (.cells #[.int .i64 y.who, .slice B y.bar.length d, .int .i64 y.pay] 68))
  obtain ⟨W2, hW2⟩ : ∃ W2, (w.alloc (.cells #[.int .i64 x.who, .slice A x.bar.length c, .int .i64 x.pay] 68)).alloc (.cells #[.int .i64 y.who, .slice B y.bar.length d, .int .i64 y.pay] 68) = W2 := ⟨_, rfl⟩
  rw [hW2] at h1 h2 hb2
  have H1 := Lib.hid h1
  have H2 := Lib.hid h2
  have HB2 := Lib.hid hb2
  have HW2 := Lib.hid hW2
  have HI := Lib.hid (ints_later hI hb2)
  have HJ := Lib.hid (ints_later hJ hb2)
  have a0 := cell_of_heap (o := 0) h1 rfl
  have a1 := cell_of_heap (o := 1) h1 rfl
  have b0 := cell_of_heap (o := 0) h2 rfl
  have b1 := cell_of_heap (o := 1) h2 rfl
  clear h1 h2 hb2 hW2 hI hJ
  by_cases hw : x.who = y.who
  · have hd : (x.who == y.who) = true := by simp [hw]
    have HQ := Lib.hid (apartB_no hw)
    clear hw
    go_enter Try.func144, Try.ntmps144
    go_upto_region 1 with (fail)
    have e := HW2.out
    rw [e]
    clear e
    go_wp2_with (fail)
    go_ret
    exact ⟨by rw [HQ.out]; rfl, HB2.out⟩
  · have hd : (x.who == y.who) = false := by simp [hw]
    have HWH := Lib.hid hw
    clear hw
    go_enter Try.func144, Try.ntmps144
    go_upto_region 1 with (fail)
    have e := HW2.out
    rw [e]
    clear e
    go_wp2_with (fail)
    clear a0 a1 b0 b1
    go_loopw [5] (fun i wr => ∃ k : Nat, k ≤ x.bar.length ∧ i = .int .i64 k ∧ Hid (∀ j n, j < k → x.bar[j]? = some n → n ∉ y.bar) ∧ Hid (Below W2.heap.size W2 wr)) (fun i _ => x.bar.length - (intOf i).toNat)
    case atStart => exact ⟨0, Nat.zero_le _, rfl, Lib.hid (fun j n hj => by omega), Lib.hid (Below.refl _ _)⟩
    case round =>
      obtain ⟨k, hk, rfl, hno, hb⟩ := hrel
      have a1 := below_cell hb.out (cell_of_heap (o := 1) H1.out rfl)
      have b1 := below_cell hb.out (cell_of_heap (o := 1) H2.out rfl)
      by_cases hlt : k < x.bar.length
      · obtain ⟨n, hn⟩ : ∃ n, x.bar[k]? = some n := ⟨_, List.getElem?_eq_getElem hlt⟩
        obtain ⟨b', o', eA, b1lt, d1⟩ := HI.out.at_ hn
        have d2 := below_cell hb.out d1
        subst eA
        have ya := extB_cell a1
        have yb := extB_cell b1
        have yd := extB_cell d2
        have H24 := Lib.hid (fun z => rIn_any y.bar hy n B d (extB wr z) (ints_later (ints_later HJ.out hb.out) (extB_below wr z)))
        have HN := Lib.hid hn
        clear hn d1
        cases hin : decide (n ∈ y.bar)
        · rw [hin] at H24
          have HNI := Lib.hid (of_decide_eq_false hin)
          clear hin
          go_upto_region 6 with (fail)
          refine wp_region_ext (by kernel_rfl) (by kernel_rfl) ?_
          repeat (go_big_quiet_step ((go_at_call 77; exact ext_call (H24.out _))))
          refine wpQuiet_nil ?_
          rintro _ ⟨t1, rfl⟩
          clear ya yb yd a1 b1 d2
          have HB6 := Lib.hid (extB_below wr t1)
          obtain ⟨W6, hW6⟩ : ∃ W6, extB wr t1 = W6 := ⟨_, rfl⟩
          rw [hW6] at HB6 ⊢
          clear hW6
          go_wp2_with (fail)
          go_roundw
          case rel => exact ⟨k + 1, by omega, by go_num, Lib.hid (fun j m hj hm => by
            by_cases e : j = k
            · subst e; have := HN.out.symm.trans hm; cases this; exact HNI.out
            · exact hno.out j m (by omega) hm), Lib.hid (hb0to hb.out HB6.out)⟩
          case measure => simp [intOf]; omega
        · rw [hin] at H24
          have HQ := Lib.hid (apartB_in (List.mem_of_getElem? HN.out) (of_decide_eq_true hin))
          clear hin
          go_upto_region 6 with (fail)
          refine wp_region_ext (by kernel_rfl) (by kernel_rfl) ?_
          repeat (go_big_quiet_step ((go_at_call 77; exact ext_call (H24.out _))))
          refine wpQuiet_nil ?_
          rintro _ ⟨t1, rfl⟩
          clear ya yb yd a1 b1 d2
          have HB6 := Lib.hid (extB_below wr t1)
          obtain ⟨W6, hW6⟩ : ∃ W6, extB wr t1 = W6 := ⟨_, rfl⟩
          rw [hW6] at HB6 ⊢
          clear hW6
          go_wp2_with (fail)
          go_ret
          exact ⟨by rw [HQ.out]; rfl, hb0to HB2.out (hb0to hb.out HB6.out)⟩
      · obtain rfl : k = x.bar.length := by omega
        have HQ := Lib.hid (show apartB x y = true from apart_iff.2 ⟨HWH.out, fun n hn => by
          obtain ⟨j, hj⟩ := List.getElem?_of_mem hn
          exact hno.out j n (List.getElem?_eq_some_iff.1 hj).1 hj⟩)
        go_wp2_with (fail)
        go_ret
        exact ⟨by rw [HQ.out]; rfl, hb0to HB2.out hb.out⟩
end Go.Proofs.Ytmbcpmnigggbaaa
namespace Go.Proofs.Ytmbcpmnigggbaaa
open Go.RowKit

/-! Good 50. -/
theorem bits_or : ∀ N, N ≤ 8 → ∀ j, j < N → ∀ m, m < 2 ^ j → bitsL N (m ||| 2 ^ j) = bitsL N m ++ [j] ∧ m ||| 2 ^ j < 2 ^ (j + 1) := by decide +kernel
def BoolEnd (r : Bool × Int) (e : Ending) : Prop := e = .returned (.tuple #[.bool r.1, .int .i64 r.2])
theorem BoolEnd.mk {r : Bool × Int} {x : Bool} {y : Int} (h : r = (x, y)) : BoolEnd r (.returned (.tuple #[.bool x, .int .i64 y])) := by unfold BoolEnd; rw [h]
/-- What Good knows of the first numbers of a list: their bits. -/
structure GoodTo (q : List Bid) (l : List Int) (k m b : Nat) : Prop where
  lt : m < 2 ^ b
  le : b ≤ q.length
  bits : bitsL q.length m = (l.take k).map Int.toNat
  last : 0 < k → (b : Int) = l.getD (k - 1) 0 + 1
  zero : k = 0 → b = 0
theorem GoodTo.next {q : List Bid} {l : List Int} {k m b n : Nat} (h : GoodTo q l k m b) (hq : q.length ≤ 8) (hx : l[k]? = some (n : Int)) (hn : n < q.length) (hb : b ≤ n) : GoodTo q l (k + 1) (m ||| 2 ^ n) (n + 1) := by
  obtain ⟨h1, h2⟩ := bits_or q.length hq n hn m (Nat.lt_of_lt_of_le h.lt (Nat.pow_le_pow_right (by omega) hb))
  refine ⟨h2, hn, ?_, fun _ => ?_, fun h => by omega⟩
  · rw [h1, h.bits, (take_snoc_next hx).symm, List.map_append]; simp
  · rw [Nat.add_sub_cancel, List.getD, hx]; simp
end Go.Proofs.Ytmbcpmnigggbaaa
