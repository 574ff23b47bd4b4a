import Derived.Test.YtmbcpmnigggbaaaFA
namespace Go.Proofs.Ytmbcpmnigggbaaa
open Go.RowKit

attribute [local go_sem] Oper.semAt_some
/-! most 77, with each function that is handed to it. -/
/-- What most knows between two rounds. -/
structure MostI (w : World) (fv : Value) (n : Int) (X : World) : Prop where
  bl : Below w.heap.size w X
  s : X.heap[w.heap.size]? = some (.cells #[fv] 132 (0, 0))
  n : X.heap[w.heap.size + 1]? = some (.cells #[.int .i64 n] 3 (0, 0))
theorem MostI.kp {w : World} {fv : Value} {n : Int} {X Y : World} (h : MostI w fv n X) {S : Nat → Prop} (hk : KpB S X.heap.size X Y) (hS : ∀ k, S k → w.heap.size + 2 ≤ k) : MostI w fv n Y :=
  ⟨h.bl.trans (hk.belowOf h.bl.size (fun k hs => by have := hS k hs; omega)), (hk.block _ (heap_lt h.s) (fun hs => by have := hS _ hs; omega)).trans h.s, (hk.block _ (heap_lt h.n) (fun hs => by have := hS _ hs; omega)).trans h.n⟩
theorem MostI.set {w : World} {fv : Value} {n : Int} {X : World} (h : MostI w fv n X) (m : Int) : MostI w fv m (X.setCell ⟨w.heap.size + 1, 0, none⟩ (.int .i64 m)) :=
  ⟨h.bl.setCell (by show w.heap.size ≤ w.heap.size + 1; omega) _, (set_other_heap (heap_lt h.s) (by omega)).trans h.s, heap_set _ h.n⟩
set_option maxRecDepth 100000 in
set_option maxHeartbeats 4000000 in
theorem most_78 (F : FL) (f : Fair) (hf : FOK f) (rd : List Int) (b : Nat) (p : Nat → Bool) (w : World) (hO : OpenAt w b F f rd)
    (hP : ∀ m : Nat, m < 2 ^ f.q.length → ∀ X, Below w.heap.size w X → Calls Try.prog 91 #[.int .i64 (m : Int)] X fun e X' => e = .returned (.bool (p m)) ∧ Below X.heap.size X X') :
    Calls Try.prog 90 #[.pointer (some ⟨b, 0, none⟩), .func (.func 91) #[] #[]] w fun e w' => e = .returned (.int .i64 (mostTo f.q p (setsL f.q rd))) ∧ Below w.heap.size w w' := by
  have h1 := heap_keep (o' := .cells #[.int .i64 0] 3) (heap_new1 w (.cells #[.func (.func 91) #[] #[]] 132))
  have h2 := heap_new2 w (.cells #[.func (.func 91) #[] #[]] 132) (.cells #[.int .i64 0] 3)
  have hb2 := hb0to (al_below w (.cells #[.func (.func 91) #[] #[]] 132)) (al_below _ (.cells #[.int .i64 0] 3))
  obtain ⟨W2, hW2⟩ : ∃ W2, (w.alloc (.cells #[.func (.func 91) #[] #[]] 132)).alloc (.cells #[.int .i64 0] 3) = W2 := ⟨_, rfl⟩
  rw [hW2] at h1 h2 hb2
  have q1 := cell_of_heap (o := 0) h1 rfl
  have q2 := cell_of_heap (o := 0) h2 rfl
  have q3 := frozen_of_heap h2
  have qb1 := heap_lt h1
  have qb2 := heap_lt h2
  have H1 := Lib.hid h1
  have H2 := Lib.hid h2
  have HB2 := Lib.hid hb2
  have HO := Lib.hid hO
  have HF := Lib.hid hf
  have HP := Lib.hid hP
  clear h1 h2 hb2 hO hf hP
  refine (callsIn_wide (n := 10)).1 ?_
  refine callsIn_of_wp_marks Try.func90 rfl trivial ?_ rfl
  simp only [Try.ntmps90, List.size_toArray, List.length_cons, List.length_nil, Nat.reduceAdd, Nat.reduceSub, Array.replicate_succ, Array.replicate_zero, List.push_toArray, List.append_toArray, List.nil_append, List.cons_append]
  gi_wp2_with (fail)
  have hI1 : MostI w (.func (.func 91) #[] #[]) (-1) (W2.setCell ⟨w.heap.size + 1, 0, none⟩ (.int .i64 (-1))) := ⟨HB2.out.setCell (by show w.heap.size ≤ w.heap.size + 1; omega) _, (set_other_heap (heap_lt H1.out) (by omega)).trans H1.out, heap_set _ H2.out⟩
  have hz1 : (W2.setCell ⟨w.heap.size + 1, 0, none⟩ (.int .i64 (-1))).heap.size = W2.heap.size := by simp [World.setCell]
  obtain ⟨W1, hW1⟩ : ∃ W1, W2.setCell ⟨w.heap.size + 1, 0, none⟩ (.int .i64 (-1)) = W1 := ⟨_, rfl⟩
  rw [hW1] at hI1 hz1 ⊢
  have HI1 := Lib.hid hI1
  have hzw : w.heap.size + 2 ≤ W1.heap.size := by omega
  clear hW1 q1 q2 q3 hI1 hz1 hW2
  refine wpIn_rangeFunc_makes (S := fun k => k = w.heap.size + 1) (Sees := SeesN f.q) (fb := #[.pointer (some ⟨b, 0, none⟩)]) (lb := #[]) (xs := setsL f.q rd) (w0 := W1) rfl (by omega) rfl trivial (fun _ _ => rfl)
    (sales_makes 9 F f HF.out rd b w W1 HO.out HI1.out.bl (fun k => k = w.heap.size + 1) (fun k hk => by omega)) (Below.refl _ _) (fun k hk => by omega)
    (fun B x args X hs => by cases hs; rfl) (fun B x args X Y _ hs hk => hs)
    (fun pre X => MostI w (.func (.func 91) #[] #[]) (mostTo f.q p pre) X)
    (fun c pre X => False)
    ?hI ?hIx ?h0 (fun x args a' X => a' = { tmps := #[.pointer (some ⟨b, 0, none⟩), .func (.func 91) #[] #[], undef, .pointer (some ⟨w.heap.size, 0, none⟩), .int .i64 0, .pointer (some ⟨w.heap.size + 1, 0, none⟩), args.getD 0 undef, args.getD 1 undef, .pointer (some ⟨b, 0, none⟩), .func (.func 140) #[.pointer (some ⟨b, 0, none⟩)] #[], args.getD 0 undef, args.getD 1 undef, undef, undef, undef, undef, undef, undef, undef], defers := [] }) ?hAx ?hassign ?hbody ?hdone ?hstop
  case hI =>
    intro q X Y hX h hk
    exact h.kp hk (fun k hs => by have := hs.1; omega)
  case hIx => exact fun _ _ _ _ _ h _ => h.elim
  case h0 =>
    intro X hX hb
    exact HI1.out.kp (kpB_of_below hb (S := fun _ => False)) (fun _ h => h.elim)
  case hAx => exact fun _ _ _ _ _ _ h _ => h
  case hassign =>
    intro l' x args X K hz hs hK
    cases hs
    have hK' := hK _ X (.inl rfl) rfl
    clear hK
    simp only [List.zip_toArray, List.zip_cons_cons, List.zip_nil_right, List.foldl_toArray, List.foldl_cons, List.foldl_nil, List.setIfInBounds_toArray, List.set_cons_succ, List.set_cons_zero]
    gi_wp2_with (fail)
    exact hK'
  case hbody =>
    rintro l' pre m args a' X hX hpre hI hsee rfl
    cases hsee
    have hxm := (mem_setsTo.1 (hpre.subset (List.mem_append_right _ (List.mem_singleton.2 rfl)))).1
    have H103 := HP.out m hxm X hI.bl
    have HN := Lib.hid (mostTo_snoc f.q p pre m)
    have hz0 := brings_nonneg HF.out.pos (bitsL f.q.length m)
    generalize hm : mostTo f.q p pre = n at hI HN
    generalize hv : bringsL f.q (bitsL f.q.length m) = v at HN hz0
    have e0 := cell_of_heap (o := 0) hI.s rfl
    have HI := Lib.hid hI
    clear hm hv hI
    cases hp : p m
    · rw [hp] at H103 HN
      have H103 := Lib.hid H103
      clear hp
      gi_wp2_with (refine ⟨trivial, ?_⟩; gi_at_call 91; refine (CallsIn.mono (CallsIn.inRound l' (callsIn_wide.2 H103.out)) ?_); rintro e W5 ⟨rfl, hb5⟩; have HB5 := Lib.hid hb5; clear hb5)
      refine ⟨kpB_of_below HB5.out, ?_⟩
      show MostI w (.func (.func 91) #[] #[]) (mostTo f.q p (pre ++ [m])) _
      rw [HN.out]
      exact HI.out.kp (S := fun _ => False) (kpB_of_below HB5.out) (fun _ h => h.elim)
    · rw [hp, if_pos rfl] at HN
      rw [hp] at H103
      have H103 := Lib.hid H103
      clear hp
      by_cases hlt : n < v
      · have hle : n ≤ v := by omega
        gi_wp2_with (refine ⟨trivial, ?_⟩; gi_at_call 91; refine (CallsIn.mono (CallsIn.inRound l' (callsIn_wide.2 H103.out)) ?_); rintro e W5 ⟨rfl, hb5⟩; have HB5 := Lib.hid hb5; have HI5 := Lib.hid (HI.out.kp (S := fun _ => False) (kpB_of_below hb5) (fun _ h => h.elim)); have e1 := cell_of_heap (o := 0) HI5.out.n rfl; have e2 := frozen_of_heap HI5.out.n; clear hb5)
        refine ⟨(kpB_of_below HB5.out).set _ _ (.inl rfl), ?_⟩
        show MostI w (.func (.func 91) #[] #[]) (mostTo f.q p (pre ++ [m])) _
        rw [HN.out, Int.max_eq_right hle]
        exact HI5.out.set _
      · have hle : v ≤ n := by omega
        gi_wp2_with (refine ⟨trivial, ?_⟩; gi_at_call 91; refine (CallsIn.mono (CallsIn.inRound l' (callsIn_wide.2 H103.out)) ?_); rintro e W5 ⟨rfl, hb5⟩; have HB5 := Lib.hid hb5; have HI5 := Lib.hid (HI.out.kp (S := fun _ => False) (kpB_of_below hb5) (fun _ h => h.elim)); have e1 := cell_of_heap (o := 0) HI5.out.n rfl; have e2 := frozen_of_heap HI5.out.n; clear hb5)
        refine ⟨(kpB_of_below HB5.out).set _ _ (.inl rfl), ?_⟩
        show MostI w (.func (.func 91) #[] #[]) (mostTo f.q p (pre ++ [m])) _
        rw [HN.out, Int.max_eq_left hle]
        exact HI5.out.set _
  case hdone =>
    rintro X hX hI hk
    have e1 := cell_of_heap (o := 0) hI.n rfl
    have HB := Lib.hid hI.bl
    have HK := Lib.hid hk
    clear hI hk
    gi_wp2_with (fail)
    refine ⟨by simp, .inl ⟨_, _, rfl, run_takeDeferred HK.out, ?_⟩⟩
    refine ⟨.int .i64 (mostTo f.q p (setsL f.q rd)), by simp [results, Try.results90, go_sem], rfl, ?_⟩
    exact HB.out.trans (KpB.belowOf (S := fun k => k = W1.heap.size) ((KpB.refl _ _ _).put _ _ (.inl rfl)) HB.out.size (fun k hk => by omega))
  case hstop => exact fun _ _ _ _ _ h => h.elim

open Go.RowKit

attribute [local go_sem] Oper.semAt_some
end Go.Proofs.Ytmbcpmnigggbaaa
namespace Go.Proofs.Ytmbcpmnigggbaaa
open Go.RowKit

attribute [local go_sem] Oper.semAt_some
open Go.RowKit

attribute [local go_sem] Oper.semAt_some
set_option maxRecDepth 100000 in
set_option maxHeartbeats 4000000 in
theorem most_100 (F : FL) (f : Fair) (hf : FOK f) (rd : List Int) (b : Nat) (g : Nat) (p : Nat → Bool) (w : World) (hO : OpenAt w b F f rd)
    (hP : ∀ m : Nat, m < 2 ^ f.q.length → ∀ X, Below w.heap.size w X → Calls Try.prog 159 #[.int .i64 (m : Int), .pointer (some ⟨g, 0, none⟩)] X fun e X' => e = .returned (.bool (p m)) ∧ Below X.heap.size X X') :
    Calls Try.prog 90 #[.pointer (some ⟨b, 0, none⟩), .func (.func 159) #[] #[.pointer (some ⟨g, 0, none⟩)]] w fun e w' => e = .returned (.int .i64 (mostTo f.q p (setsL f.q rd))) ∧ Below w.heap.size w w' := by
  have h1 := heap_keep (o' := .cells #[.int .i64 0] 3) (heap_new1 w (.cells #[.func (.func 159) #[] #[.pointer (some ⟨g, 0, none⟩)]] 132))
  have h2 := heap_new2 w (.cells #[.func (.func 159) #[] #[.pointer (some ⟨g, 0, none⟩)]] 132) (.cells #[.int .i64 0] 3)
  have hb2 := hb0to (al_below w (.cells #[.func (.func 159) #[] #[.pointer (some ⟨g, 0, none⟩)]] 132)) (al_below _ (.cells #[.int .i64 0] 3))
  obtain ⟨W2, hW2⟩ : ∃ W2, (w.alloc (.cells #[.func (.func 159) #[] #[.pointer (some ⟨g, 0, none⟩)]] 132)).alloc (.cells #[.int .i64 0] 3) = W2 := ⟨_, rfl⟩
  rw [hW2] at h1 h2 hb2
  have q1 := cell_of_heap (o := 0) h1 rfl
  have q2 := cell_of_heap (o := 0) h2 rfl
  have q3 := frozen_of_heap h2
  have qb1 := heap_lt h1
  have qb2 := heap_lt h2
  have H1 := Lib.hid h1
  have H2 := Lib.hid h2
  have HB2 := Lib.hid hb2
  have HO := Lib.hid hO
  have HF := Lib.hid hf
  have HP := Lib.hid hP
  clear h1 h2 hb2 hO hf hP
  refine (callsIn_wide (n := 10)).1 ?_
  refine callsIn_of_wp_marks Try.func90 rfl trivial ?_ rfl
  simp only [Try.ntmps90, List.size_toArray, List.length_cons, List.length_nil, Nat.reduceAdd, Nat.reduceSub, Array.replicate_succ, Array.replicate_zero, List.push_toArray, List.append_toArray, List.nil_append, List.cons_append]
  gi_wp2_with (fail)
  have hI1 : MostI w (.func (.func 159) #[] #[.pointer (some ⟨g, 0, none⟩)]) (-1) (W2.setCell ⟨w.heap.size + 1, 0, none⟩ (.int .i64 (-1))) := ⟨HB2.out.setCell (by show w.heap.size ≤ w.heap.size + 1; omega) _, (set_other_heap (heap_lt H1.out) (by omega)).trans H1.out, heap_set _ H2.out⟩
  have hz1 : (W2.setCell ⟨w.heap.size + 1, 0, none⟩ (.int .i64 (-1))).heap.size = W2.heap.size := by simp [World.setCell]
  obtain ⟨W1, hW1⟩ : ∃ W1, W2.setCell ⟨w.heap.size + 1, 0, none⟩ (.int .i64 (-1)) = W1 := ⟨_, rfl⟩
  rw [hW1] at hI1 hz1 ⊢
  have HI1 := Lib.hid hI1
  have hzw : w.heap.size + 2 ≤ W1.heap.size := by omega
  clear hW1 q1 q2 q3 hI1 hz1 hW2
  refine wpIn_rangeFunc_makes (S := fun k => k = w.heap.size + 1) (Sees := SeesN f.q) (fb := #[.pointer (some ⟨b, 0, none⟩)]) (lb := #[]) (xs := setsL f.q rd) (w0 := W1) rfl (by omega) rfl trivial (fun _ _ => rfl)
    (sales_makes 9 F f HF.out rd b w W1 HO.out HI1.out.bl (fun k => k = w.heap.size + 1) (fun k hk => by omega)) (Below.refl _ _) (fun k hk => by omega)
    (fun B x args X hs => by cases hs; rfl) (fun B x args X Y _ hs hk => hs)
    (fun pre X => MostI w (.func (.func 159) #[] #[.pointer (some ⟨g, 0, none⟩)]) (mostTo f.q p pre) X)
    (fun c pre X => False)
    ?hI ?hIx ?h0 (fun x args a' X => a' = { tmps := #[.pointer (some ⟨b, 0, none⟩), .func (.func 159) #[] #[.pointer (some ⟨g, 0, none⟩)], undef, .pointer (some ⟨w.heap.size, 0, none⟩), .int .i64 0, .pointer (some ⟨w.heap.size + 1, 0, none⟩), args.getD 0 undef, args.getD 1 undef, .pointer (some ⟨b, 0, none⟩), .func (.func 140) #[.pointer (some ⟨b, 0, none⟩)] #[], args.getD 0 undef, args.getD 1 undef, undef, undef, undef, undef, undef, undef, undef], defers := [] }) ?hAx ?hassign ?hbody ?hdone ?hstop
  case hI =>
    intro q X Y hX h hk
    exact h.kp hk (fun k hs => by have := hs.1; omega)
  case hIx => exact fun _ _ _ _ _ h _ => h.elim
  case h0 =>
    intro X hX hb
    exact HI1.out.kp (kpB_of_below hb (S := fun _ => False)) (fun _ h => h.elim)
  case hAx => exact fun _ _ _ _ _ _ h _ => h
  case hassign =>
    intro l' x args X K hz hs hK
    cases hs
    have hK' := hK _ X (.inl rfl) rfl
    clear hK
    simp only [List.zip_toArray, List.zip_cons_cons, List.zip_nil_right, List.foldl_toArray, List.foldl_cons, List.foldl_nil, List.setIfInBounds_toArray, List.set_cons_succ, List.set_cons_zero]
    gi_wp2_with (fail)
    exact hK'
  case hbody =>
    rintro l' pre m args a' X hX hpre hI hsee rfl
    cases hsee
    have hxm := (mem_setsTo.1 (hpre.subset (List.mem_append_right _ (List.mem_singleton.2 rfl)))).1
    have H103 := HP.out m hxm X hI.bl
    have HN := Lib.hid (mostTo_snoc f.q p pre m)
    have hz0 := brings_nonneg HF.out.pos (bitsL f.q.length m)
    generalize hm : mostTo f.q p pre = n at hI HN
    generalize hv : bringsL f.q (bitsL f.q.length m) = v at HN hz0
    have e0 := cell_of_heap (o := 0) hI.s rfl
    have HI := Lib.hid hI
    clear hm hv hI
    cases hp : p m
    · rw [hp] at H103 HN
      have H103 := Lib.hid H103
      clear hp
      gi_wp2_with (refine ⟨trivial, ?_⟩; gi_at_call 159; refine (CallsIn.mono (CallsIn.inRound l' (callsIn_wide.2 H103.out)) ?_); rintro e W5 ⟨rfl, hb5⟩; have HB5 := Lib.hid hb5; clear hb5)
      refine ⟨kpB_of_below HB5.out, ?_⟩
      show MostI w (.func (.func 159) #[] #[.pointer (some ⟨g, 0, none⟩)]) (mostTo f.q p (pre ++ [m])) _
      rw [HN.out]
      exact HI.out.kp (S := fun _ => False) (kpB_of_below HB5.out) (fun _ h => h.elim)
    · rw [hp, if_pos rfl] at HN
      rw [hp] at H103
      have H103 := Lib.hid H103
      clear hp
      by_cases hlt : n < v
      · have hle : n ≤ v := by omega
        gi_wp2_with (refine ⟨trivial, ?_⟩; gi_at_call 159; refine (CallsIn.mono (CallsIn.inRound l' (callsIn_wide.2 H103.out)) ?_); rintro e W5 ⟨rfl, hb5⟩; have HB5 := Lib.hid hb5; have HI5 := Lib.hid (HI.out.kp (S := fun _ => False) (kpB_of_below hb5) (fun _ h => h.elim)); have e1 := cell_of_heap (o := 0) HI5.out.n rfl; have e2 := frozen_of_heap HI5.out.n; clear hb5)
        refine ⟨(kpB_of_below HB5.out).set _ _ (.inl rfl), ?_⟩
        show MostI w (.func (.func 159) #[] #[.pointer (some ⟨g, 0, none⟩)]) (mostTo f.q p (pre ++ [m])) _
        rw [HN.out, Int.max_eq_right hle]
        exact HI5.out.set _
      · have hle : v ≤ n := by omega
        gi_wp2_with (refine ⟨trivial, ?_⟩; gi_at_call 159; refine (CallsIn.mono (CallsIn.inRound l' (callsIn_wide.2 H103.out)) ?_); rintro e W5 ⟨rfl, hb5⟩; have HB5 := Lib.hid hb5; have HI5 := Lib.hid (HI.out.kp (S := fun _ => False) (kpB_of_below hb5) (fun _ h => h.elim)); have e1 := cell_of_heap (o := 0) HI5.out.n rfl; have e2 := frozen_of_heap HI5.out.n; clear hb5)
        refine ⟨(kpB_of_below HB5.out).set _ _ (.inl rfl), ?_⟩
        show MostI w (.func (.func 159) #[] #[.pointer (some ⟨g, 0, none⟩)]) (mostTo f.q p (pre ++ [m])) _
        rw [HN.out, Int.max_eq_left hle]
        exact HI5.out.set _
  case hdone =>
    rintro X hX hI hk
    have e1 := cell_of_heap (o := 0) hI.n rfl
    have HB := Lib.hid hI.bl
    have HK := Lib.hid hk
    clear hI hk
    gi_wp2_with (fail)
    refine ⟨by simp, .inl ⟨_, _, rfl, run_takeDeferred HK.out, ?_⟩⟩
    refine ⟨.int .i64 (mostTo f.q p (setsL f.q rd)), by simp [results, Try.results90, go_sem], rfl, ?_⟩
    exact HB.out.trans (KpB.belowOf (S := fun k => k = W1.heap.size) ((KpB.refl _ _ _).put _ _ (.inl rfl)) HB.out.size (fun k hk => by omega))
  case hstop => exact fun _ _ _ _ _ h => h.elim

end Go.Proofs.Ytmbcpmnigggbaaa
namespace Go.Proofs.Ytmbcpmnigggbaaa
open Go.RowKit

attribute [local go_sem] Oper.semAt_some
/-! winners 80. -/
theorem winTo_lt (q : List Bid) {N : Nat} (h0 : 0 < N) (S : List Nat) (h : ∀ m ∈ S, m < N) : (winTo q S).1 < N := by
  revert h
  refine snoc_indN (P := fun S => (∀ m ∈ S, m < N) → (winTo q S).1 < N) (fun _ => h0) (fun S x ih hm => ?_) S
  rw [winTo_snoc]
  unfold winStep
  split
  · exact hm x (by simp)
  · exact ih fun m hm' => hm m (by simp [hm'])
/-- A region that draws its order, in a round: from the world behind the draw on, S is held. -/
theorem wpIn_region_heldR {l n id : Nat} {P : Program} {L : List Oper} {Q : Exit → Act → World → Prop} {S : World → Prop} {a : Act} {w : World} (hQ : ¬ LetsOut Q) (hd : noDefer L = true) (hm : P.follows .mixedOrders = true) (hS : S w.drew)
    (h : S w.drew → wpAnyH P .any L.toArray Q S L.toArray.size (Array.replicate L.toArray.size false) a w.drew) : (Code.region id L.toArray true).wpIn (Fence.wide.inRound l) n P Q a w :=
  wpIn_region_any hm (wpAnyIn_round (fun i o ho => noDefer_at hd (by simpa using ho)) hQ _ _ _ _ (wpAny_of_held _ _ _ _ (h hS)))
structure WinI (w : World) (m : Nat) (n : Int) (X : World) : Prop where
  bl : Below w.heap.size w X
  b : X.heap[w.heap.size]? = some (.cells #[.int .i64 (m : Int)] 133 (0, 0))
  n : X.heap[w.heap.size + 1]? = some (.cells #[.int .i64 n] 3 (0, 0))
theorem WinI.kp {w : World} {m : Nat} {n : Int} {X Y : World} (h : WinI w m n X) {S : Nat → Prop} (hk : KpB S X.heap.size X Y) (hS : ∀ k, S k → w.heap.size + 2 ≤ k) : WinI w m n Y :=
  ⟨h.bl.trans (hk.belowOf h.bl.size (fun k hs => by have := hS k hs; omega)), (hk.block _ (heap_lt h.b) (fun hs => by have := hS _ hs; omega)).trans h.b, (hk.block _ (heap_lt h.n) (fun hs => by have := hS _ hs; omega)).trans h.n⟩
theorem WinI.set {w : World} {m : Nat} {n : Int} {X : World} (h : WinI w m n X) (m' : Nat) (n' : Int) : WinI w m' n' ((X.setCell ⟨w.heap.size, 0, none⟩ (.int .i64 (m' : Int))).setCell ⟨w.heap.size + 1, 0, none⟩ (.int .i64 n')) := by
  have z : (X.setCell ⟨w.heap.size, 0, none⟩ (.int .i64 (m' : Int))).heap.size = X.heap.size := by simp [World.setCell]
  exact ⟨(h.bl.setCell (Nat.le_refl _) _).setCell (by show w.heap.size ≤ w.heap.size + 1; omega) _,
    (set_other_heap (by rw [z]; exact heap_lt h.b) (by omega)).trans (heap_set _ h.b),
    heap_set _ ((set_other_heap (heap_lt h.n) (by omega)).trans h.n)⟩
set_option maxRecDepth 100000 in
set_option maxHeartbeats 4000000 in
theorem winners_any (F : FL) (f : Fair) (hf : FOK f) (rd : List Int) (b : Nat) (w : World) (hO : OpenAt w b F f rd) :
    Calls Try.prog 92 #[.pointer (some ⟨b, 0, none⟩)] w fun e w' => e = .returned (.int .i64 (winS f.q rd : Int)) ∧ Below w.heap.size w w' := by
  have h1 := heap_keep (o' := .cells #[.int .i64 0] 3) (heap_new1 w (.cells #[.int .i64 0] 133))
  have h2 := heap_new2 w (.cells #[.int .i64 0] 133) (.cells #[.int .i64 0] 3)
  have hb2 := hb0to (al_below w (.cells #[.int .i64 0] 133)) (al_below _ (.cells #[.int .i64 0] 3))
  obtain ⟨W2, hW2⟩ : ∃ W2, (w.alloc (.cells #[.int .i64 0] 133)).alloc (.cells #[.int .i64 0] 3) = W2 := ⟨_, rfl⟩
  rw [hW2] at h1 h2 hb2
  have q1 := cell_of_heap (o := 0) h1 rfl
  have q2 := cell_of_heap (o := 0) h2 rfl
  have q3 := frozen_of_heap h2
  have qb1 := heap_lt h1
  have qb2 := heap_lt h2
  have H1 := Lib.hid h1
  have H2 := Lib.hid h2
  have HB2 := Lib.hid hb2
  have HO := Lib.hid hO
  have HF := Lib.hid hf
  have hql := hf.ql
  clear h1 h2 hb2 hO hf
  refine (callsIn_wide (n := 10)).1 ?_
  refine callsIn_of_wp_marks Try.func92 rfl trivial ?_ rfl
  simp only [Try.ntmps92, List.size_toArray, List.length_cons, List.length_nil, Nat.reduceAdd, Nat.reduceSub, Array.replicate_succ, Array.replicate_zero, List.push_toArray, List.append_toArray, List.nil_append, List.cons_append]
  gi_wp2_with (fail)
  have hI1 : WinI w 0 (-1) (W2.setCell ⟨w.heap.size + 1, 0, none⟩ (.int .i64 (-1))) := ⟨HB2.out.setCell (by show w.heap.size ≤ w.heap.size + 1; omega) _, (set_other_heap (heap_lt H1.out) (by omega)).trans H1.out, heap_set _ H2.out⟩
  have hz1 : (W2.setCell ⟨w.heap.size + 1, 0, none⟩ (.int .i64 (-1))).heap.size = W2.heap.size := by simp [World.setCell]
  obtain ⟨W1, hW1⟩ : ∃ W1, W2.setCell ⟨w.heap.size + 1, 0, none⟩ (.int .i64 (-1)) = W1 := ⟨_, rfl⟩
  rw [hW1] at hI1 hz1 ⊢
  have HI1 := Lib.hid hI1
  have hzw : w.heap.size + 2 ≤ W1.heap.size := by omega
  clear hW1 q1 q2 q3 hI1 hz1 hW2
  refine wpIn_rangeFunc_makes (S := fun k => k = w.heap.size ∨ k = w.heap.size + 1) (Sees := SeesN f.q) (fb := #[.pointer (some ⟨b, 0, none⟩)]) (lb := #[]) (xs := setsL f.q rd) (w0 := W1) rfl (by omega) rfl trivial (fun _ _ => rfl)
    (sales_makes 9 F f HF.out rd b w W1 HO.out HI1.out.bl (fun k => k = w.heap.size ∨ k = w.heap.size + 1) (fun k hk => by omega)) (Below.refl _ _) (fun k hk => by omega)
    (fun B x args X hs => by cases hs; rfl) (fun B x args X Y _ hs hk => hs)
    (fun pre X => WinI w (winTo f.q pre).1 (winTo f.q pre).2 X)
    (fun c pre X => False)
    ?hI ?hIx ?h0 (fun x args a' X => a' = { tmps := #[.pointer (some ⟨b, 0, none⟩), undef, .int .i64 0, .pointer (some ⟨w.heap.size, 0, none⟩), .pointer (some ⟨w.heap.size + 1, 0, none⟩), args.getD 0 undef, args.getD 1 undef, undef, undef, .pointer (some ⟨b, 0, none⟩), .func (.func 140) #[.pointer (some ⟨b, 0, none⟩)] #[], args.getD 0 undef, args.getD 1 undef, undef, undef, undef, undef, undef, undef, undef, undef, undef, undef, undef, undef, undef, undef, undef, undef, undef, undef, undef, undef, undef, undef, undef, undef, undef, undef, undef, undef], defers := [] }) ?hAx ?hassign ?hbody ?hdone ?hstop
  case hI =>
    intro q X Y hX h hk
    exact h.kp hk (fun k hs => by have := hs.1; omega)
  case hIx => exact fun _ _ _ _ _ h _ => h.elim
  case h0 =>
    intro X hX hb
    exact HI1.out.kp (kpB_of_below hb (S := fun _ => False)) (fun _ h => h.elim)
  case hAx => exact fun _ _ _ _ _ _ h _ => h
  case hassign =>
    intro l' x args X K hz hs hK
    cases hs
    have hK' := hK _ X (.inl rfl) rfl
    clear hK
    simp only [List.zip_toArray, List.zip_cons_cons, List.zip_nil_right, List.foldl_toArray, List.foldl_cons, List.foldl_nil, List.setIfInBounds_toArray, List.set_cons_succ, List.set_cons_zero]
    gi_wp2_with (fail)
    exact hK'
  case hbody =>
    rintro l' pre m args a' X hX hpre hI hsee rfl
    cases hsee
    have hxm := (mem_setsTo.1 (hpre.subset (List.mem_append_right _ (List.mem_singleton.2 rfl)))).1
    have hbm := winTo_lt f.q (Nat.pow_pos (n := f.q.length) (show 0 < 2 by omega)) pre (fun k hk => (mem_setsTo.1 (hpre.subset (List.mem_append_left _ hk))).1)
    have HN := Lib.hid (winTo_snoc f.q pre m)
    have hz0 := brings_nonneg HF.out.pos (bitsL f.q.length m)
    generalize hst : winTo f.q pre = st at hI HN hbm
    obtain ⟨bm, n⟩ := st
    simp only at hI hbm
    unfold winStep at HN
    simp only at HN
    have hm8 : m < 256 := Nat.lt_of_lt_of_le hxm (pow_eight hql)
    have hb8 : bm < 256 := Nat.lt_of_lt_of_le hbm (pow_eight hql)
    have H69a := Lib.hid (fun W => by have := list_any m hm8 W; rw [bits_eight hql hxm] at this; exact this)
    have H69b := Lib.hid (fun W => by have := list_any bm hb8 W; rw [bits_eight hql hbm] at this; exact this)
    have hl1 := Nat.le_trans (bits_len f.q.length m) hql
    have hl2 := Nat.le_trans (bits_len f.q.length bm) hql
    generalize hv : bringsL f.q (bitsL f.q.length m) = v at HN hz0
    generalize hL1 : bitsL f.q.length m = L1 at HN H69a hl1
    generalize hL2 : bitsL f.q.length bm = L2 at HN H69b hl2
    have e0 := cell_of_heap (o := 0) hI.b rfl
    have e1 := cell_of_heap (o := 0) hI.n rfl
    have HI := Lib.hid hI
    clear hv hI hL1 hL2 hst hxm hbm hm8 hb8
    gi_wp2_with (fail)
    refine wpIn_region_heldR (S := fun w' => w'.cell? ⟨w.heap.size, 0, none⟩ = some (.int .i64 (bm : Int))) (by rintro ⟨_, _, hh⟩; exact hh) (by rfl) (by kernel_rfl) e0 (fun hHeld => ?_)
    refine wpAnyH_take (i := 0) (oi := _) (v := .int .i64 (m : Int)) rfl (by kernel_rfl) (by kernel_rfl) (by kernel_rfl) (fun _ _ _ h => h) (Or.inl ⟨by rfl, fun w hSw => ?_⟩) hHeld ?_
    · go_simp
    refine wpAnyH_take (i := 2) (oi := _) (v := .int .i64 (bm : Int)) rfl (by kernel_rfl) (by kernel_rfl) (by kernel_rfl) (fun _ _ _ h => h) (Or.inl ⟨by rfl, fun w hSw => ?_⟩) hHeld ?_
    · (try dsimp only at hSw); go_simp
    try simp only [Act.put, List.setIfInBounds_toArray, List.set_cons_zero, List.set_cons_succ]
    refine wpAnyH_ready (rs := [1]) (by kernel_rfl) (by simp) ?_
    refine AllReadyH.cons (o := _) rfl (fun K hK => ?_) AllReadyH.nil
    go_simp
    refine (H69a.out _).mono ?_
    rintro e w1 ⟨⟨v1, rfl, hv1⟩, hb1⟩
    have B1 := Lib.hid (hb0to (drew_below X) hb1)
    obtain ⟨A1, c1, rfl, _, _, hI1⟩ := hv1.lay
    rw [intsN_len]
    have HI1 := Lib.hid hI1.at_
    have s1 := below_cell B1.out e0
    clear hb1 hv1 hI1
    refine hK.out _ _ s1 (fun hHeld => ?_)
    clear hK K
    refine wpAnyH_ready (rs := [3]) (by kernel_rfl) (by simp) ?_
    refine AllReadyH.cons (o := _) rfl (fun K hK => ?_) AllReadyH.nil
    go_simp
    refine (H69b.out _).mono ?_
    rintro e w2 ⟨⟨v2, rfl, hv2⟩, hb2⟩
    have B2 := Lib.hid (hb0to B1.out hb2)
    have HI2a := Lib.hid (ints_later HI1.out hb2)
    obtain ⟨A2, c2, rfl, _, _, hI2⟩ := hv2.lay
    rw [intsN_len]
    have HI2 := Lib.hid hI2.at_
    have s2 := below_cell B2.out e0
    clear hb2 hv2 hI2
    refine hK.out _ _ s2 (fun hHeld => ?_)
    clear hK K
    refine wpAnyH_ready (rs := [4]) (by kernel_rfl) (by simp) ?_
    refine AllReadyH.cons (o := _) rfl (fun K hK => ?_) AllReadyH.nil
    go_simp
    refine hK.out _ _ s2 (fun hHeld => ?_)
    clear hK K
    refine wpAnyH_ready (rs := [5]) (by kernel_rfl) (by simp) ?_
    refine AllReadyH.cons (o := _) rfl (fun K hK => ?_) AllReadyH.nil
    go_simp
    refine hK.out _ _ s2 (fun hHeld => ?_)
    clear hK K
    refine wpAnyH_done (by kernel_rfl) ?_ _
    have hHI := HI.out.kp (S := fun _ => False) (kpB_of_below B2.out) (fun _ h => h.elim)
    have t0 := cell_of_heap (o := 0) hHI.b rfl
    have t1 := cell_of_heap (o := 0) hHI.n rfl
    have f0 := frozen_of_heap hHI.b
    have f1 := frozen_of_heap hHI.n
    have HHI := Lib.hid hHI
    have HLA := Lib.hid (or_ahead L1 L2)
    have H107 := Lib.hid (fun W hW1 hW2 => by have := compare_any (intsN L1) (intsN L2) A1 A2 c1 c2 (by rw [intsN_len]; omega) (by rw [intsN_len]; omega) W hW1 hW2; rw [intsN_len, intsN_len] at this; exact this)
    clear hHI e0 e1 s1 s2 hHeld
    have hq1 := heap_lt HHI.out.b
    have hq2 := heap_lt HHI.out.n
    have hne1 : ¬ w.heap.size = w2.heap.size := by omega
    have hne2 : ¬ w.heap.size + 1 = w2.heap.size := by omega
    by_cases hlt : n < v
    · rw [if_pos (.inl hlt)] at HN
      have hd1 : decide (n < v) = true := decide_eq_true hlt
      clear hlt
      gi_wp2_with (refine ⟨trivial, ?_⟩)
      all_goals first | (rename_i g1 g2; exact absurd g1 (by unfold undef; simp)) | skip
      refine ⟨((kpB_of_below B2.out).set _ _ (Or.inl (Or.inl rfl))).set _ _ (Or.inl (Or.inr rfl)), ?_⟩
      show WinI w (winTo f.q (pre ++ [m])).1 (winTo f.q (pre ++ [m])).2 _
      rw [HN.out]
      exact HHI.out.set m v
    · have hd1 : decide (n < v) = false := decide_eq_false hlt
      by_cases he : v = n
      · have hd2 : (v == n) = true := by simp [he]
        have hb3 := hb0to B2.out (al_below w2 (.cells #[.int .i64 ((L1.length : Int) - (L2.length : Int)), .int .i64 (cmpI (intsN L1) (intsN L2))] 3))
        by_cases ha : aheadP L1 L2
        · rw [if_pos (.inr ⟨he, ha⟩)] at HN
          have hd3 : decide (orI ((L1.length : Int) - (L2.length : Int)) (cmpI (intsN L1) (intsN L2)) < 0) = true := decide_eq_true (HLA.out.2 ha)
          have HHI3 := Lib.hid (HHI.out.kp (S := fun _ => False) (kpB_of_below (al_below w2 (.cells #[.int .i64 ((L1.length : Int) - (L2.length : Int)), .int .i64 (cmpI (intsN L1) (intsN L2))] 3))) (fun _ h => h.elim))
          clear HLA ha hlt he
          generalize cmpI (intsN L1) (intsN L2) = z at H107 hd3 hb3 HHI3
          have HB3 := Lib.hid hb3
          clear hb3
          gi_wp2_with (first
          | (refine ⟨trivial, ?_⟩; gi_at_call 142; refine (CallsIn.mono (CallsIn.inRound l' (callsIn_wide.2 (H107.out _ HI2a.out HI2.out))) ?_); rintro e W5 ⟨rfl, rfl⟩)
          | (refine ⟨trivial, ?_⟩; gi_at_call 141; refine (CallsIn.mono (CallsIn.inRound l' (callsIn_wide.2 (or_any ((L1.length : Int) - (L2.length : Int)) z w2.heap.size 2 _ (by simp [go_sem]) (by simp [go_sem])))) ?_); rintro e W6 ⟨rfl, rfl⟩))
          refine ⟨(((kpB_of_below B2.out).set _ _ (Or.inl (Or.inl rfl))).set _ _ (Or.inl (Or.inr rfl))).alloc _ (by simpa [World.setCell] using B2.out.size), ?_⟩
          show WinI w (winTo f.q (pre ++ [m])).1 (winTo f.q (pre ++ [m])).2 _
          rw [HN.out]
          exact (HHI.out.set m v).kp (S := fun _ => False) (kpB_of_below (al_below _ _)) (fun _ h => h.elim)
        · rw [if_neg (fun h => h.elim hlt (fun h => ha h.2))] at HN
          have hd3 : decide (orI ((L1.length : Int) - (L2.length : Int)) (cmpI (intsN L1) (intsN L2)) < 0) = false := decide_eq_false (fun h => ha (HLA.out.1 h))
          have HHI3 := Lib.hid (HHI.out.kp (S := fun _ => False) (kpB_of_below (al_below w2 (.cells #[.int .i64 ((L1.length : Int) - (L2.length : Int)), .int .i64 (cmpI (intsN L1) (intsN L2))] 3))) (fun _ h => h.elim))
          clear HLA ha hlt he
          generalize cmpI (intsN L1) (intsN L2) = z at H107 hd3 hb3 HHI3
          have HB3 := Lib.hid hb3
          clear hb3
          gi_wp2_with (first
          | (refine ⟨trivial, ?_⟩; gi_at_call 142; refine (CallsIn.mono (CallsIn.inRound l' (callsIn_wide.2 (H107.out _ HI2a.out HI2.out))) ?_); rintro e W5 ⟨rfl, rfl⟩)
          | (refine ⟨trivial, ?_⟩; gi_at_call 141; refine (CallsIn.mono (CallsIn.inRound l' (callsIn_wide.2 (or_any ((L1.length : Int) - (L2.length : Int)) z w2.heap.size 2 _ (by simp [go_sem]) (by simp [go_sem])))) ?_); rintro e W6 ⟨rfl, rfl⟩))
          refine ⟨kpB_of_below HB3.out, ?_⟩
          show WinI w (winTo f.q (pre ++ [m])).1 (winTo f.q (pre ++ [m])).2 _
          rw [HN.out]
          exact HHI3.out
      · have hd2 : (v == n) = false := by simp [he]
        rw [if_neg (fun h => h.elim hlt (fun h => he h.1))] at HN
        clear hlt he
        gi_wp2_with (refine ⟨trivial, ?_⟩)
        all_goals first | (rename_i g1 g2; exact absurd g1 (by unfold undef; simp)) | skip
        refine ⟨kpB_of_below B2.out, ?_⟩
        show WinI w (winTo f.q (pre ++ [m])).1 (winTo f.q (pre ++ [m])).2 _
        rw [HN.out]
        exact HHI.out
  case hdone =>
    rintro X hX hI hk
    have e1 := cell_of_heap (o := 0) hI.b rfl
    have HB := Lib.hid hI.bl
    have HK := Lib.hid hk
    clear hI hk
    gi_wp2_with (fail)
    refine ⟨by simp, .inl ⟨_, _, rfl, run_takeDeferred HK.out, ?_⟩⟩
    refine ⟨.int .i64 (winS f.q rd : Int), by simp [results, Try.results92, go_sem, winS], rfl, ?_⟩
    exact HB.out.trans (KpB.belowOf (S := fun k => k = W1.heap.size) ((KpB.refl _ _ _).put _ _ (.inl rfl)) HB.out.size (fun k hk => by omega))
  case hstop => exact fun _ _ _ _ _ h => h.elim

end Go.Proofs.Ytmbcpmnigggbaaa
