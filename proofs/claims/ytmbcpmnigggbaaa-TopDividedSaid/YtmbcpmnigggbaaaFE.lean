import Derived.Test.YtmbcpmnigggbaaaF9
import Derived.OwnWalkIn
import Derived.TacticsInMore
import Derived.LoopNIn
import Derived.LoopIn
namespace Go.Proofs.Ytmbcpmnigggbaaa
open Go.RowKit

attribute [local go_sem] Oper.semAt_some
/-! The iterator sales 105. -/
theorem shl8 : ∀ i : Nat, i < 9 → wrap64 (2 ^ i) = ((2 ^ i : Nat) : Int) := by decide +kernel
def SeesN (q : List Bid) (_ : Nat) (x : Nat) (args : Array Value) (_ : World) : Prop := args = #[.int .i64 (x : Int), .int .i64 (bringsL q (bitsL q.length x))]
set_option maxRecDepth 100000 in
set_option maxHeartbeats 4000000 in
theorem sales_makes (n : Nat) (F : FL) (f : Fair) (hf : FOK f) (rd : List Int) (b : Nat) (w0 w : World) (hO : OpenAt w0 b F f rd) (hb0 : Below w0.heap.size w0 w) (S : Nat → Prop) (hS : ∀ k, S k → w0.heap.size ≤ k ∧ k < w.heap.size) :
    SeqMakes Fence.wide n Try.prog 140 #[.pointer (some ⟨b, 0, none⟩)] #[] S (SeesN f.q) (setsL f.q rd) w := by
  intro l J Jx W hbW hJ hJx hY h0
  have HSK := Lib.hid (show ∀ k, (S k ∨ Seg w.heap.size W.heap.size k) → w0.heap.size ≤ k from fun k hk => by
    rcases hk with hk | hk
    · exact (hS k hk).1
    · have := hk.1; have := hb0.size; omega)
  have HO := Lib.hid hO
  have hbw := hb0to hb0 hbW
  have HBW := Lib.hid hbw
  have HJ := Lib.hid hJ
  have HY := Lib.hid hY
  have H0 := Lib.hid h0
  have HF := Lib.hid hf
  have hql := hf.ql
  obtain ⟨N, hN⟩ : ∃ N, N = 2 ^ f.q.length := ⟨_, rfl⟩
  have hNw : wrap64 (2 ^ f.q.length) = (N : Int) := by rw [shl8 _ (by omega), hN]
  have hN8 : N ≤ 256 := by rw [hN]; exact pow_eight hql
  obtain ⟨A, cl, u, hOB, _, _⟩ := (hO.below hbw).ex
  obtain ⟨_, _, _, _, _, _, _, _, g8, _⟩ := hOB.cells
  have HN := Lib.hid hN
  have HNW := Lib.hid hNw
  clear hO hb0 hbw hJ hJx hY h0 hf hOB hS hbW hN hNw
  refine callsIn_of_wp Try.func140 rfl trivial ?_ rfl
  simp only [Try.ntmps140, List.size_toArray, List.length_cons, List.length_nil, Nat.reduceAdd, Nat.reduceSub, Array.replicate_succ, Array.replicate_zero, List.push_toArray, List.append_toArray, List.nil_append, List.cons_append]
  gi_wp2_with (fail)
  rw [HNW.out]
  clear HNW
  gi_loopw [12] (fun i wr => ∃ k : Nat, k ≤ N ∧ i = .int .i64 k ∧ Hid (J (setsTo f.q rd k) wr) ∧ Hid (Below w0.heap.size w0 wr) ∧ Hid (W.heap.size ≤ wr.heap.size)) (fun i _ => N - (intOf i).toNat)
  case atStart => exact ⟨0, Nat.zero_le _, rfl, Lib.hid H0.out, HBW, Lib.hid (Nat.le_refl _)⟩
  case round =>
    obtain ⟨k, hk, rfl, hJk, hb, hsz⟩ := hrel
    by_cases hlt : k < N
    · have H91 := Lib.hid (brings_any F f HF.out rd b k (by rw [← HN.out]; exact hlt) wr (HO.out.below hb.out))
      have HT := Lib.hid (setsTo_succ f.q rd k)
      have HPR := Lib.hid (show setsTo f.q rd (k + 1) <+: setsL f.q rd from by
        have := setsTo_pre f.q rd (show k + 1 ≤ N by omega)
        rw [HN.out] at this; exact this)
      cases hs : saleB f.q rd (bitsL f.q.length k)
      · rw [show brV f.q rd (bitsL f.q.length k) = -1 by unfold brV; rw [hs]; rfl] at H91
        rw [hs] at HT
        clear hs
        gi_wp2_with (refine ⟨trivial, (fun h => by cases h), ?_⟩; gi_at_call 183; refine (CallsIn.mono (callsIn_wide.2 H91.out) ?_); rintro e W1 ⟨rfl, hb1⟩; have HB1 := Lib.hid hb1; clear hb1)
        refine ⟨fun _ h => (by cases h), ?_⟩
        gi_wp2_with (fail)
        go_roundw
        case rel => exact ⟨k + 1, by omega, by go_num, Lib.hid (by rw [HT.out]; simp only [Bool.false_eq_true, if_false, List.append_nil]; exact HJ.out _ _ _ hsz.out hJk.out HB1.out), Lib.hid (hb0to hb.out HB1.out), Lib.hid (Nat.le_trans hsz.out HB1.out.size)⟩
        case measure => simp [intOf]; omega
      · have hsl := saleB_iff.1 hs
        rw [brV_yes hsl] at H91
        rw [hs, if_pos rfl] at HT
        have hz0 := brings_nonneg HF.out.pos (bitsL f.q.length k)
        have hY2 := fun X (h1 : W.heap.size ≤ X.heap.size) (h2 : J (setsTo f.q rd k) X) => HY.out (setsTo f.q rd k) k #[.int .i64 (k : Int), .int .i64 (bringsL f.q (bitsL f.q.length k))] X h1 h2 rfl (by rw [← HT.out]; exact HPR.out)
        rw [← HT.out] at hY2
        have HY2 := Lib.hid hY2
        clear hs hsl hY2
        obtain ⟨z, hz⟩ : ∃ z, z = bringsL f.q (bitsL f.q.length k) := ⟨_, rfl⟩
        rw [← hz] at H91 hz0 HY2
        clear hz
        have hd : decide (0 ≤ z) = true := decide_eq_true hz0
        gi_wp2_with (refine ⟨trivial, (fun h => by cases h), ?_⟩; gi_at_call 183; refine (CallsIn.mono (callsIn_wide.2 H91.out) ?_); rintro e W1 ⟨rfl, hb1⟩; have HB1 := Lib.hid hb1; clear hb1; obtain ⟨fn, tmps, assign, body, hy, hR⟩ := HY2.out W1 (Nat.le_trans hsz.out HB1.out.size) (HJ.out _ _ _ hsz.out hJk.out HB1.out); have HR := Lib.hid hR; clear hR)
        refine ⟨(fun h => by cases h), HR.out.mono ?_⟩
        clear HR hy
        rintro e X' ⟨hk2, (⟨rfl, hj2⟩ | ⟨rfl, hj2⟩)⟩
        · have HJ2 := Lib.hid hj2
          have HK2 := Lib.hid hk2
          clear hj2 hk2
          gi_wp2_with (fail)
          go_roundw
          case rel => exact ⟨k + 1, by omega, by go_num, HJ2, Lib.hid ((hb0to hb.out HB1.out).trans (HK2.out.belowOf (hb0to hb.out HB1.out).size HSK.out)), Lib.hid (Nat.le_trans hsz.out (Nat.le_trans HB1.out.size HK2.out.size))⟩
          case measure => simp [intOf]; omega
        · have HJ2 := Lib.hid hj2
          have HK2 := Lib.hid hk2
          clear hj2 hk2
          gi_wp2_with (fail)
          refine bodyPost_ret (results_none rfl _ _ _) rfl ?_
          exact ⟨⟨_, rfl⟩, Nat.le_trans hsz.out (Nat.le_trans HB1.out.size HK2.out.size), .inr ⟨_, HPR.out, HJ2.out⟩⟩
    · obtain rfl : k = N := by omega
      have HJN := Lib.hid hJk.out
      rw [HN.out] at HJN
      gi_wp2_with (fail)
      go_end0
      exact ⟨⟨_, rfl⟩, hsz.out, .inl HJN.out⟩

end Go.Proofs.Ytmbcpmnigggbaaa
namespace Go.Proofs.Ytmbcpmnigggbaaa
open Go.RowKit

attribute [local go_sem] Oper.semAt_some
/-! most 77, with each function that is handed to it. -/
/-- What most knows between two rounds. -/
structure MostI (w : World) (fv : Value) (n : Int) (X : World) : Prop where
  bl : Below w.heap.size w X
  s : X.heap[w.heap.size]? = some (.cells #[fv] 132 (0, 0))
  n : X.heap[w.heap.size + 1]? = some (.cells #[.int .i64 n] 3 (0, 0))
theorem MostI.kp {w : World} {fv : Value} {n : Int} {X Y : World} (h : MostI w fv n X) {S : Nat → Prop} (hk : KpB S X.heap.size X Y) (hS : ∀ k, S k → w.heap.size + 2 ≤ k) : MostI w fv n Y :=
  ⟨h.bl.trans (hk.belowOf h.bl.size (fun k hs => by have := hS k hs; omega)), (hk.block _ (heap_lt h.s) (fun hs => by have := hS _ hs; omega)).trans h.s, (hk.block _ (heap_lt h.n) (fun hs => by have := hS _ hs; omega)).trans h.n⟩
theorem MostI.set {w : World} {fv : Value} {n : Int} {X : World} (h : MostI w fv n X) (m : Int) : MostI w fv m (X.setCell ⟨w.heap.size + 1, 0, none⟩ (.int .i64 m)) :=
  ⟨h.bl.setCell (by show w.heap.size ≤ w.heap.size + 1; omega) _, (set_other_heap (heap_lt h.s) (by omega)).trans h.s, heap_set _ h.n⟩
set_option maxRecDepth 100000 in
set_option maxHeartbeats 4000000 in
theorem most_78 (F : FL) (f : Fair) (hf : FOK f) (rd : List Int) (b : Nat) (p : Nat → Bool) (w : World) (hO : OpenAt w b F f rd)
    (hP : ∀ m : Nat, m < 2 ^ f.q.length → ∀ X, Below w.heap.size w X → Calls Try.prog 91 #[.int .i64 (m : Int)] X fun e X' => e = .returned (.bool (p m)) ∧ Below X.heap.size X X') :
    Calls Try.prog 90 #[.pointer (some ⟨b, 0, none⟩), .func (.func 91) #[] #[]] w fun e w' => e = .returned (.int .i64 (mostTo f.q p (setsL f.q rd))) ∧ Below w.heap.size w w' := by
  have h1 := heap_keep (o' := .cells #[.int .i64 0] 3) (heap_new1 w (.cells #[.func (.func 91) #[] #[]] 132))
  have h2 := heap_new2 w (.cells #[.func (.func 91) #[] #[]] 132) (.cells #[.int .i64 0] 3)
  have hb2 := hb0to (al_below w (.cells #[.func (.func 91) #[] #[]] 132)) (al_below _ (.cells #[.int .i64 0] 3))
  obtain ⟨W2, hW2⟩ : ∃ W2, (w.alloc (.cells #[.func (.func 91) #[] #[]] 132)).alloc (.cells #[.int .i64 0] 3) = W2 := ⟨_, rfl⟩
  rw [hW2] at h1 h2 hb2
  have q1 := cell_of_heap (o := 0) h1 rfl
  have q2 := cell_of_heap (o := 0) h2 rfl
  have q3 := frozen_of_heap h2
  have qb1 := heap_lt h1
  have qb2 := heap_lt h2
  have H1 := Lib.hid h1
  have H2 := Lib.hid h2
  have HB2 := Lib.hid hb2
  have HO := Lib.hid hO
  have HF := Lib.hid hf
  have HP := Lib.hid hP
  clear h1 h2 hb2 hO hf hP
  refine (callsIn_wide (n := 10)).1 ?_
  refine callsIn_of_wp_marks Try.func90 rfl trivial ?_ rfl
  simp only [Try.ntmps90, List.size_toArray, List.length_cons, List.length_nil, Nat.reduceAdd, Nat.reduceSub, Array.replicate_succ, Array.replicate_zero, List.push_toArray, List.append_toArray, List.nil_append, List.cons_append]
  gi_wp2_with (fail)
  have hI1 : MostI w (.func (.func 91) #[] #[]) (-1) (W2.setCell ⟨w.heap.size + 1, 0, none⟩ (.int .i64 (-1))) := ⟨HB2.out.setCell (by show w.heap.size ≤ w.heap.size + 1; omega) _, (set_other_heap (heap_lt H1.out) (by omega)).trans H1.out, heap_set _ H2.out⟩
  have hz1 : (W2.setCell ⟨w.heap.size + 1, 0, none⟩ (.int .i64 (-1))).heap.size = W2.heap.size := by simp [World.setCell]
  obtain ⟨W1, hW1⟩ : ∃ W1, W2.setCell ⟨w.heap.size + 1, 0, none⟩ (.int .i64 (-1)) = W1 := ⟨_, rfl⟩
  rw [hW1] at hI1 hz1 ⊢
  have HI1 := Lib.hid hI1
  have hzw : w.heap.size + 2 ≤ W1.heap.size := by omega
  clear hW1 q1 q2 q3 hI1 hz1 hW2
  refine wpIn_rangeFunc_makes (S := fun k => k = w.heap.size + 1) (Sees := SeesN f.q) (fb := #[.pointer (some ⟨b, 0, none⟩)]) (lb := #[]) (xs := setsL f.q rd) (w0 := W1) rfl (by omega) rfl trivial (fun _ _ => rfl)
    (sales_makes 9 F f HF.out rd b w W1 HO.out HI1.out.bl (fun k => k = w.heap.size + 1) (fun k hk => by omega)) (Below.refl _ _) (fun k hk => by omega)
    (fun B x args X hs => by cases hs; rfl) (fun B x args X Y _ hs hk => hs)
    (fun pre X => MostI w (.func (.func 91) #[] #[]) (mostTo f.q p pre) X)
    (fun c pre X => False)
    ?hI ?hIx ?h0 (fun x args a' X => a' = { tmps := #[.pointer (some ⟨b, 0, none⟩), .func (.func 91) #[] #[], undef, .pointer (some ⟨w.heap.size, 0, none⟩), .int .i64 0, .pointer (some ⟨w.heap.size + 1, 0, none⟩), args.getD 0 undef, args.getD 1 undef, .pointer (some ⟨b, 0, none⟩), .func (.func 140) #[.pointer (some ⟨b, 0, none⟩)] #[], args.getD 0 undef, args.getD 1 undef, undef, undef, undef, undef, undef, undef, undef], defers := [] }) ?hAx ?hassign ?hbody ?hdone ?hstop
  case hI =>
    intro q X Y hX h hk
    exact h.kp hk (fun k hs => by have := hs.1; omega)
  case hIx => exact fun _ _ _ _ _ h _ => h.elim
  case h0 =>
    intro X hX hb
    exact HI1.out.kp (kpB_of_below hb (S := fun _ => False)) (fun _ h => h.elim)
  case hAx => exact fun _ _ _ _ _ _ h _ => h
  case hassign =>
    intro l' x args X K hz hs hK
    cases hs
    have hK' := hK _ X (.inl rfl) rfl
    clear hK
    simp only [List.zip_toArray, List.zip_cons_cons, List.zip_nil_right, List.foldl_toArray, List.foldl_cons, List.foldl_nil, List.setIfInBounds_toArray, List.set_cons_succ, List.set_cons_zero]
    gi_wp2_with (fail)
    exact hK'
  case hbody =>
    rintro l' pre m args a' X hX hpre hI hsee rfl
    cases hsee
    have hxm := (mem_setsTo.1 (hpre.subset (List.mem_append_right _ (List.mem_singleton.2 rfl)))).1
    have H103 := HP.out m hxm X hI.bl
    have HN := Lib.hid (mostTo_snoc f.q p pre m)
    have hz0 := brings_nonneg HF.out.pos (bitsL f.q.length m)
    generalize hm : mostTo f.q p pre = n at hI HN
    generalize hv : bringsL f.q (bitsL f.q.length m) = v at HN hz0
    have e0 := cell_of_heap (o := 0) hI.s rfl
    have HI := Lib.hid hI
    clear hm hv hI
    cases hp : p m
    · rw [hp] at H103 HN
      have H103 := Lib.hid H103
      clear hp
      gi_wp2_with (refine ⟨trivial, ?_⟩; gi_at_call 91; refine (CallsIn.mono (CallsIn.inRound l' (callsIn_wide.2 H103.out)) ?_); rintro e W5 ⟨rfl, hb5⟩; have HB5 := Lib.hid hb5; clear hb5)
      refine ⟨kpB_of_below HB5.out, ?_⟩
      show MostI w (.func (.func 91) #[] #[]) (mostTo f.q p (pre ++ [m])) _
      rw [HN.out]
      exact HI.out.kp (S := fun _ => False) (kpB_of_below HB5.out) (fun _ h => h.elim)
    · rw [hp, if_pos rfl] at HN
      rw [hp] at H103
      have H103 := Lib.hid H103
      clear hp
      by_cases hlt : n < v
      · have hle : n ≤ v := by omega
        gi_wp2_with (refine ⟨trivial, ?_⟩; gi_at_call 91; refine (CallsIn.mono (CallsIn.inRound l' (callsIn_wide.2 H103.out)) ?_); rintro e W5 ⟨rfl, hb5⟩; have HB5 := Lib.hid hb5; have HI5 := Lib.hid (HI.out.kp (S := fun _ => False) (kpB_of_below hb5) (fun _ h => h.elim)); have e1 := cell_of_heap (o := 0) HI5.out.n rfl; have e2 := frozen_of_heap HI5.out.n; clear hb5)
        refine ⟨(kpB_of_below HB5.out).set _ _ (.inl rfl), ?_⟩
        show MostI w (.func (.func 91) #[] #[]) (mostTo f.q p (pre ++ [m])) _
        rw [HN.out, Int.max_eq_right hle]
        exact HI5.out.set _
      · have hle : v ≤ n := by omega
        gi_wp2_with (refine ⟨trivial, ?_⟩; gi_at_call 91; refine (CallsIn.mono (CallsIn.inRound l' (callsIn_wide.2 H103.out)) ?_); rintro e W5 ⟨rfl, hb5⟩; have HB5 := Lib.hid hb5; have HI5 := Lib.hid (HI.out.kp (S := fun _ => False) (kpB_of_below hb5) (fun _ h => h.elim)); have e1 := cell_of_heap (o := 0) HI5.out.n rfl; have e2 := frozen_of_heap HI5.out.n; clear hb5)
        refine ⟨(kpB_of_below HB5.out).set _ _ (.inl rfl), ?_⟩
        show MostI w (.func (.func 91) #[] #[]) (mostTo f.q p (pre ++ [m])) _
        rw [HN.out, Int.max_eq_left hle]
        exact HI5.out.set _
  case hdone =>
    rintro X hX hI hk
    have e1 := cell_of_heap (o := 0) hI.n rfl
    have HB := Lib.hid hI.bl
    have HK := Lib.hid hk
    clear hI hk
    gi_wp2_with (fail)
    refine ⟨by simp, .inl ⟨_, _, rfl, run_takeDeferred HK.out, ?_⟩⟩
    refine ⟨.int .i64 (mostTo f.q p (setsL f.q rd)), by simp [results, Try.results90, go_sem], rfl, ?_⟩
    exact HB.out.trans (KpB.belowOf (S := fun k => k = W1.heap.size) ((KpB.refl _ _ _).put _ _ (.inl rfl)) HB.out.size (fun k hk => by omega))
  case hstop => exact fun _ _ _ _ _ h => h.elim

open Go.RowKit

attribute [local go_sem] Oper.semAt_some
end Go.Proofs.Ytmbcpmnigggbaaa
namespace Go.Proofs.Ytmbcpmnigggbaaa
open Go.RowKit

attribute [local go_sem] Oper.semAt_some
open Go.RowKit

attribute [local go_sem] Oper.semAt_some
set_option maxRecDepth 100000 in
set_option maxHeartbeats 4000000 in
theorem most_100 (F : FL) (f : Fair) (hf : FOK f) (rd : List Int) (b : Nat) (g : Nat) (p : Nat → Bool) (w : World) (hO : OpenAt w b F f rd)
    (hP : ∀ m : Nat, m < 2 ^ f.q.length → ∀ X, Below w.heap.size w X → Calls Try.prog 159 #[.int .i64 (m : Int), .pointer (some ⟨g, 0, none⟩)] X fun e X' => e = .returned (.bool (p m)) ∧ Below X.heap.size X X') :
    Calls Try.prog 90 #[.pointer (some ⟨b, 0, none⟩), .func (.func 159) #[] #[.pointer (some ⟨g, 0, none⟩)]] w fun e w' => e = .returned (.int .i64 (mostTo f.q p (setsL f.q rd))) ∧ Below w.heap.size w w' := by
  have h1 := heap_keep (o' := .cells #[.int .i64 0] 3) (heap_new1 w (.cells #[.func (.func 159) #[] #[.pointer (some ⟨g, 0, none⟩)]] 132))
  have h2 := heap_new2 w (.cells #[.func (.func 159) #[] #[.pointer (some ⟨g, 0, none⟩)]] 132) (.cells #[.int .i64 0] 3)
  have hb2 := hb0to (al_below w (.cells #[.func (.func 159) #[] #[.pointer (some ⟨g, 0, none⟩)]] 132)) (al_below _ (.cells #[.int .i64 0] 3))
  obtain ⟨W2, hW2⟩ : ∃ W2, (w.alloc (.cells #[.func (.func 159) #[] #[.pointer (some ⟨g, 0, none⟩)]] 132)).alloc (.cells #[.int .i64 0] 3) = W2 := ⟨_, rfl⟩
  rw [hW2] at h1 h2 hb2
  have q1 := cell_of_heap (o := 0) h1 rfl
  have q2 := cell_of_heap (o := 0) h2 rfl
  have q3 := frozen_of_heap h2
  have qb1 := heap_lt h1
  have qb2 := heap_lt h2
  have H1 := Lib.hid h1
  have H2 := Lib.hid h2
  have HB2 := Lib.hid hb2
  have HO := Lib.hid hO
  have HF := Lib.hid hf
  have HP := Lib.hid hP
  clear h1 h2 hb2 hO hf hP
  refine (callsIn_wide (n := 10)).1 ?_
  refine callsIn_of_wp_marks Try.func90 rfl trivial ?_ rfl
  simp only [Try.ntmps90, List.size_toArray, List.length_cons, List.length_nil, Nat.reduceAdd, Nat.reduceSub, Array.replicate_succ, Array.replicate_zero, List.push_toArray, List.append_toArray, List.nil_append, List.cons_append]
  gi_wp2_with (fail)
  have hI1 : MostI w (.func (.func 159) #[] #[.pointer (some ⟨g, 0, none⟩)]) (-1) (W2.setCell ⟨w.heap.size + 1, 0, none⟩ (.int .i64 (-1))) := ⟨HB2.out.setCell (by show w.heap.size ≤ w.heap.size + 1; omega) _, (set_other_heap (heap_lt H1.out) (by omega)).trans H1.out, heap_set _ H2.out⟩
  have hz1 : (W2.setCell ⟨w.heap.size + 1, 0, none⟩ (.int .i64 (-1))).heap.size = W2.heap.size := by simp [World.setCell]
  obtain ⟨W1, hW1⟩ : ∃ W1, W2.setCell ⟨w.heap.size + 1, 0, none⟩ (.int .i64 (-1)) = W1 := ⟨_, rfl⟩
  rw [hW1] at hI1 hz1 ⊢
  have HI1 := Lib.hid hI1
  have hzw : w.heap.size + 2 ≤ W1.heap.size := by omega
  clear hW1 q1 q2 q3 hI1 hz1 hW2
  refine wpIn_rangeFunc_makes (S := fun k => k = w.heap.size + 1) (Sees := SeesN f.q) (fb := #[.pointer (some ⟨b, 0, none⟩)]) (lb := #[]) (xs := setsL f.q rd) (w0 := W1) rfl (by omega) rfl trivial (fun _ _ => rfl)
    (sales_makes 9 F f HF.out rd b w W1 HO.out HI1.out.bl (fun k => k = w.heap.size + 1) (fun k hk => by omega)) (Below.refl _ _) (fun k hk => by omega)
    (fun B x args X hs => by cases hs; rfl) (fun B x args X Y _ hs hk => hs)
    (fun pre X => MostI w (.func (.func 159) #[] #[.pointer (some ⟨g, 0, none⟩)]) (mostTo f.q p pre) X)
    (fun c pre X => False)
    ?hI ?hIx ?h0 (fun x args a' X => a' = { tmps := #[.pointer (some ⟨b, 0, none⟩), .func (.func 159) #[] #[.pointer (some ⟨g, 0, none⟩)], undef, .pointer (some ⟨w.heap.size, 0, none⟩), .int .i64 0, .pointer (some ⟨w.heap.size + 1, 0, none⟩), args.getD 0 undef, args.getD 1 undef, .pointer (some ⟨b, 0, none⟩), .func (.func 140) #[.pointer (some ⟨b, 0, none⟩)] #[], args.getD 0 undef, args.getD 1 undef, undef, undef, undef, undef, undef, undef, undef], defers := [] }) ?hAx ?hassign ?hbody ?hdone ?hstop
  case hI =>
    intro q X Y hX h hk
    exact h.kp hk (fun k hs => by have := hs.1; omega)
  case hIx => exact fun _ _ _ _ _ h _ => h.elim
  case h0 =>
    intro X hX hb
    exact HI1.out.kp (kpB_of_below hb (S := fun _ => False)) (fun _ h => h.elim)
  case hAx => exact fun _ _ _ _ _ _ h _ => h
  case hassign =>
    intro l' x args X K hz hs hK
    cases hs
    have hK' := hK _ X (.inl rfl) rfl
    clear hK
    simp only [List.zip_toArray, List.zip_cons_cons, List.zip_nil_right, List.foldl_toArray, List.foldl_cons, List.foldl_nil, List.setIfInBounds_toArray, List.set_cons_succ, List.set_cons_zero]
    gi_wp2_with (fail)
    exact hK'
  case hbody =>
    rintro l' pre m args a' X hX hpre hI hsee rfl
    cases hsee
    have hxm := (mem_setsTo.1 (hpre.subset (List.mem_append_right _ (List.mem_singleton.2 rfl)))).1
    have H103 := HP.out m hxm X hI.bl
    have HN := Lib.hid (mostTo_snoc f.q p pre m)
    have hz0 := brings_nonneg HF.out.pos (bitsL f.q.length m)
    generalize hm : mostTo f.q p pre = n at hI HN
    generalize hv : bringsL f.q (bitsL f.q.length m) = v at HN hz0
    have e0 := cell_of_heap (o := 0) hI.s rfl
    have HI := Lib.hid hI
    clear hm hv hI
    cases hp : p m
    · rw [hp] at H103 HN
      have H103 := Lib.hid H103
      clear hp
      gi_wp2_with (refine ⟨trivial, ?_⟩; gi_at_call 159; refine (CallsIn.mono (CallsIn.inRound l' (callsIn_wide.2 H103.out)) ?_); rintro e W5 ⟨rfl, hb5⟩; have HB5 := Lib.hid hb5; clear hb5)
      refine ⟨kpB_of_below HB5.out, ?_⟩
      show MostI w (.func (.func 159) #[] #[.pointer (some ⟨g, 0, none⟩)]) (mostTo f.q p (pre ++ [m])) _
      rw [HN.out]
      exact HI.out.kp (S := fun _ => False) (kpB_of_below HB5.out) (fun _ h => h.elim)
    · rw [hp, if_pos rfl] at HN
      rw [hp] at H103
      have H103 := Lib.hid H103
      clear hp
      by_cases hlt : n < v
      · have hle : n ≤ v := by omega
        gi_wp2_with (refine ⟨trivial, ?_⟩; gi_at_call 159; refine (CallsIn.mono (CallsIn.inRound l' (callsIn_wide.2 H103.out)) ?_); rintro e W5 ⟨rfl, hb5⟩; have HB5 := Lib.hid hb5; have HI5 := Lib.hid (HI.out.kp (S := fun _ => False) (kpB_of_below hb5) (fun _ h => h.elim)); have e1 := cell_of_heap (o := 0) HI5.out.n rfl; have e2 := frozen_of_heap HI5.out.n; clear hb5)
        refine ⟨(kpB_of_below HB5.out).set _ _ (.inl rfl), ?_⟩
        show MostI w (.func (.func 159) #[] #[.pointer (some ⟨g, 0, none⟩)]) (mostTo f.q p (pre ++ [m])) _
        rw [HN.out, Int.max_eq_right hle]
        exact HI5.out.set _
      · have hle : v ≤ n := by omega
        gi_wp2_with (refine ⟨trivial, ?_⟩; gi_at_call 159; refine (CallsIn.mono (CallsIn.inRound l' (callsIn_wide.2 H103.out)) ?_); rintro e W5 ⟨rfl, hb5⟩; have HB5 := Lib.hid hb5; have HI5 := Lib.hid (HI.out.kp (S := fun _ => False) (kpB_of_below hb5) (fun _ h => h.elim)); have e1 := cell_of_heap (o := 0) HI5.out.n rfl; have e2 := frozen_of_heap HI5.out.n; clear hb5)
        refine ⟨(kpB_of_below HB5.out).set _ _ (.inl rfl), ?_⟩
        show MostI w (.func (.func 159) #[] #[.pointer (some ⟨g, 0, none⟩)]) (mostTo f.q p (pre ++ [m])) _
        rw [HN.out, Int.max_eq_left hle]
        exact HI5.out.set _
  case hdone =>
    rintro X hX hI hk
    have e1 := cell_of_heap (o := 0) hI.n rfl
    have HB := Lib.hid hI.bl
    have HK := Lib.hid hk
    clear hI hk
    gi_wp2_with (fail)
    refine ⟨by simp, .inl ⟨_, _, rfl, run_takeDeferred HK.out, ?_⟩⟩
    refine ⟨.int .i64 (mostTo f.q p (setsL f.q rd)), by simp [results, Try.results90, go_sem], rfl, ?_⟩
    exact HB.out.trans (KpB.belowOf (S := fun k => k = W1.heap.size) ((KpB.refl _ _ _).put _ _ (.inl rfl)) HB.out.size (fun k hk => by omega))
  case hstop => exact fun _ _ _ _ _ h => h.elim

end Go.Proofs.Ytmbcpmnigggbaaa
