import Derived.Test.YtmbcpmnigggbaaaLiC9
namespace Go.Proofs.Ytmbcpmnigggbaaa.Li
open Go.RowKit
attribute [local go_sem] Oper.semAt_some

/-! cheapest 79. -/
theorem setIf_same {c : Array Value} {o : Nat} {v : Value} (h : c[o]? = some v) : c.setIfInBounds o v = c := by
  obtain ⟨hlt, e⟩ := Array.getElem?_eq_some_iff.1 h
  apply Array.ext
  · simp
  · intro i h1 h2
    rw [Array.getElem_setIfInBounds]
    split
    · rename_i ei; subst ei; exact e.symm
    · rfl
theorem set_same {W : World} {b o : Nat} {v : Value} (h : W.cell? ⟨b, o, none⟩ = some v) : W.setCell ⟨b, o, none⟩ v = W := by
  unfold World.cell? at h
  cases hb : W.heap[b]? with
  | none => simp [hb] at h
  | some ob =>
    obtain ⟨hlt, e⟩ := Array.getElem?_eq_some_iff.1 hb
    have hh : (W.setCell ⟨b, o, none⟩ v).heap = W.heap := by
      apply Array.ext
      · simp [World.setCell]
      · intro i h1 h2
        simp only [World.setCell]
        by_cases ei : i = b
        · subst ei
          rw [Array.getElem_modify_self, e]
          cases ob <;> simp_all [setIf_same]
        · rw [Array.getElem_modify_of_ne (Ne.symm ei)]
    show ({ W with heap := (W.setCell ⟨b, o, none⟩ v).heap } : World) = W
    rw [hh]
/-- What a crew costs. -/
def costTo (s : Sea) (c : List Int) (k : Nat) : Int := ((c.take k).map fun b => penceN s b.toNat).sum
def costS (s : Sea) (c : List Int) : Int := costTo s c c.length
theorem costTo_next {s : Sea} {c : List Int} {k : Nat} {x : Int} (h : c[k]? = some x) : costTo s c (k + 1) = costTo s c k + penceN s x.toNat := by
  unfold costTo
  rw [List.take_add_one, h]
  simp
/-- The first of the cheapest crews that surely hold, and its cost. -/
def cheapS (s : Sea) : Option (List Int × Int) := cheapL (safeC s) (costS s) (crewsR s.bs.length s.ps.length [])
def ChB (B : Nat) (X : World) (best : Value) (n : Int) : Option (List Int × Int) → Prop
  | none => best = .slice none 0 0 ∧ n = -1
  | some (c, m) => n = m ∧ 0 ≤ m ∧ ∃ A cp, best = .slice A c.length cp ∧ IntsFrom X B A c ∧ c.length ≤ cp
theorem ChB.kp {B : Nat} {X Y : World} {best : Value} {n : Int} {o : Option (List Int × Int)} (h : ChB B X best n o) {S : Nat → Prop} (hk : KpB S X.heap.size X Y) (hS : ∀ k, B ≤ k → ¬ S k) : ChB B Y best n o := by
  match o, h with
  | none, h => exact h
  | some (c, m), ⟨h1, h2, A, cp, h3, h4, h5⟩ => exact ⟨h1, h2, A, cp, h3, h4.kp hk hS, h5⟩
theorem ChB.slice {B : Nat} {X : World} {best : Value} {n : Int} {o : Option (List Int × Int)} (h : ChB B X best n o) : ∃ A0 n0 c0, best = .slice A0 n0 c0 := by
  match o, h with
  | none, h => exact ⟨_, _, _, h.1⟩
  | some (c, m), ⟨_, _, A, cp, h3, _⟩ => exact ⟨_, _, _, h3⟩
theorem ChB.mono {B B' : Nat} {X : World} {best : Value} {n : Int} {o : Option (List Int × Int)} (h : ChB B X best n o) (hB : B' ≤ B) : ChB B' X best n o := by
  match o, h with
  | none, h => exact h
  | some (c, m), ⟨h1, h2, A, cp, h3, h4, h8⟩ =>
    refine ⟨h1, h2, A, cp, h3, ?_, h8⟩
    rcases h4 with h4 | ⟨b, off, e, h5, h6, h7⟩
    · exact .inl h4
    · exact .inr ⟨b, off, e, by omega, h6, h7⟩
/-- What cheapest knows between two rounds: its boxes. -/
structure CheapI (w : World) (b : Nat) (best : Value) (n : Int) (X : World) : Prop where
  bl : Below w.heap.size w X
  s : X.heap[w.heap.size]? = some (.cells #[.pointer (some ⟨b, 0, none⟩)] 112 (0, 0))
  b : X.heap[w.heap.size + 1]? = some (.cells #[best] 25 (0, 0))
  n : X.heap[w.heap.size + 1 + 1]? = some (.cells #[.int .i64 n] 3 (0, 0))
theorem CheapI.kp {w : World} {b : Nat} {best : Value} {n : Int} {X Y : World} (h : CheapI w b best n X) {S : Nat → Prop} (hk : KpB S X.heap.size X Y) (hS : ∀ k, S k → w.heap.size + 3 ≤ k) : CheapI w b best n Y :=
  ⟨h.bl.trans (hk.belowOf h.bl.size (fun k hs => by have := hS k hs; omega)), (hk.block _ (heap_lt h.s) (fun hs => by have := hS _ hs; omega)).trans h.s, (hk.block _ (heap_lt h.b) (fun hs => by have := hS _ hs; omega)).trans h.b, (hk.block _ (heap_lt h.n) (fun hs => by have := hS _ hs; omega)).trans h.n⟩
theorem CheapI.set {w : World} {b : Nat} {best : Value} {n : Int} {X : World} (h : CheapI w b best n X) (u : Value) (m : Int) : CheapI w b u m ((X.setCell ⟨w.heap.size + 1, 0, none⟩ u).setCell ⟨w.heap.size + 1 + 1, 0, none⟩ (.int .i64 m)) := by
  have z : (X.setCell ⟨w.heap.size + 1, 0, none⟩ u).heap.size = X.heap.size := by simp [World.setCell]
  exact ⟨(h.bl.setCell (by show w.heap.size ≤ w.heap.size + 1; omega) _).setCell (by show w.heap.size ≤ w.heap.size + 1 + 1; omega) _,
    (set_other_heap (by rw [z]; exact heap_lt h.s) (by omega)).trans ((set_other_heap (heap_lt h.s) (by omega)).trans h.s),
    (set_other_heap (by rw [z]; exact heap_lt h.b) (by omega)).trans (heap_set _ h.b),
    heap_set _ ((set_other_heap (heap_lt h.n) (by omega)).trans h.n)⟩
/-- What cheapest returns. -/
def CheapPost (s : Sea) (w : World) (e : Ending) (w' : World) : Prop := ∃ best n, e = .returned (.tuple #[best, .int .i64 n]) ∧ ChB w.heap.size w' best n (cheapS s) ∧ Below w.heap.size w w'
set_option maxRecDepth 100000 in
set_option maxHeartbeats 4000000 in
theorem cheapest_any (L : SL) (s : Sea) (hS : SOK s) (b : Nat) (w : World) (hW : WBox w b L s (shares s)) (hH : SeaAt w w.heap.size L s) : Calls Try.prog 75 #[.pointer (some ⟨b, 0, none⟩)] w (CheapPost s w) := by
  have h1 := heap_keep (o' := .cells #[.int .i64 0] 3) (heap_keep (o' := .cells #[.slice none 0 0] 25) (heap_new1 w (.cells #[.pointer (some ⟨b, 0, none⟩)] 112)))
  have h2 := heap_keep (o' := .cells #[.int .i64 0] 3) (heap_new2 w (.cells #[.pointer (some ⟨b, 0, none⟩)] 112) (.cells #[.slice none 0 0] 25))
  have h3 := heap_new3 w (.cells #[.pointer (some ⟨b, 0, none⟩)] 112) (.cells #[.slice none 0 0] 25) (.cells #[.int .i64 0] 3)
  have hb2 := hb0to (hb0to (al_below w (.cells #[.pointer (some ⟨b, 0, none⟩)] 112)) (al_below _ (.cells #[.slice none 0 0] 25))) (al_below _ (.cells #[.int .i64 0] 3))
  obtain ⟨W2, hW2⟩ : ∃ W2, ((w.alloc (.cells #[.pointer (some ⟨b, 0, none⟩)] 112)).alloc (.cells #[.slice none 0 0] 25)).alloc (.cells #[.int .i64 0] 3) = W2 := ⟨_, rfl⟩
  rw [hW2] at h1 h2 h3 hb2
  have q1 := cell_of_heap (o := 0) h1 rfl
  have q2 := cell_of_heap (o := 0) h3 rfl
  have q3 := frozen_of_heap h3
  have H1 := Lib.hid h1
  have H2 := Lib.hid h2
  have H3 := Lib.hid h3
  have qb1 := heap_lt h1
  have qb2 := heap_lt h3
  have HB2 := Lib.hid hb2
  have HW := Lib.hid hW
  have HH := Lib.hid hH
  have HS := Lib.hid hS
  have hpl := hS.pl
  clear h1 h2 h3 hb2 hW hH hS
  refine (callsIn_wide (n := 10)).1 ?_
  refine callsIn_of_wp_marks Try.func75 rfl trivial ?_ rfl
  simp only [Try.ntmps75, List.size_toArray, List.length_cons, List.length_nil, Nat.reduceAdd, Nat.reduceSub, Array.replicate_succ, Array.replicate_zero, List.push_toArray, List.append_toArray, List.nil_append, List.cons_append]
  gi_wp2_with (fail)
  have hz1 : (W2.setCell ⟨w.heap.size + 1 + 1, 0, none⟩ (.int .i64 (-1))).heap.size = W2.heap.size := by simp [World.setCell]
  have hI1 : CheapI w b (.slice none 0 0) (-1) (W2.setCell ⟨w.heap.size + 1 + 1, 0, none⟩ (.int .i64 (-1))) := ⟨HB2.out.setCell (by show w.heap.size ≤ w.heap.size + 1 + 1; omega) _, (set_other_heap (heap_lt H1.out) (by omega)).trans H1.out, (set_other_heap (heap_lt H2.out) (by omega)).trans H2.out, heap_set _ H3.out⟩
  obtain ⟨W1, hW1⟩ : ∃ W1, W2.setCell ⟨w.heap.size + 1 + 1, 0, none⟩ (.int .i64 (-1)) = W1 := ⟨_, rfl⟩
  rw [hW1] at hI1 hz1 ⊢
  have HI1 := Lib.hid hI1
  have hzw : w.heap.size + 3 ≤ W1.heap.size := by omega
  clear hW1 q1 q2 q3 hI1 hz1 hW2
  refine wpIn_rangeFunc_makes (S := fun k => k = w.heap.size + 1 ∨ k = w.heap.size + 1 + 1) (Sees := SeesC) (fb := #[.pointer (some ⟨b, 0, none⟩)]) (lb := #[]) (xs := crewsR s.bs.length s.ps.length []) (w0 := W1) rfl (by omega) rfl trivial (fun _ _ => rfl)
    (crews_makes 9 L s HS.out b W1 (HW.out.of (HI1.out.bl.block _ HW.out.lt)) (fun k => k = w.heap.size + 1 ∨ k = w.heap.size + 1 + 1) (by have := HW.out.lt; omega) (fun k hk => by omega)) (Below.refl _ _) (fun k hk => by omega)
    (fun B x args X hs => by obtain ⟨A, c, rfl, -⟩ := hs; rfl) (fun B x args X Y _ hs hk => hs.kept hk)
    (fun pre X => ∃ best n, CheapI w b best n X ∧ ChB (W1.heap.size + 2) X best n (cheapL (safeC s) (costS s) pre))
    (fun c pre X => False)
    ?hI ?hIx ?h0 (fun x args a' X => a' = { tmps := #[.pointer (some ⟨b, 0, none⟩), .pointer (some ⟨w.heap.size, 0, none⟩), .pointer (some ⟨w.heap.size + 1, 0, none⟩), .pointer (some ⟨w.heap.size + 1 + 1, 0, none⟩), args.getD 0 undef, undef, undef, undef, .pointer (some ⟨b, 0, none⟩), .func (.func 131) #[.pointer (some ⟨b, 0, none⟩)] #[], args.getD 0 undef, undef, undef, undef, undef, undef, undef, undef, undef, undef, undef, undef, undef, undef, undef, undef, undef, undef, undef, undef, undef, undef, undef, undef, undef, undef, undef, undef, undef, undef, undef, undef, undef, undef], defers := [] }) ?hAx ?hassign ?hbody ?hdone ?hstop
  case hI =>
    rintro q X Y hX ⟨best, n, h1, h2⟩ hk
    exact ⟨best, n, h1.kp hk (fun k hs => by have := hs.1; omega), h2.kp hk (fun k h hs => by have := hs.2; omega)⟩
  case hIx => exact fun _ _ _ _ _ h _ => h.elim
  case h0 =>
    intro X hX hb
    exact ⟨_, _, HI1.out.kp (kpB_of_below hb (S := fun _ => False)) (fun _ h => h.elim), rfl, rfl⟩
  case hAx => exact fun _ _ _ _ _ _ h _ => h
  case hassign =>
    intro l' x args X K hz hs hK
    obtain ⟨A, c, rfl, -⟩ := hs
    have hK' := hK _ X (.inl rfl) rfl
    clear hK
    simp only [List.zip_toArray, List.zip_cons_cons, List.zip_nil_right, List.foldl_toArray, List.foldl_cons, List.foldl_nil, List.setIfInBounds_toArray, List.set_cons_succ, List.set_cons_zero]
    gi_wp2
    exact hK'
  case hbody =>
    rintro l' pre x args a' X hX hpre ⟨best, n, hI, hB⟩ hsee rfl
    obtain ⟨A, c, rfl, hA, hcap⟩ := hsee
    have HCAP := Lib.hid hcap
    clear hcap
    have hxm := mem_crews.1 (hpre.subset (List.mem_append_right _ (List.mem_singleton.2 rfl)))
    have H76 := Lib.hid (holds_any L s HS.out b x A c (fun y hy => hxm.2.1 y hy) (Nat.le_of_eq hxm.1) X (HW.out.of (hI.bl.block _ HW.out.lt)) (HH.out.below hI.bl) hA.ints)
    have HSN := Lib.hid (cheapL_snoc (safeC s) (costS s) pre x)
    have e0 := cell_of_heap (o := 0) hI.s rfl
    have HI := Lib.hid hI
    have HB := Lib.hid hB
    have HA := Lib.hid hA
    have HXM := Lib.hid hxm
    clear hxm hI hA hB
    cases hok : safeC s x
    · rw [hok] at H76
      have HN := Lib.hid (show cheapL (safeC s) (costS s) (pre ++ [x]) = cheapL (safeC s) (costS s) pre by rw [HSN.out]; unfold cheapStep; rw [hok]; rfl)
      clear hok
      gi_wp2_with (refine ⟨trivial, ?_⟩; gi_at_call 79; refine (CallsIn.mono (CallsIn.inRound l' (callsIn_wide.2 H76.out)) ?_); rintro e W5 ⟨rfl, hb5⟩; have HB5 := Lib.hid hb5; clear hb5)
      refine ⟨kpB_of_below HB5.out, best, n, HI.out.kp (S := fun _ => False) (kpB_of_below HB5.out) (fun _ h => h.elim), ?_⟩
      show ChB _ _ _ _ (cheapL (safeC s) (costS s) (pre ++ [x]))
      rw [HN.out]
      exact HB.out.kp (S := fun _ => False) (kpB_of_below HB5.out) (fun _ _ h => h)
    · rw [hok] at H76
      have HOK := Lib.hid hok
      clear hok
      gi_wp2_with (refine ⟨trivial, ?_⟩; gi_at_call 79; refine (CallsIn.mono (CallsIn.inRound l' (callsIn_wide.2 H76.out)) ?_); rintro e W5 ⟨rfl, hb5⟩; have HB5 := Lib.hid hb5; have e5 := below_cell hb5 e0; clear hb5)
      have hxl : x.length ≤ 4 := by have := HXM.out.1; omega
      have HA5 := Lib.hid (HA.out.below HB5.out)
      have HI5 := Lib.hid (HI.out.kp (S := fun _ => False) (kpB_of_below HB5.out) (fun _ h => h.elim))
      have e6 := cell_of_heap (o := 0) HI5.out.n rfl
      have HH5 := Lib.hid (HH.out.below HI5.out.bl)
      obtain ⟨_, _, _, g3⟩ := (HW.out.of (HI5.out.bl.block _ HW.out.lt)).cells
      have e7 := cell_of_heap (o := 0) HI5.out.b rfl
      have f6 := frozen_of_heap HI5.out.n
      have f7 := frozen_of_heap HI5.out.b
      have w6 := heap_lt HI5.out.n
      clear e0
      gi_loop [5, 17] (fun v i => ∃ (k : Nat) (y : Int), k ≤ x.length ∧ i = .int .i64 k ∧ v = .int .i64 y ∧ 0 ≤ y ∧ y ≤ 99 * k ∧ Hid (y = costTo s x k)) (fun _ i => x.length - (intOf i).toNat)
      case atStart => exact ⟨0, 0, Nat.zero_le _, rfl, rfl, by omega, by omega, Lib.hid rfl⟩
      case round =>
        obtain ⟨k, y, hk, rfl, rfl, y0, y1, hY⟩ := hrel
        by_cases hlt : k < x.length
        · obtain ⟨j, hj⟩ : ∃ j, x[k]? = some j := ⟨_, List.getElem?_eq_getElem hlt⟩
          obtain ⟨j0, j1⟩ := HXM.out.2.1 j (List.mem_of_getElem? hj)
          obtain ⟨jn, rfl⟩ : ∃ jn : Nat, j = jn := ⟨j.toNat, by omega⟩
          obtain ⟨z, hz, _, _, z2, z3⟩ := boat_at HS.out (show jn < s.bs.length by omega)
          obtain ⟨bi, oi, eA, blt, d1⟩ := HA5.out.ints.at_ hj
          obtain ⟨bb, ob, eB, blt2, _, d2⟩ := HH5.out.b.at_ hz
          have HN := Lib.hid (show y + z.2 = costTo s x (k + 1) by rw [costTo_next hj, ← hY.out, Int.toNat_natCast, (boat_eq hz).2])
          have hj1 : jn < s.bs.length := by omega
          rw [eB] at g3
          have hw1 : IntKind.i64.wrap (y + z.2) = y + z.2 := IntWalk.i64_in _ (by omega)
          subst eA
          clear hj hz eB
          gi_wp2
          go_round
          case rel => exact ⟨k + 1, y + z.2, by omega, by go_num, rfl, by omega, by omega, HN⟩
          case measure => simp [intOf]; omega
        · obtain rfl : k = x.length := by omega
          have HC0 := Lib.hid (show 0 ≤ costS s x by unfold costS; rw [← hY.out]; exact y0)
          obtain rfl : y = costS s x := hY.out
          clear hY
          cases hbo : cheapL (safeC s) (costS s) pre with
          | none =>
            have hBo := HB.out
            rw [hbo] at hBo
            obtain ⟨rfl, rfl⟩ := hBo
            have HBO := Lib.hid hbo
            clear hbo
            gi_wp2
            have hs5 := HI5.out.set (.slice A x.length c) (costS s x)
            have hk5 : KpB (fun k => k = w.heap.size + 1 ∨ k = w.heap.size + 1 + 1) X.heap.size X ((W5.setCell ⟨w.heap.size + 1, 0, none⟩ (.slice A x.length c)).setCell ⟨w.heap.size + 1 + 1, 0, none⟩ (.int .i64 (costS s x))) := ((kpB_of_below HB5.out).set _ _ (.inl (.inl rfl))).set _ _ (.inl (.inr rfl))
            refine ⟨hk5, _, _, hs5, ?_⟩
            show ChB _ _ _ _ (cheapL (safeC s) (costS s) (pre ++ [x]))
            rw [HSN.out]
            unfold cheapStep
            rw [if_pos HOK.out, HBO.out]
            exact ⟨rfl, HC0.out, A, c, rfl, HA.out.kp hk5 (fun k hk => by omega), HCAP.out⟩
          | some qn =>
            obtain ⟨q, m⟩ := qn
            have hBo := HB.out
            rw [hbo] at hBo
            obtain ⟨rfl, hm0, hBo⟩ := hBo
            have HBO := Lib.hid hbo
            have HB3 := Lib.hid hBo
            clear hbo hBo
            have hn0 : decide (n < 0) = false := decide_eq_false (by omega)
            by_cases hlt : costS s x < n
            · have hd : decide (costS s x < n) = true := decide_eq_true hlt
              have HLT := Lib.hid hlt
              clear hlt
              gi_wp2
              have hs5 := HI5.out.set (.slice A x.length c) (costS s x)
              have hk5 : KpB (fun k => k = w.heap.size + 1 ∨ k = w.heap.size + 1 + 1) X.heap.size X ((W5.setCell ⟨w.heap.size + 1, 0, none⟩ (.slice A x.length c)).setCell ⟨w.heap.size + 1 + 1, 0, none⟩ (.int .i64 (costS s x))) := ((kpB_of_below HB5.out).set _ _ (.inl (.inl rfl))).set _ _ (.inl (.inr rfl))
              refine ⟨hk5, _, _, hs5, ?_⟩
              show ChB _ _ _ _ (cheapL (safeC s) (costS s) (pre ++ [x]))
              rw [HSN.out]
              unfold cheapStep
              rw [if_pos HOK.out, HBO.out]
              simp only
              rw [if_pos HLT.out]
              exact ⟨rfl, HC0.out, A, c, rfl, HA.out.kp hk5 (fun k hk => by omega), HCAP.out⟩
            · have hd : decide (costS s x < n) = false := decide_eq_false hlt
              have HLT := Lib.hid hlt
              clear hlt
              gi_wp2
              refine ⟨kpB_of_below HB5.out, _, _, HI5.out, ?_⟩
              show ChB _ _ _ _ (cheapL (safeC s) (costS s) (pre ++ [x]))
              rw [HSN.out]
              unfold cheapStep
              rw [if_pos HOK.out, HBO.out]
              simp only
              rw [if_neg (by have := HLT.out; omega)]
              have hB5 := HB.out.kp (S := fun _ => False) (kpB_of_below HB5.out) (fun _ _ h => h)
              rw [HBO.out] at hB5
              exact hB5
  case hdone =>
    rintro X hX ⟨best, n, hI, hB⟩ hk
    have HK := Lib.hid hk
    obtain ⟨A0, n0, c0, rfl⟩ : ∃ A0 n0 c0, best = .slice A0 n0 c0 := hB.slice
    have HB := Lib.hid hB
    have c2 : X.cell? ⟨w.heap.size + 1, 0, none⟩ = some (.slice A0 n0 c0) := cell_of_heap (o := 0) hI.b rfl
    have c3 : X.cell? ⟨w.heap.size + 1 + 1, 0, none⟩ = some (.int .i64 n) := cell_of_heap (o := 0) hI.n rfl
    have f2 := frozen_of_heap hI.b
    have f3 := frozen_of_heap hI.n
    have l2 := heap_lt hI.b
    have l3 := heap_lt hI.n
    have HI := Lib.hid hI
    clear hk hB hI
    gi_wp2
    refine wpIn_wide.2 ?_
    go_region
    gi_wp2
    rw [set_same c2, set_same c3]
    refine ⟨by simp, .inl ⟨_, _, rfl, run_takeDeferred HK.out, ?_⟩⟩
    have hkp : KpB (fun k => k = W1.heap.size) X.heap.size X (X.drew.putObj W1.heap.size (.deferred none)) := KpB.put (S := fun k => k = W1.heap.size) (w := X) (W := X.drew) ⟨rfl, rfl, rfl, Nat.le_refl _, fun _ _ _ => rfl⟩ W1.heap.size _ (.inl rfl)
    have hI9 := HI.out.kp hkp (fun k hk => by omega)
    have d2 : (X.drew.putObj W1.heap.size (.deferred none)).cell? ⟨w.heap.size + 1, 0, none⟩ = some (.slice A0 n0 c0) := cell_of_heap (o := 0) hI9.b rfl
    have d3 : (X.drew.putObj W1.heap.size (.deferred none)).cell? ⟨w.heap.size + 1 + 1, 0, none⟩ = some (.int .i64 n) := cell_of_heap (o := 0) hI9.n rfl
    refine ⟨.tuple #[.slice A0 n0 c0, .int .i64 n], ?_, _, _, rfl, (HB.out.kp hkp (fun k h hs => by have hs' : k = W1.heap.size := hs; omega)).mono (by omega), hI9.bl⟩
    simp [results, Try.results75, go_sem, d2, d3]
  case hstop => exact fun _ _ _ _ _ h => h.elim
open Go.RowKit

/-! OnesCount 106, 110. -/
/-- How many bits of the first six are set. -/
def popN (u : Nat) : Nat := ((List.range 6).filter fun i => u.testBit i).length
set_option maxRecDepth 100000 in
theorem ones64_any (u : Nat) (hu : u < 64) (w : World) : Calls Try.prog 200 #[.int .u64 u] w fun e w' => e = .returned (.int .i64 (popN u)) ∧ w = w' := by
  go_enter Try.func200, Try.ntmps200
  go_wp2_with (fail)
  go_ret
  refine ⟨congrArg (fun z => Ending.returned (.int .i64 z)) ?_, rfl⟩
  clear w
  revert u
  decide +kernel
theorem ones_any (u : Nat) (hu : u < 64) (w : World) : Calls Try.prog 178 #[.int .u64 u] w fun e w' => e = .returned (.int .i64 (popN u)) ∧ w = w' := by
  have H := Lib.hid (fun w => ones64_any u hu w)
  go_enter Try.func178, Try.ntmps178
  go_wp2_with (go_at_call 200; refine (H.out _).mono ?_; rintro e w' ⟨rfl, rfl⟩)
  go_ret
  exact ⟨rfl, rfl⟩
theorem pop_step : ∀ u, u < 64 → ∀ j, j < 6 → (u ||| (1 <<< j)) < 64 ∧ popN (u ||| (1 <<< j)) = if u.testBit j then popN u else popN u + 1 := by decide +kernel
theorem test_step : ∀ u, u < 64 → ∀ j, j < 6 → ∀ i, i < 6 → (u ||| (1 <<< j)).testBit i = (u.testBit i || decide (i = j)) := by decide +kernel
theorem or_step : ∀ u : Nat, u < 64 → ∀ j : Nat, j < 6 → bits BinOp.or IntKind.i64 (u : Int) (wrap64 (2 ^ j)) = (((u ||| (1 <<< j)) : Nat) : Int) := by decide +kernel
/-- A crew, as a test. -/
def crewB (s : Sea) (c : List Int) : Bool := (c.all fun x => inR x 0 ((s.bs.length : Int) - 1)) && (decide (c.length = s.ps.length) && decide c.Nodup)
theorem crewB_iff {s : Sea} {c : List Int} : crewB s c = true ↔ CrewOf s.bs.length s.ps.length c := by
  unfold crewB CrewOf
  simp only [Bool.and_eq_true, List.all_eq_true, inR_true, decide_eq_true_eq]
  constructor
  · rintro ⟨h1, h2, h3⟩; exact ⟨h2, fun x hx => by have := h1 x hx; omega, h3⟩
  · rintro ⟨h1, h2, h3⟩; exact ⟨fun x hx => by have := h2 x hx; omega, h1, h3⟩
/-- What isCrew knows of the first numbers of a list: their bits. -/
def BitsOf (c : List Int) (u : Nat) : Prop := u < 64 ∧ (∀ i, i < 6 → (u.testBit i = true ↔ (i : Int) ∈ c)) ∧ popN u ≤ c.length ∧ (popN u = c.length ↔ c.Nodup)
theorem BitsOf.nil : BitsOf [] 0 := ⟨by omega, by simp, by decide, by decide⟩
theorem BitsOf.snoc {c : List Int} {u j : Nat} (h : BitsOf c u) (hj : j < 6) : BitsOf (c ++ [(j : Int)]) (u ||| (1 <<< j)) := by
  obtain ⟨h1, h2, h3, h4⟩ := h
  obtain ⟨p1, p2⟩ := pop_step u h1 j hj
  refine ⟨p1, fun i hi => ?_, ?_, ?_⟩
  · rw [test_step u h1 j hj i hi]
    simp only [List.mem_append, List.mem_singleton, Bool.or_eq_true, h2 i hi, decide_eq_true_eq]
    exact or_congr Iff.rfl (by omega)
  · rw [p2, List.length_append]; simp; split <;> omega
  · rw [p2, List.length_append, List.nodup_append]
    have hm := h2 j hj
    cases hb : u.testBit j with
    | true =>
      have hmem := hm.1 hb
      simp only [if_true, List.length_singleton]
      constructor
      · intro h; omega
      · rintro ⟨_, _, h⟩; exact absurd rfl (h _ hmem _ (List.mem_singleton.2 rfl))
    | false =>
      have hmem : ¬ (j : Int) ∈ c := fun h => by rw [hm.2 h] at hb; cases hb
      simp only [if_false, List.length_singleton, Nat.add_right_cancel_iff, h4, Bool.false_eq_true]
      constructor
      · intro h
        refine ⟨h, by simp, fun x hx y hy => ?_⟩
        rw [List.mem_singleton] at hy
        subst hy
        intro e
        exact hmem (e ▸ hx)
      · exact fun h => h.1
set_option maxRecDepth 100000 in
set_option maxHeartbeats 4000000 in
theorem isCrew_any (L : SL) (s : Sea) (hbl : s.bs.length ≤ 6) (c : List Int) (A : Option Addr) (cp : Nat) (hcl : c.length ≤ 1000) (hpl : s.ps.length ≤ 4) (w : World) (hI : IntsAt w w.heap.size A c) :
    Calls Try.prog 132 #[L.enc s, .slice A c.length cp] w fun e w' => e = .returned (.bool (crewB s c)) ∧ Below w.heap.size w w' := by
  have hbw := al_below w (.cells #[.int .i64 s.wl, .int .i64 s.wh, .slice L.Ap s.ps.length L.cp, .slice L.Ab s.bs.length L.cb] 44)
  have HB := Lib.hid (SBox.new w L s)
  obtain ⟨c0, c1, c2, c3⟩ := (SBox.new w L s).cells
  obtain ⟨W0, hW0⟩ : ∃ W0, w.alloc (.cells #[.int .i64 s.wl, .int .i64 s.wh, .slice L.Ap s.ps.length L.cp, .slice L.Ab s.bs.length L.cb] 44) = W0 := ⟨_, rfl⟩
  rw [hW0] at hbw HB c0 c1 c2 c3
  have HBW := Lib.hid hbw
  have HW0 := Lib.hid hW0
  have HI := Lib.hid (ints_later hI hbw)
  clear hbw hW0 hI
  obtain ⟨Ap, cpp, Ab, cb⟩ := L
  go_enter Try.func132, Try.ntmps132
  go_upto_region 2 with (fail)
  have e := HW0.out
  rw [e]
  clear e
  go_wp2_with (fail)
  go_loop [5, 10] (fun v i => ∃ (k u : Nat), k ≤ c.length ∧ i = .int .i64 k ∧ v = .int .i64 u ∧ u < 64 ∧ Hid (BitsOf (c.take k) u) ∧ Hid ((c.take k).all (fun x => inR x 0 ((s.bs.length : Int) - 1)) = true)) (fun _ i => c.length - (intOf i).toNat)
  case atStart => exact ⟨0, 0, Nat.zero_le _, rfl, rfl, by omega, Lib.hid BitsOf.nil, Lib.hid rfl⟩
  case round =>
    obtain ⟨k, u, hk, rfl, rfl, hu, hbits, hall⟩ := hrel
    by_cases hlt : k < c.length
    · obtain ⟨j, hj⟩ : ∃ j, c[k]? = some j := ⟨_, List.getElem?_eq_getElem hlt⟩
      obtain ⟨bi, oi, eA, blt, d1⟩ := HI.out.at_ hj
      have HT := Lib.hid (show c.take (k + 1) = c.take k ++ [j] by rw [List.take_add_one, hj]; rfl)
      have HM := Lib.hid (List.mem_of_getElem? hj)
      subst eA
      clear hj
      cases hq : inR j 0 ((s.bs.length : Int) - 1)
      · have HQ := Lib.hid (fun W => show Calls Try.prog 135 #[.int .i64 j, .int .i64 0, .int .i64 ((s.bs.length : Int) - 1)] W fun e w' => e = .returned (.bool false) ∧ W = w' by have := within_any j 0 ((s.bs.length : Int) - 1) W; rw [hq] at this; exact this)
        have HF := Lib.hid (show crewB s c = false by
          unfold crewB
          rw [Bool.and_eq_false_iff]
          refine .inl ?_
          rw [List.all_eq_false]
          exact ⟨_, HM.out, by simp [hq]⟩)
        clear hq
        as_aux_lemma =>
        go_wp2_with (go_at_call 135; refine (HQ.out _).mono ?_; rintro e w' ⟨rfl, rfl⟩)
        go_ret
        exact ⟨by rw [HF.out]; rfl, HBW.out⟩
      · have HQ := Lib.hid (fun W => show Calls Try.prog 135 #[.int .i64 j, .int .i64 0, .int .i64 ((s.bs.length : Int) - 1)] W fun e w' => e = .returned (.bool true) ∧ W = w' by have := within_any j 0 ((s.bs.length : Int) - 1) W; rw [hq] at this; exact this)
        have hj2 := inR_true.1 hq
        obtain ⟨jn, rfl⟩ : ∃ jn : Nat, j = jn := ⟨j.toNat, by omega⟩
        have hj6 : jn < 6 := by omega
        have HA2 := Lib.hid (show (c.take (k + 1)).all (fun x => inR x 0 ((s.bs.length : Int) - 1)) = true by rw [HT.out, List.all_append, hall.out]; simp [hq])
        have HOR := Lib.hid (or_step u hu jn hj6)
        have HB2 := Lib.hid (show BitsOf (c.take (k + 1)) (u ||| (1 <<< jn)) by rw [HT.out]; exact hbits.out.snoc hj6)
        clear hq
        as_aux_lemma =>
        go_wp2_with (go_at_call 135; refine (HQ.out _).mono ?_; rintro e w' ⟨rfl, rfl⟩)
        go_round
        case rel => exact ⟨k + 1, u ||| (1 <<< jn), by omega, by go_num, by rw [HOR.out], (pop_step u hu jn hj6).1, HB2, HA2⟩
        case measure => simp [intOf]; omega
    · obtain rfl : k = c.length := by omega
      have hbits2 := hbits.out
      have hall2 := hall.out
      rw [List.take_length] at hbits2 hall2
      have HBT := Lib.hid hbits2
      have HALL := Lib.hid hall2
      clear hbits hall hbits2 hall2
      have hp6 := HBT.out.2.2.1
      by_cases hl : c.length = s.ps.length
      · have hd : ((c.length : Int) == (s.ps.length : Int)) = true := by simp [hl]
        have HL := Lib.hid hl
        have H106 := Lib.hid (fun w => ones_any u hu w)
        clear hl
        go_wp2_with (go_at_call 178; refine (H106.out _).mono ?_; rintro e w' ⟨rfl, rfl⟩)
        go_ret
        refine ⟨?_, HBW.out⟩
        have e : crewB s c = ((popN u : Int) == (c.length : Int)) := by
          unfold crewB
          rw [HALL.out, decide_eq_true HL.out, Bool.true_and, Bool.true_and, Bool.eq_iff_iff, decide_eq_true_eq, ← HBT.out.2.2.2, beq_iff_eq]
          omega
        rw [e]; rfl
      · have hd : ((c.length : Int) == (s.ps.length : Int)) = false := beq_eq_false_iff_ne.2 (by omega)
        have HF := Lib.hid (show crewB s c = false by unfold crewB; simp [hl])
        clear hl
        go_wp2_with (fail)
        go_ret
        exact ⟨by rw [HF.out]; rfl, HBW.out⟩
open Go.RowKit

/-! sailing 75. -/
theorem askS_bad {s : Sea} (is : Bool) (h : validS s = false) : askS s is = 50 := by unfold askS; rw [if_pos h]
theorem askS_good {s : Sea} (is : Bool) (h : validS s = true) : askS s is = if is = false then 1 else 0 := by unfold askS; rw [if_neg (by simp [h])]
theorem askS_true {s : Sea} (h : validS s = true) : askS s true = 0 := by rw [askS_good _ h]; rfl
theorem askS_two {s : Sea} {is : Bool} (h : askS s true = 0) (h1 : askS s is ≠ 0) : askS s is = 1 ∧ is = false := by
  rw [askS_good _ (askS_ok h).1] at h1 ⊢
  cases is
  · exact ⟨rfl, rfl⟩
  · simp at h1
theorem askS_bad_same {s : Sea} (is : Bool) (h : askS s true ≠ 0) : askS s is = askS s true := by
  cases hv : validS s
  · rw [askS_bad _ hv, askS_bad _ hv]
  · exact absurd (askS_true hv) h
set_option maxRecDepth 100000 in
set_option maxHeartbeats 4000000 in
theorem sailing_no (L : SL) (s : Sea) (c : List Int) (A : Option Addr) (cv : Nat) (hcl : c.length ≤ 1000) (w : World) (hH : SeaAt w w.heap.size L s) (hI : IntsAt w w.heap.size A c) (h : askS s (crewB s c) ≠ 0) : Calls Try.prog 78 #[L.enc s, .slice A c.length cv] w fun e w' => e = .returned (.tuple #[.pointer none, .int .i64 (askS s (crewB s c))]) ∧ Below w.heap.size w w' := by
  have hbw := al_below w (.cells #[.int .i64 s.wl, .int .i64 s.wh, .slice L.Ap s.ps.length L.cp, .slice L.Ab s.bs.length L.cb] 44)
  have HB := Lib.hid (SBox.new w L s)
  obtain ⟨c0, c1, c2, c3⟩ := (SBox.new w L s).cells
  obtain ⟨W0, hW0⟩ : ∃ W0, w.alloc (.cells #[.int .i64 s.wl, .int .i64 s.wh, .slice L.Ap s.ps.length L.cp, .slice L.Ab s.bs.length L.cb] 44) = W0 := ⟨_, rfl⟩
  rw [hW0] at hbw HB c0 c1 c2 c3
  have HBW := Lib.hid hbw
  have HW0 := Lib.hid hW0
  have HH := Lib.hid (hH.below hbw)
  have HI := Lib.hid (ints_later hI hbw)
  clear hbw hW0 hH hI
  by_cases h0 : askS s true = 0
  · obtain ⟨h1, h2⟩ := askS_two h0 h
    have hS := SOK.ofValid (askS_ok h0).1
    have H72a := Lib.hid (fun W hW => open_yes L s true W hW h0)
    have H72 := Lib.hid (fun W hW => open_no L s (crewB s c) W hW h)
    have H103 := Lib.hid (fun W hW => isCrew_any L s hS.bl c A cv hcl hS.pl W hW)
    rw [h1] at H72 ⊢
    rw [h2] at H72 H103
    clear h h1 h2 h0 hS
    have hcl2 := hcl
    obtain ⟨Ap, cp, Ab, cb⟩ := L
    go_enter Try.func78, Try.ntmps78
    go_upto_region 1 with (fail)
    have e := HW0.out
    rw [e]
    clear e
    go_wp2_with (go_at_call 73; (with_reducible refine (H72a.out W0 HH.out).mono ?_); rintro e w1 ⟨⟨b1, rfl, hbb, hWB⟩, hb1⟩; have B1 := Lib.hid hb1; obtain ⟨r0, r1, r2, r3⟩ := (HB.out.of (hb1.block _ HB.out.lt)).cells; clear hb1 hWB hbb)
    go_region_held3 (fun w' => w'.cell? ⟨w.heap.size, 0, none⟩ = some (.int .i64 s.wl) ∧ w'.cell? ⟨w.heap.size, 1, none⟩ = some (.int .i64 s.wh) ∧ w'.cell? ⟨w.heap.size, 2, none⟩ = some (.slice Ap s.ps.length cp) ∧ w'.cell? ⟨w.heap.size, 3, none⟩ = some (.slice Ab s.bs.length cb)) (first | go_keep)
      (first
        | (go_at_call 132; refine (H103.out w1.drew (ints_later HI.out (hb0to B1.out (drew_below w1)))).mono ?_; rintro e w2 ⟨rfl, hb2⟩; have B2 := Lib.hid (hb0to B1.out (hb0to (drew_below w1) hb2)); obtain ⟨r0, r1, r2, r3⟩ := (HB.out.of (B2.out.block _ HB.out.lt)).cells; clear hb2)
        | (go_at_call 73; refine (H72.out w2 (HH.out.below B2.out)).mono ?_; rintro e w3 ⟨rfl, hb3⟩; have B3 := Lib.hid (hb0to B2.out hb3); obtain ⟨r0, r1, r2, r3⟩ := (HB.out.of (B3.out.block _ HB.out.lt)).cells; clear hb3))
    all_goals
      go_wp2_with (fail)
      go_ret2
      exact ⟨rfl, hb0to HBW.out B3.out⟩
  · have H72 := Lib.hid (fun W hW => open_no L s true W hW h0)
    rw [askS_bad_same _ h0] at h ⊢
    obtain ⟨er, her⟩ : ∃ x, x = askS s true := ⟨_, rfl⟩
    rw [← her] at H72 h0 ⊢
    have hd : (er != 0) = true := bne_iff_ne.2 h0
    clear h h0 her
    obtain ⟨Ap, cp, Ab, cb⟩ := L
    go_enter Try.func78, Try.ntmps78
    go_upto_region 1 with (fail)
    have e := HW0.out
    rw [e]
    clear e
    go_wp2_with (go_at_call 73; refine (H72.out W0 HH.out).mono ?_; rintro e w1 ⟨rfl, hb1⟩; have B1 := Lib.hid hb1; clear hb1)
    go_ret2
    exact ⟨rfl, hb0to HBW.out B1.out⟩
set_option maxRecDepth 100000 in
set_option maxHeartbeats 4000000 in
theorem sailing_yes (L : SL) (s : Sea) (c : List Int) (A : Option Addr) (cv : Nat) (hcl : c.length ≤ 1000) (w : World) (hH : SeaAt w w.heap.size L s) (hI : IntsAt w w.heap.size A c) (h : askS s (crewB s c) = 0) : Calls Try.prog 78 #[L.enc s, .slice A c.length cv] w fun e w' => (∃ b, e = .returned (.tuple #[.pointer (some ⟨b, 0, none⟩), .int .i64 0]) ∧ w.heap.size ≤ b ∧ WBox w' b L s (shares s)) ∧ Below w.heap.size w w' := by
  have hbw := al_below w (.cells #[.int .i64 s.wl, .int .i64 s.wh, .slice L.Ap s.ps.length L.cp, .slice L.Ab s.bs.length L.cb] 44)
  have HB := Lib.hid (SBox.new w L s)
  obtain ⟨c0, c1, c2, c3⟩ := (SBox.new w L s).cells
  obtain ⟨W0, hW0⟩ : ∃ W0, w.alloc (.cells #[.int .i64 s.wl, .int .i64 s.wh, .slice L.Ap s.ps.length L.cp, .slice L.Ab s.bs.length L.cb] 44) = W0 := ⟨_, rfl⟩
  rw [hW0] at hbw HB c0 c1 c2 c3
  have HBW := Lib.hid hbw
  have HW0 := Lib.hid hW0
  have HH := Lib.hid (hH.below hbw)
  have HI := Lib.hid (ints_later hI hbw)
  clear hbw hW0 hH hI
  obtain ⟨hv, h2⟩ := askS_ok h
  have h0 := askS_true hv
  have hS := SOK.ofValid hv
  have H72a := Lib.hid (fun W hW => open_yes L s true W hW h0)
  have H72 := Lib.hid (fun W hW => open_yes L s (crewB s c) W hW h)
  have H103 := Lib.hid (fun W hW => isCrew_any L s hS.bl c A cv hcl hS.pl W hW)
  rw [h2] at H72 H103
  clear h h2 h0 hS hv
  obtain ⟨Ap, cp, Ab, cb⟩ := L
  go_enter Try.func78, Try.ntmps78
  go_upto_region 1 with (fail)
  have e := HW0.out
  rw [e]
  clear e
  go_wp2_with (go_at_call 73; (with_reducible refine (H72a.out W0 HH.out).mono ?_); rintro e w1 ⟨⟨b1, rfl, hbb, hWB⟩, hb1⟩; have B1 := Lib.hid hb1; obtain ⟨r0, r1, r2, r3⟩ := (HB.out.of (hb1.block _ HB.out.lt)).cells; clear hb1 hWB hbb)
  go_region_held3 (fun w' => w'.cell? ⟨w.heap.size, 0, none⟩ = some (.int .i64 s.wl) ∧ w'.cell? ⟨w.heap.size, 1, none⟩ = some (.int .i64 s.wh) ∧ w'.cell? ⟨w.heap.size, 2, none⟩ = some (.slice Ap s.ps.length cp) ∧ w'.cell? ⟨w.heap.size, 3, none⟩ = some (.slice Ab s.bs.length cb)) (first | go_keep)
    (first
      | (go_at_call 132; refine (H103.out w1.drew (ints_later HI.out (hb0to B1.out (drew_below w1)))).mono ?_; rintro e w2 ⟨rfl, hb2⟩; have B2 := Lib.hid (hb0to B1.out (hb0to (drew_below w1) hb2)); obtain ⟨r0, r1, r2, r3⟩ := (HB.out.of (B2.out.block _ HB.out.lt)).cells; clear hb2)
      | (go_at_call 73; refine (H72.out w2 (HH.out.below B2.out)).mono ?_; rintro e w3 ⟨⟨b, rfl, hbb, hWB⟩, hb3⟩; have WB := Lib.hid hWB; have HBB := Lib.hid hbb; clear hWB hbb; have B3 := Lib.hid (hb0to B2.out hb3); obtain ⟨r0, r1, r2, r3⟩ := (HB.out.of (B3.out.block _ HB.out.lt)).cells; clear hb3))
  all_goals
    go_wp2_with (fail)
    go_ret2
    exact ⟨⟨b, rfl, Nat.le_trans (Nat.le_trans HBW.out.size B2.out.size) HBB.out, WB.out⟩, hb0to HBW.out B3.out⟩
end Go.Proofs.Ytmbcpmnigggbaaa.Li
