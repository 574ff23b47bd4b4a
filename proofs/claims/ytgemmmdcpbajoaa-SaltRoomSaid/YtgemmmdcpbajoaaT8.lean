import Derived.Test.YtgemmmdcpbajoaaE2
import Derived.Test.YtgemmmdcpbajoaaT7
namespace Go.Proofs.Ytgemmmdcpbajoaa
open Go.RowKit
attribute [local go_sem] Oper.semAt_some

/-- some's own memory: its house, the question, what was seen, the error. -/
structure SmSt (W : World) (s : Nat) (L : HL) (h : House) (gv : Value) (seen : List Int) (e : Int) : Prop where
  b0 : HBox W s L h
  b1 : Boxed W (s + 1) 99 gv
  b2 : PackAt W (s + 1 + 1) seen
  b3 : Boxed W (s + 1 + 1 + 1) 24 (.slice (some ⟨s + 1 + 1, 0, none⟩) h.bs.length h.bs.length)
  b4 : Boxed W (s + 1 + 1 + 1 + 1) 30 (.int .i64 e)
section
variable {W W' : World} {s : Nat} {L : HL} {h : House} {gv : Value} {seen : List Int} {e : Int}
theorem SmSt.kp (H : SmSt W s L h gv seen e) {S : Nat → Prop} {n : Nat} (hk : KpB S n W W') (hn : s + 5 ≤ n) (hS : ∀ k, S k → k < s ∨ s + 5 ≤ k) : SmSt W' s L h gv seen e := by
  have g : ∀ k, s ≤ k → k < s + 5 → W'.heap[k]? = W.heap[k]? := fun k h1 h2 => hk.block k (by omega) (fun h => by have := hS k h; omega)
  exact ⟨H.b0.of (g _ (by omega) (by omega)), (g _ (by omega) (by omega)).trans H.b1, (g _ (by omega) (by omega)).trans H.b2, (g _ (by omega) (by omega)).trans H.b3, (g _ (by omega) (by omega)).trans H.b4⟩
theorem SmSt.lt (H : SmSt W s L h gv seen e) : s + 5 ≤ W.heap.size := by have := H.b4.lt; omega
theorem SmSt.below (H : SmSt W s L h gv seen e) (hb : Below W.heap.size W W') : SmSt W' s L h gv seen e := H.kp (kpB_of_below hb (S := fun _ => False)) H.lt (fun _ h => h.elim)
theorem SmSt.setE (H : SmSt W s L h gv seen e) (e' : Int) : SmSt (W.setCell ⟨s + 1 + 1 + 1 + 1, 0, none⟩ (.int .i64 e')) s L h gv seen e' :=
  ⟨hbox_other H.b0 (by omega), boxed_other H.b1 (by omega), packAt_other H.b2 (by omega), boxed_other H.b3 (by omega), H.b4.set _⟩
theorem SmSt.setB (H : SmSt W s L h gv seen e) (i : Nat) (x : Int) : SmSt (W.setCell ⟨s + 1 + 1, i, none⟩ (.int .i64 x)) s L h gv (seen.set i x) e :=
  ⟨hbox_other H.b0 (by omega), boxed_other H.b1 (by omega), H.b2.set i x, boxed_other H.b3 (by omega), boxed_other H.b4 (by omega)⟩
theorem SmSt.drew (H : SmSt W s L h gv seen e) : SmSt W.drew s L h gv seen e := ⟨H.b0, H.b1, H.b2, H.b3, H.b4⟩
theorem SmSt.new (w : World) (L : HL) (h : House) (gv : Value) : SmSt (((((w.alloc (.cells #[.slice L.Ak h.ks.length L.ck, .int .i64 h.fl, .slice L.Ap h.ps.length L.cp, .slice L.Ab h.bs.length L.cb] 26)).alloc (.cells #[gv] 99)).alloc (.cells (List.replicate h.bs.length (Value.int .i64 0)).toArray 3)).alloc (.cells #[.slice (some ⟨w.heap.size + 1 + 1, 0, none⟩) h.bs.length h.bs.length] 24)).alloc (.cells #[.int .i64 3] 30)) w.heap.size L h gv (List.replicate h.bs.length 0) 3 := by
  have c0 := HBox.new w L h
  have c1 := Boxed.new (w.alloc (.cells #[.slice L.Ak h.ks.length L.ck, .int .i64 h.fl, .slice L.Ap h.ps.length L.cp, .slice L.Ab h.bs.length L.cb] 26)) 99 gv
  have c2 := packAt_zero ((w.alloc (.cells #[.slice L.Ak h.ks.length L.ck, .int .i64 h.fl, .slice L.Ap h.ps.length L.cp, .slice L.Ab h.bs.length L.cb] 26)).alloc (.cells #[gv] 99)) h.bs.length
  have c3 := Boxed.new (((w.alloc (.cells #[.slice L.Ak h.ks.length L.ck, .int .i64 h.fl, .slice L.Ap h.ps.length L.cp, .slice L.Ab h.bs.length L.cb] 26)).alloc (.cells #[gv] 99)).alloc (.cells (List.replicate h.bs.length (Value.int .i64 0)).toArray 3)) 24 (.slice (some ⟨w.heap.size + 1 + 1, 0, none⟩) h.bs.length h.bs.length)
  have c4 := Boxed.new ((((w.alloc (.cells #[.slice L.Ak h.ks.length L.ck, .int .i64 h.fl, .slice L.Ap h.ps.length L.cp, .slice L.Ab h.bs.length L.cb] 26)).alloc (.cells #[gv] 99)).alloc (.cells (List.replicate h.bs.length (Value.int .i64 0)).toArray 3)).alloc (.cells #[.slice (some ⟨w.heap.size + 1 + 1, 0, none⟩) h.bs.length h.bs.length] 24)) 30 (.int .i64 3)
  simp only [World.size_alloc] at c1 c2 c3 c4
  refine ⟨?_, ((c1.alloc _).alloc _).alloc _, ?_, c3.alloc _, c4⟩
  · exact (((c0.of (Below.heap_alloc _ _ _ (by simp))).of (Below.heap_alloc _ _ _ (by simp; omega))).of (Below.heap_alloc _ _ _ (by simp; omega))).of (Below.heap_alloc _ _ _ (by simp; omega))
  · exact (c2.below ((Below.refl _ _).alloc (Nat.le_refl _) _)).below ((Below.refl _ _).alloc (Nat.le_refl _) _)
end

/-- What was seen behind some packings; and of one more, up to the barrel k. -/
def seenTo (P : Nat → List Int → Bool) (nb : Nat) (pre : List (List Int)) (x : List Int) (k : Nat) : List Int := (List.range nb).map fun b => if pre.any (P b) || (decide (b < k) && P b x) then 1 else 0
def seenS (P : Nat → List Int → Bool) (nb : Nat) (pre : List (List Int)) : List Int := (List.range nb).map fun b => if pre.any (P b) then 1 else 0
theorem seenS_nil (P : Nat → List Int → Bool) (nb : Nat) : seenS P nb [] = List.replicate nb 0 := by
  simp [seenS, List.map_const']
theorem seenTo_zero (P : Nat → List Int → Bool) (nb : Nat) (pre : List (List Int)) (x : List Int) : seenTo P nb pre x 0 = seenS P nb pre := by simp [seenTo, seenS]
theorem seenTo_all (P : Nat → List Int → Bool) (nb : Nat) (pre : List (List Int)) (x : List Int) : seenTo P nb pre x nb = seenS P nb (pre ++ [x]) := by
  unfold seenTo seenS
  apply List.map_congr_left
  intro b hb
  have := List.mem_range.1 hb
  simp [this]
theorem seenTo_len (P : Nat → List Int → Bool) (nb : Nat) (pre : List (List Int)) (x : List Int) (k : Nat) : (seenTo P nb pre x k).length = nb := by simp [seenTo]
theorem seenS_len (P : Nat → List Int → Bool) (nb : Nat) (pre : List (List Int)) : (seenS P nb pre).length = nb := by simp [seenS]
theorem seenTo_at (P : Nat → List Int → Bool) {nb : Nat} (pre : List (List Int)) (x : List Int) {k b : Nat} (hb : b < nb) : (seenTo P nb pre x k)[b]? = some (if pre.any (P b) || (decide (b < k) && P b x) then 1 else 0) := by
  unfold seenTo; rw [List.getElem?_map, List.getElem?_range hb]; rfl
theorem seenTo_yes {P : Nat → List Int → Bool} {nb : Nat} {pre : List (List Int)} {x : List Int} {k : Nat} (hk : k < nb) (hp : P k x = true) : (seenTo P nb pre x k).set k 1 = seenTo P nb pre x (k + 1) := by
  apply List.ext_getElem?
  intro i
  by_cases hi : i < nb
  · rw [List.getElem?_set, seenTo_at P pre x hi, seenTo_at P pre x hi]
    by_cases e : k = i
    · subst e
      rw [if_pos rfl, seenTo_len, if_pos hk]
      simp [hp]
    · rw [if_neg e]
      have : decide (i < k) = decide (i < k + 1) := by rw [Bool.eq_iff_iff]; simp; omega
      rw [this]
  · rw [List.getElem?_eq_none (by rw [List.length_set, seenTo_len]; omega), List.getElem?_eq_none (by rw [seenTo_len]; omega)]
theorem seenTo_no {P : Nat → List Int → Bool} {nb : Nat} {pre : List (List Int)} {x : List Int} {k : Nat} (hp : P k x = false) : seenTo P nb pre x k = seenTo P nb pre x (k + 1) := by
  unfold seenTo
  apply List.map_congr_left
  intro b hb
  by_cases e : b = k
  · subst e; simp [hp]
  · have : decide (b < k) = decide (b < k + 1) := by rw [Bool.eq_iff_iff]; simp; omega
    rw [this]
theorem seenS_at (P : Nat → List Int → Bool) {nb k : Nat} (pre : List (List Int)) (hk : k < nb) : (seenS P nb pre)[k]? = some (if pre.any (P k) then 1 else 0) := by
  unfold seenS; rw [List.getElem?_map, List.getElem?_range hk]; rfl
/-- The barrels of which it was so, up to k; and all. -/
def someTo (P : Nat → List Int → Bool) (l : List (List Int)) (k : Nat) : List Int := ((List.range k).filter fun b => l.any (P b)).map fun b : Nat => (b : Int)
theorem someTo_yes {P : Nat → List Int → Bool} {l : List (List Int)} {k : Nat} (h : l.any (P k) = true) : someTo P l (k + 1) = someTo P l k ++ [(k : Int)] := by
  simp [someTo, List.range_succ, List.filter_append, h]
theorem someTo_no {P : Nat → List Int → Bool} {l : List (List Int)} {k : Nat} (h : l.any (P k) = false) : someTo P l (k + 1) = someTo P l k := by
  simp [someTo, List.range_succ, List.filter_append, h]
theorem someTo_len (P : Nat → List Int → Bool) (l : List (List Int)) (k : Nat) : (someTo P l k).length ≤ k := by
  unfold someTo
  rw [List.length_map]
  have := List.length_filter_le (fun b => l.any (P b)) (List.range k)
  simpa using this
def errL (l : List (List Int)) : Int := if l.isEmpty then 3 else 0
def SomeRet (h : House) (P : Nat → List Int → Bool) (B : Nat) (w' : World) (e : Ending) : Prop :=
  ∃ v, e = .returned (.tuple #[v, .int .i64 (errL (packsL h))]) ∧ Ints w' B v (someTo P (packsL h) h.bs.length)
theorem Ints.putDrew {W : World} {base k : Nat} {v : Value} {l : List Int} {o : Obj} (h : Ints W base v l) (hk : k < base) : Ints (W.drew.putObj k o) base v l := by
  refine ⟨h.1, ?_⟩
  rcases h.2 with h2 | ⟨g, cap, cur, e, hb2, hg, h4⟩
  · exact .inl h2
  · exact .inr ⟨g, cap, cur, e, hb2, (World.putObj_heap_other (by omega)).trans hg, h4⟩
set_option maxRecDepth 100000 in
set_option maxHeartbeats 4000000 in
theorem some_any (gf : Nat) (lb : Array Value) (eg : ∀ args w, (callFunc gf args).run Try.prog w = .ok (.enter gf args) w) (P : Nat → List Int → Bool) (L : HL) (h : House) (hv : HOK h) (w : World) (hH : HouseAt w w.heap.size L h)
    (hof : ∀ (b : Nat) x pb W, b < h.bs.length → x ∈ packsL h → Below w.heap.size w W → PackAt W pb x → Calls Try.prog gf (#[.int .i64 b, .slice (some ⟨pb, 0, none⟩) x.length x.length, encCs (packedC h x)] ++ lb) W fun e w' => e = .returned (.bool (P b x)) ∧ Below W.heap.size W w') :
    Calls Try.prog 92 #[L.enc h, .func (.func gf) #[] lb] w fun e w' => SomeRet h P w.heap.size w' e ∧ Below w.heap.size w w' := by
  have hst := SmSt.new w L h (.func (.func gf) #[] lb)
  have hbw := below5 w (.cells #[.slice L.Ak h.ks.length L.ck, .int .i64 h.fl, .slice L.Ap h.ps.length L.cp, .slice L.Ab h.bs.length L.cb] 26) (.cells #[.func (.func gf) #[] lb] 99) (.cells (List.replicate h.bs.length (Value.int .i64 0)).toArray 3) (.cells #[.slice (some ⟨w.heap.size + 1 + 1, 0, none⟩) h.bs.length h.bs.length] 24) (.cells #[.int .i64 3] 30)
  simp only [List.toArray_replicate] at hst hbw
  have HBW := Lib.hid hbw
  have hbl := hv.bl
  have HV := Lib.hid hv
  have HOF := Lib.hid hof
  have HH := Lib.hid hH
  have HST := Lib.hid hst
  clear hbw hst hv hof hH
  refine (callsIn_wide (n := 10)).1 ?_
  refine callsIn_of_wp_marks Try.func92 rfl trivial ?_ rfl
  simp only [Try.ntmps92, List.size_toArray, List.length_cons, List.length_nil, Nat.reduceAdd, Nat.reduceSub, Array.replicate_succ, Array.replicate_zero, List.push_toArray, List.append_toArray, List.nil_append, List.cons_append]
  gi_wp2_with (first
    | (refine wplIn_make24 rfl (.tmp 16) rfl h.bs.length rfl (by omega) ?_)
    | (refine ⟨trivial, ?_⟩; gi_at_call 73; refine (callsIn_wide.2 (packings_any L h _)).mono ?_; rintro e w2 ⟨rfl, rfl⟩))
  have hst2 := HST.out.below ((Below.refl _ _).alloc (Nat.le_refl _) (.cells #[.slice L.Ak h.ks.length L.ck, .int .i64 h.fl, .slice L.Ap h.ps.length L.cp, .slice L.Ab h.bs.length L.cb] 26))
  have hX1 := HBox.new (((((w.alloc (.cells #[.slice L.Ak h.ks.length L.ck, .int .i64 h.fl, .slice L.Ap h.ps.length L.cp, .slice L.Ab h.bs.length L.cb] 26)).alloc (.cells #[.func (.func gf) #[] lb] 99)).alloc (.cells (Array.replicate h.bs.length (Value.int .i64 0)) 3)).alloc (.cells #[.slice (some ⟨w.heap.size + 1 + 1, 0, none⟩) h.bs.length h.bs.length] 24)).alloc (.cells #[.int .i64 3] 30)) L h
  have hbW := HBW.out.trans (((Below.refl _ _).alloc (Nat.le_refl _) (.cells #[.slice L.Ak h.ks.length L.ck, .int .i64 h.fl, .slice L.Ap h.ps.length L.cp, .slice L.Ab h.bs.length L.cb] 26)).mono HBW.out.size)
  obtain ⟨W1, hW1⟩ : ∃ W1, (((((w.alloc (.cells #[.slice L.Ak h.ks.length L.ck, .int .i64 h.fl, .slice L.Ap h.ps.length L.cp, .slice L.Ab h.bs.length L.cb] 26)).alloc (.cells #[.func (.func gf) #[] lb] 99)).alloc (.cells (Array.replicate h.bs.length (Value.int .i64 0)) 3)).alloc (.cells #[.slice (some ⟨w.heap.size + 1 + 1, 0, none⟩) h.bs.length h.bs.length] 24)).alloc (.cells #[.int .i64 3] 30)).alloc (.cells #[.slice L.Ak h.ks.length L.ck, .int .i64 h.fl, .slice L.Ap h.ps.length L.cp, .slice L.Ab h.bs.length L.cb] 26) = W1 := ⟨_, rfl⟩
  simp only [World.size_alloc] at hX1
  rw [hW1] at hst2 hX1 hbW ⊢
  clear hW1 HST
  have hl1 := hst2.lt
  have hxl := hX1.lt
  refine wpIn_rangeFunc_sees (S := fun k => k = w.heap.size + 1 + 1 ∨ k = w.heap.size + 1 + 1 + 1 + 1) (Sees := SeesP h) (fb := #[]) (lb := #[.pointer (some ⟨w.heap.size + 1 + 1 + 1 + 1 + 1, 0, none⟩)]) (xs := packsL h) (w0 := W1) rfl (by omega) rfl trivial (fun _ _ => rfl)
    (packs_sees 9 (by omega) L h HV.out w.heap.size (w.heap.size + 1 + 1 + 1 + 1 + 1) W1 (by omega) ((HH.out.below hbW).keep2 hbW HH.out) hX1 _ (fun k hk => by omega) (by omega)) (Below.refl _ _) (fun k hk => by omega)
    (fun B x args X hs => by obtain ⟨pb, -, rfl, -⟩ := hs; rfl) (fun B x args X Y _ hs hk => hs.kept hk)
    (fun D pre X => Below w.heap.size w X ∧ SmSt X w.heap.size L h (.func (.func gf) #[] lb) (seenS P h.bs.length pre) (errL pre))
    (fun c D pre X => False)
    ?hI ?hIx ?h0 (fun x args a' X => ∃ b4, W1.heap.size + 2 ≤ b4 ∧ CasksAt X b4 (packedC h x) ∧ a' = { tmps := #[L.enc h, .func (.func gf) #[] lb, .pointer (some ⟨w.heap.size, 0, none⟩), .pointer (some ⟨w.heap.size + 1, 0, none⟩), .slice none 0 0, .int .i64 0, .pointer (some ⟨w.heap.size + 1 + 1 + 1, 0, none⟩), .pointer (some ⟨w.heap.size + 1 + 1 + 1 + 1, 0, none⟩), args.getD 0 undef, .pointer (some ⟨b4, 0, none⟩), undef, undef, undef,
      undef, .pointer (some ⟨w.heap.size, 3, none⟩), .slice L.Ab h.bs.length L.cb, .int .i64 h.bs.length, .slice (some ⟨w.heap.size + 1 + 1, 0, none⟩) h.bs.length h.bs.length, L.enc h, .func (.func 96) #[] #[.pointer (some ⟨w.heap.size + 1 + 1 + 1 + 1 + 1, 0, none⟩)], args.getD 0 undef, args.getD 1 undef, undef, undef, undef, undef, undef, undef, undef, undef, undef, undef, undef, undef, undef, undef, undef, undef, undef, undef, undef, undef, undef, undef, undef, undef, undef, undef, undef, undef, undef, undef], defers := [] }) ?hAx ?hassign ?hbody ?hdone ?hstop
  case hI =>
    rintro D s X Y hD hX ⟨hb, h1⟩ hk
    exact ⟨hb.trans (hk.belowOf (by have := hb.size; omega) (fun k hs => by have := hs.1; omega)), h1.kp hk (by omega) (fun k hs => .inr (by have := hs.1; omega))⟩
  case hIx => exact fun _ _ _ _ _ _ _ h _ => h.elim
  case h0 =>
    intro D X hD hX hb
    have := hst2.below hb
    rw [← seenS_nil P] at this
    exact ⟨hbW.trans (hb.mono (by omega)), this⟩
  case hAx =>
    rintro x args a' X Y hz ⟨b4, h1, h2, h3⟩ hk
    exact ⟨b4, h1, (hk.block _ (Array.getElem?_eq_some_iff.1 h2).1 (fun hs => by have hs' : b4 < W1.heap.size + 2 := hs; omega)).trans h2, h3⟩
  case hassign =>
    intro l' x args X K hz hs hK
    obtain ⟨pb, -, rfl, -⟩ := hs
    have hK' := hK _ (X.alloc (.cells (flatC (packedC h x)).toArray 81)) (.inr ⟨_, rfl⟩) ⟨X.heap.size, by omega, World.alloc_heap_new X _, rfl⟩
    clear hK
    simp only [List.zip_toArray, List.zip_cons_cons, List.zip_nil_right, List.foldl_toArray, List.foldl_cons, List.foldl_nil, List.setIfInBounds_toArray, List.set_cons_succ, List.set_cons_zero]
    have hl5 : (packedC h x).length = 5 := casksTo_len _ _ _
    gi_wp2_with (refine wplIn_store81 rfl (.tmp 9) (.tmp 21) rfl rfl (packedC h x) hl5 rfl ?_)
    exact hK'
  case hbody =>
    rintro l' D pre x args a' X hD hX hpre ⟨hbX, hs⟩ hsee ⟨b4, hb4, hC4, rfl⟩
    obtain ⟨pb, hpb, rfl, hpk⟩ := hsee
    have hxm : x ∈ packsL h := hpre.subset (List.mem_append_right _ (List.mem_singleton.2 rfl))
    have HXM := Lib.hid hxm
    have hl5 : (packedC h x).length = 5 := casksTo_len _ _ _
    have hee : errL (pre ++ [x]) = 0 := by simp [errL]
    have HEE := Lib.hid hee
    have hc4 := hs.b4.cell
    have hf4 := hs.b4.frozen
    have hc3 := hs.b3.cell
    have hl4 := hs.b4.lt
    have hl3 := hs.b3.lt
    clear hxm hee
    gi_wp2
    have hs1 := hs.setE 0
    have hk1 : KpB (fun k => k = w.heap.size + 1 + 1 ∨ k = w.heap.size + 1 + 1 + 1 + 1) D X (X.setCell ⟨w.heap.size + 1 + 1 + 1 + 1, 0, none⟩ (.int .i64 0)) := (KpB.refl _ _ _).set _ _ (.inl (.inr rfl))
    have hC1 : CasksAt (X.setCell ⟨w.heap.size + 1 + 1 + 1 + 1, 0, none⟩ (.int .i64 0)) b4 (packedC h x) := (((KpB.refl (fun k => k = w.heap.size + 1 + 1 + 1 + 1) X.heap.size X).set 0 (.int .i64 0) (.inl rfl)).block b4 (Array.getElem?_eq_some_iff.1 hC4).1 (by omega)).trans hC4
    have hp1 : PackAt (X.setCell ⟨w.heap.size + 1 + 1 + 1 + 1, 0, none⟩ (.int .i64 0)) pb x := packAt_other hpk (by omega)
    obtain ⟨X1, hX1⟩ : ∃ X1, X.setCell ⟨w.heap.size + 1 + 1 + 1 + 1, 0, none⟩ (.int .i64 0) = X1 := ⟨_, rfl⟩
    rw [hX1] at hs1 hk1 hC1 hp1 ⊢
    clear hX1 hs hpk hC4 hc4 hf4 hc3 hl4 hl3
    rw [← seenTo_zero P h.bs.length pre x] at hs1
    gi_loopw [10, 24] (fun _ i wr => ∃ k : Nat, k ≤ h.bs.length ∧ i = .int .i64 k ∧ SmSt wr w.heap.size L h (.func (.func gf) #[] lb) (seenTo P h.bs.length pre x k) 0 ∧ KpB (fun k => k = w.heap.size + 1 + 1 ∨ k = w.heap.size + 1 + 1 + 1 + 1) D X wr ∧ CasksAt wr b4 (packedC h x) ∧ PackAt wr pb x) (fun _ i _ => h.bs.length - (intOf i).toNat)
    case atStart => exact ⟨0, Nat.zero_le _, rfl, hs1, hk1, hC1, hp1⟩
    case round =>
      clear hs1 hk1 hC1 hp1
      obtain ⟨k, hk, rfl, hs1, hk1, hC1, hp1⟩ := hrel
      have hb1 : Below w.heap.size w wr := hbX.trans (hk1.belowOf (by omega) (fun k hs => by omega))
      have hz1 := hk1.size
      have hz2 := hs1.lt
      by_cases hlt : k < h.bs.length
      · have hcall := HOF.out k x pb wr hlt HXM.out hb1 hp1
        have HCALL := Lib.hid hcall
        have hcg := hs1.b1.cell
        have hcs := hs1.b3.cell
        have hclt : w.heap.size + 1 + 1 < wr.heap.size := by omega
        clear hcall
        cases hP : P k x
        · have HPX := Lib.hid hP
          rw [hP] at HCALL
          clear hP
          gi_wp2_with (first
            | (refine wplIn_load81 rfl (.tmp 9) rfl b4 rfl (packedC h x) hl5 hC1 ?_)
            | (refine ⟨trivial, ?_⟩; refine (CallsIn.mono (CallsIn.inRound l' (callsIn_wide.2 HCALL.out)) ?_); rintro e W5 ⟨rfl, hb5⟩))
          go_roundw
          case rel =>
            refine ⟨k + 1, by omega, by go_num, ?_, hk1.trans (kpB_of_below (hb5.mono (by omega))), (hb5.block _ (Array.getElem?_eq_some_iff.1 hC1).1).trans hC1, hp1.below hb5⟩
            rw [← seenTo_no HPX.out]
            exact hs1.below hb5
          case measure => simp [intOf]; omega
        · have HPX := Lib.hid hP
          rw [hP] at HCALL
          clear hP
          have hset : (seenTo P h.bs.length pre x k).length = h.bs.length := seenTo_len _ _ _ _ _
          have HSET := Lib.hid hset
          clear hset
          gi_wp2_with (first
            | (refine wplIn_load81 rfl (.tmp 9) rfl b4 rfl (packedC h x) hl5 hC1 ?_)
            | (refine ⟨trivial, ?_⟩; refine (CallsIn.mono (CallsIn.inRound l' (callsIn_wide.2 HCALL.out)) ?_); rintro e W5 ⟨rfl, hb5⟩; have hs5 := hs1.below hb5; have hc5 := hs5.b3.cell; have hf5 := hs5.b2.frozen; obtain ⟨v5, hv5⟩ : ∃ v, W5.cell? ⟨w.heap.size + 1 + 1, k, none⟩ = some v := ⟨_, hs5.b2.cell (seenTo_at P pre x hlt)⟩; have hlt5 := hs5.b2.lt))
          go_roundw
          case rel =>
            refine ⟨k + 1, by omega, by go_num, ?_, (hk1.trans (kpB_of_below (hb5.mono (by omega)))).set _ _ (.inl (.inl rfl)), ?_, packAt_other (hp1.below hb5) (by omega)⟩
            · rw [← seenTo_yes hlt HPX.out]
              exact hs5.setB k 1
            · have hC5 : CasksAt W5 b4 (packedC h x) := (hb5.block _ (Array.getElem?_eq_some_iff.1 hC1).1).trans hC1
              exact (((KpB.refl (fun k => k = w.heap.size + 1 + 1) W5.heap.size W5).set k (.int .i64 1) (.inl rfl)).block b4 (Array.getElem?_eq_some_iff.1 hC5).1 (by omega)).trans hC5
          case measure => simp [intOf]; omega
      · obtain rfl : k = h.bs.length := by omega
        gi_wp2
        refine ⟨hk1, hb1, ?_⟩
        show SmSt wr w.heap.size L h _ (seenS P h.bs.length (pre ++ [x])) (errL (pre ++ [x]))
        rw [HEE.out, ← seenTo_all]
        exact hs1
  case hdone =>
    rintro D X hD hX ⟨hbX, hs⟩ hk
    have HK := Lib.hid hk
    clear hk
    have hc3 := hs.b3.cell
    have hc4 := hs.b4.cell
    have hl5 := hs.lt
    have hseen : (seenS P h.bs.length (packsL h)).length = h.bs.length := seenS_len _ _ _
    gi_wp2
    refine wpIn_wide.2 ?_
    go_loopw [11, 38] (fun v i wr => ∃ k : Nat, k ≤ h.bs.length ∧ i = .int .i64 k ∧ Ints wr X.heap.size v (someTo P (packsL h) k) ∧ Below X.heap.size X wr) (fun _ i _ => h.bs.length - (intOf i).toNat)
    case atStart => exact ⟨0, Nat.zero_le _, rfl, ints_nil _ _, Below.refl _ _⟩
    case round =>
      obtain ⟨k, hk, rfl, hown, hb⟩ := hrel
      have hsw := hs.below hb
      have hzz := hb.size
      by_cases hlt : k < h.bs.length
      · cases ha : (packsL h).any (P k)
        · have hx : (seenS P h.bs.length (packsL h))[k]? = some 0 := by rw [seenS_at P _ hlt, ha]; rfl
          have hcx := hsw.b2.cell hx
          have HA := Lib.hid ha
          clear ha hx hsw
          go_wp2
          go_roundw
          case rel => exact ⟨k + 1, by omega, by go_num, by rw [someTo_no HA.out]; exact hown, hb⟩
          case measure => simp [intOf]; omega
        · have hx : (seenS P h.bs.length (packsL h))[k]? = some 1 := by rw [seenS_at P _ hlt, ha]; rfl
          have hcx := hsw.b2.cell hx
          have HA := Lib.hid ha
          have hsl := someTo_len P (packsL h) k
          clear ha hx hsw
          go_wp2_with (refine wpl_app rfl (.tmp 45) (.tmp 47) rfl X.heap.size X.heap.size _ (someTo P (packsL h) k) k rfl (hown.alloc _) ⟨wr.heap.size, 0, none⟩ 1 rfl (by simp [go_sem]) (by omega) (by simp; omega) (Nat.le_refl _) ?_; intro v' w' hown' hb')
          go_roundw
          case rel => exact ⟨k + 1, by omega, by go_num, by rw [someTo_yes HA.out]; exact hown', hb.trans (((Below.refl _ _).alloc hzz _).trans hb')⟩
          case measure => simp [intOf]; omega
      · obtain rfl : k = h.bs.length := by omega
        have hc4 := hsw.b4.cell
        go_wp2
        gi_wp2
        refine wpIn_wide.2 ?_
        go_region
        gi_wp2
        refine ⟨by simp, .inl ⟨_, _, rfl, run_takeDeferred ((hb.block _ (by omega)).trans HK.out), ?_⟩⟩
        refine ⟨.tuple #[u11, .int .i64 (errL (packsL h))], by simp [results, Try.results92, go_sem], ?_, ?_⟩
        · refine ⟨_, rfl, (hown.putDrew (by omega)).mono hbX.size⟩
        · exact (hbX.trans (hb.mono hbX.size)).drew.trans (KpB.belowOf (S := fun k => k = W1.heap.size) ((KpB.refl _ _ _).put _ _ (.inl rfl)) (by have := hb.size; have := hbX.size; simp; omega) (fun k hk => by omega))
  case hstop => exact fun _ _ _ _ _ _ _ h => h.elim

set_option maxRecDepth 100000 in
theorem where1_any (part : Nat) (b : Nat) (x : List Int) (pb : Nat) (h : House) (q : Nat) (hx : part < x.length) (_hx6 : x.length ≤ 1000) (w : World) (hP : PackAt w pb x) (hq : w.cell? ⟨q, 0, none⟩ = some (.int .i64 part)) :
    Calls Try.prog 93 #[.int .i64 b, .slice (some ⟨pb, 0, none⟩) x.length x.length, encCs (packedC h x), .pointer (some ⟨q, 0, none⟩)] w fun e w' => e = .returned (.bool (decide (x.getD part (-1) = (b : Int)))) ∧ Below w.heap.size w w' := by
  have hg : x[part]? = some (x.getD part (-1)) := by simp [List.getD, List.getElem?_eq_getElem hx]
  have hc := hP.cell hg
  have h1 := cell_lt hc
  have h2 := cell_lt hq
  obtain ⟨fc, hfc⟩ : ∃ fc, fc = flatC (packedC h x) := ⟨_, rfl⟩
  have henc : encCs (packedC h x) = .agg fc.toArray := by rw [hfc]; rfl
  rw [henc]
  clear hfc henc hP hg
  obtain ⟨y, hy⟩ : ∃ y, y = x.getD part (-1) := ⟨_, rfl⟩
  rw [← hy] at hc ⊢
  clear hy
  by_cases e : y = (b : Int)
  · have hd : (y == (b : Int)) = true := by simpa using e
    have hd2 : decide (y = (b : Int)) = true := by simpa using e
    have HD := Lib.hid hd2
    clear e hd2
    go_enter Try.func93, Try.ntmps93
    go_wp2
    go_ret
    exact ⟨by rw [HD.out]; rfl, (Below.refl _ _).alloc (Nat.le_refl _) _⟩
  · have hd : (y == (b : Int)) = false := by simpa using e
    have hd2 : decide (y = (b : Int)) = false := by simpa using e
    have HD := Lib.hid hd2
    clear e hd2
    go_enter Try.func93, Try.ntmps93
    go_wp2
    go_ret
    exact ⟨by rw [HD.out]; rfl, (Below.refl _ _).alloc (Nat.le_refl _) _⟩
set_option maxRecDepth 100000 in
theorem spare1_any (b : Nat) (hb5 : b < 5) (x : List Int) (pb : Nat) (h : House) (n c : Nat) (w : World) :
    Calls Try.prog 94 #[.int .i64 b, .slice (some ⟨pb, 0, none⟩) n c, encCs (packedC h x)] w fun e w' => e = .returned (.bool (decide ((caskOf (packedC h x) b).n = 0))) ∧ Below w.heap.size w w' := by
  have hl5 := packedC_len h x
  have hC : CasksAt (w.alloc (.cells (flatC (packedC h x)).toArray 81)) w.heap.size (packedC h x) := World.alloc_heap_new w _
  have hc := (hC.at_ (at_caskOf (by rw [hl5]; exact hb5))).n
  obtain ⟨fc, hfc⟩ : ∃ fc, fc = flatC (packedC h x) := ⟨_, rfl⟩
  have henc : encCs (packedC h x) = .agg fc.toArray := by rw [hfc]; rfl
  rw [henc]
  rw [← hfc] at hc
  clear hfc henc hC hl5
  obtain ⟨y, hy⟩ : ∃ y, y = (caskOf (packedC h x) b).n := ⟨_, rfl⟩
  rw [← hy] at hc ⊢
  clear hy
  by_cases e : y = 0
  · have hd : (y == 0) = true := by simpa using e
    have hd2 : decide (y = 0) = true := by simpa using e
    have HD := Lib.hid hd2
    clear e hd2
    go_enter Try.func94, Try.ntmps94
    go_wp2
    go_ret
    exact ⟨by rw [HD.out]; rfl, (Below.refl _ _).alloc (Nat.le_refl _) _⟩
  · have hd : (y == 0) = false := by simpa using e
    have hd2 : decide (y = 0) = false := by simpa using e
    have HD := Lib.hid hd2
    clear e hd2
    go_enter Try.func94, Try.ntmps94
    go_wp2
    go_ret
    exact ⟨by rw [HD.out]; rfl, (Below.refl _ _).alloc (Nat.le_refl _) _⟩
/-- What Where, and Spare, return. -/
def whereRet (h : House) (part : Int) : List Int × Int :=
  if validH h = false then ([], 80) else if inR part 0 (h.ps.length - 1) = false then ([], 1) else (someTo (fun b x => decide (x.getD part.toNat (-1) = (b : Int))) (packsL h) h.bs.length, errL (packsL h))
def spareRet (h : House) : List Int × Int :=
  if validH h = false then ([], 80) else (someTo (fun b x => decide ((caskOf (packedC h x) b).n = 0)) (packsL h) h.bs.length, errL (packsL h))
def ListRet (r : List Int × Int) (B : Nat) (w' : World) (e : Ending) : Prop := ∃ v, e = .returned (.tuple #[v, .int .i64 r.2]) ∧ Ints w' B v r.1
set_option maxRecDepth 100000 in
set_option maxHeartbeats 4000000 in
theorem where_any (L : HL) (h : House) (hn : h.ks.length ≤ 1000 ∧ h.ps.length ≤ 1000 ∧ h.bs.length ≤ 1000) (part : Int) (w : World) (hH : HouseAt w w.heap.size L h) :
    Calls Try.prog 53 #[L.enc h, .int .i64 part] w fun e w' => ListRet (whereRet h part) w.heap.size w' e ∧ Below w.heap.size w w' := by
  have hbw := ((Below.refl _ _).alloc (Nat.le_refl w.heap.size) (.cells #[.slice L.Ak h.ks.length L.ck, .int .i64 h.fl, .slice L.Ap h.ps.length L.cp, .slice L.Ab h.bs.length L.cb] 26)).alloc (by simp) (.cells #[.int .i64 part] 3)
  have HC := Lib.hid (check_any L h hn _ (hH.below hbw))
  have HB := Lib.hid ((HBox.new w L h).of (Below.heap_alloc _ (.cells #[.int .i64 part] 3) _ (by simp)))
  have hD := Boxed.new (w.alloc (.cells #[.slice L.Ak h.ks.length L.ck, .int .i64 h.fl, .slice L.Ap h.ps.length L.cp, .slice L.Ab h.bs.length L.cb] 26)) 3 (.int .i64 part)
  simp only [World.size_alloc] at hD
  have HD := Lib.hid hD
  have HBW := Lib.hid hbw
  have HH := Lib.hid hH
  clear hbw hH hD
  cases hv : validH h
  · have hk : ckH h = 80 := ckH_no hv
    have HV := Lib.hid hv
    clear hv
    go_enter Try.func53, Try.ntmps53
    go_wp2_with (go_at_call 28; refine HC.out.mono ?_; rintro e w1 ⟨rfl, hb1⟩)
    go_ret2
    exact ⟨⟨.slice none 0 0, by rw [whereRet, if_pos HV.out]; rfl, by rw [whereRet, if_pos HV.out]; exact ints_nil _ _⟩, hb0to HBW.out hb1⟩
  · have hk : ckH h = 0 := ckH_yes hv
    have HV := Lib.hid (HOK.ofValid hv)
    have HV' := Lib.hid hv
    clear hv
    cases hr : inR part 0 (h.ps.length - 1)
    · go_enter Try.func53, Try.ntmps53
      go_wp2_with (first
        | (go_at_call 28; refine HC.out.mono ?_; rintro e w1 ⟨rfl, hb1⟩; obtain ⟨g0, g1, g2, g3⟩ := (HB.out.of (hb1.block _ HB.out.lt)).cells; have g4 := below_cell hb1 HD.out.cell)
        | (go_at_call 75; refine (isPart_any L h _ _ hn.2.1).mono ?_; rintro e w2 ⟨rfl, hb2⟩))
      go_ret2
      exact ⟨⟨.slice none 0 0, by rw [whereRet, if_neg (by rw [HV'.out]; decide), if_pos hr]; rfl, by rw [whereRet, if_neg (by rw [HV'.out]; decide), if_pos hr]; exact ints_nil _ _⟩, hb0to HBW.out (hb0to hb1 hb2)⟩
    · have hp0 := inR_true.1 hr
      have HR := Lib.hid hr
      go_enter Try.func53, Try.ntmps53
      go_wp2_with (first
        | (go_at_call 28; refine HC.out.mono ?_; rintro e w1 ⟨rfl, hb1⟩; obtain ⟨g0, g1, g2, g3⟩ := (HB.out.of (hb1.block _ HB.out.lt)).cells; have g4 := below_cell hb1 HD.out.cell)
        | (go_at_call 75; refine (isPart_any L h _ _ hn.2.1).mono ?_; rintro e w2 ⟨rfl, hb2⟩; have x0 := below_cell hb2 g0; have x1 := below_cell hb2 g1; have x2 := below_cell hb2 g2; have x3 := below_cell hb2 g3)
        | (go_at_call 92; go_must (refine (some_any 93 #[.pointer (some ⟨w.heap.size + 1, 0, none⟩)] (fun _ _ => rfl) (fun b x => decide (x.getD part.toNat (-1) = (b : Int))) L h HV.out _ (HH.out.below (hb0to HBW.out (hb0to hb1 hb2))) (fun b x pb W hb hx hbW hP => where1_any part.toNat b x pb h (w.heap.size + 1) (by have := (mem_packsL hx).1; omega) (by have := (mem_packsL hx).1; omega) W hP (by rw [Int.toNat_of_nonneg hp0.1]; exact below_cell (hb0to hb1 (hb0to hb2 hbW)) HD.out.cell))).mono ?_); rintro e w3 ⟨⟨v, rfl, hown⟩, hb3⟩))
      go_ret2
      exact ⟨⟨v, by rw [whereRet, if_neg (by rw [HV'.out]; decide), if_neg (by rw [HR.out]; decide)]; rfl, by rw [whereRet, if_neg (by rw [HV'.out]; decide), if_neg (by rw [HR.out]; decide)]; exact hown.mono (hb0to HBW.out (hb0to hb1 hb2)).size⟩, hb0to HBW.out (hb0to hb1 (hb0to hb2 hb3))⟩
set_option maxRecDepth 100000 in
set_option maxHeartbeats 4000000 in
theorem spare_any (L : HL) (h : House) (hn : h.ks.length ≤ 1000 ∧ h.ps.length ≤ 1000 ∧ h.bs.length ≤ 1000) (w : World) (hH : HouseAt w w.heap.size L h) :
    Calls Try.prog 56 #[L.enc h] w fun e w' => ListRet (spareRet h) w.heap.size w' e ∧ Below w.heap.size w w' := by
  have hbw := (Below.refl _ _).alloc (Nat.le_refl w.heap.size) (.cells #[.slice L.Ak h.ks.length L.ck, .int .i64 h.fl, .slice L.Ap h.ps.length L.cp, .slice L.Ab h.bs.length L.cb] 26)
  have HC := Lib.hid (check_any L h hn _ (hH.below hbw))
  have HB := Lib.hid (HBox.new w L h)
  have HBW := Lib.hid hbw
  have HH := Lib.hid hH
  clear hbw hH
  cases hv : validH h
  · have hk : ckH h = 80 := ckH_no hv
    have HV := Lib.hid hv
    clear hv
    go_enter Try.func56, Try.ntmps56
    go_wp2_with (go_at_call 28; refine HC.out.mono ?_; rintro e w1 ⟨rfl, hb1⟩)
    go_ret2
    exact ⟨⟨.slice none 0 0, by rw [spareRet, if_pos HV.out]; rfl, by rw [spareRet, if_pos HV.out]; exact ints_nil _ _⟩, hb0to HBW.out hb1⟩
  · have hk : ckH h = 0 := ckH_yes hv
    have HV := Lib.hid (HOK.ofValid hv)
    have HV' := Lib.hid hv
    clear hv
    go_enter Try.func56, Try.ntmps56
    go_wp2_with (first
      | (go_at_call 28; refine HC.out.mono ?_; rintro e w1 ⟨rfl, hb1⟩; obtain ⟨g0, g1, g2, g3⟩ := (HB.out.of (hb1.block _ HB.out.lt)).cells)
      | (go_at_call 92; go_must (refine (some_any 94 #[] (fun _ _ => rfl) (fun b x => decide ((caskOf (packedC h x) b).n = 0)) L h HV.out _ (HH.out.below (hb0to HBW.out hb1)) (fun b x pb W hb hx _ _ => spare1_any b (by have := HV.out.bl; omega) x pb h _ _ W)).mono ?_); rintro e w2 ⟨⟨v, rfl, hown⟩, hb2⟩))
    go_ret2
    exact ⟨⟨v, by rw [spareRet, if_neg (by rw [HV'.out]; decide)]; rfl, by rw [spareRet, if_neg (by rw [HV'.out]; decide)]; exact hown.mono (hb0to HBW.out hb1).size⟩, hb0to HBW.out (hb0to hb1 hb2)⟩
end Go.Proofs.Ytgemmmdcpbajoaa
