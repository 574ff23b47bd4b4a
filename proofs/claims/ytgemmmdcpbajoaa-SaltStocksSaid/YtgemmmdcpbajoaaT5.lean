import Derived.Test.YtgemmmdcpbajoaaT4
namespace Go.Proofs.Ytgemmmdcpbajoaa
open Go.RowKit
attribute [local go_sem] Oper.semAt_some

def ChB (D : Nat) (X : World) (best : Value) (m e : Int) : Option (List Int × Int) → Prop
  | none => best = .slice none 0 0 ∧ m = 0 ∧ e = 3
  | some (p, m') => e = 0 ∧ m = m' ∧ ∃ pb, D ≤ pb ∧ best = .slice (some ⟨pb, 0, none⟩) p.length p.length ∧ PackAt X pb p
theorem ChB.kp {D : Nat} {X Y : World} {best : Value} {m e : Int} {o : Option (List Int × Int)} (h : ChB D X best m e o) {S : Nat → Prop} (hk : KpB S X.heap.size X Y) (hS : ∀ k, S k → k < D) : ChB D Y best m e o := by
  match o, h with
  | none, h => exact h
  | some (p, m'), ⟨h1, h2, pb, h3, h4, h5⟩ => exact ⟨h1, h2, pb, h3, h4, (hk.block pb h5.lt (fun hs => by have := hS pb hs; omega)).trans h5⟩
/-- What choose knows between two rounds. -/
structure ChI (w : World) (L : HL) (h : House) (gv : Value) (f : List Cask → Int) (D : Nat) (pre : List (List Int)) (X : World) : Prop where
  b : Below w.heap.size w X
  s : ∃ best m e, ChSt X w.heap.size L h gv best m e ∧ ChB D X best m e (bestOf (fun p => f (packedC h p)) pre)
theorem KpB.belowOf {S : Nat → Prop} {n B : Nat} {W W' : World} (h : KpB S n W W') (hB : B ≤ n) (hS : ∀ k, S k → B ≤ k) : Below B W W' := ⟨h.os, h.tape, h.output, h.size, fun k hk => h.block k (by omega) (fun hs => by have := hS k hs; omega)⟩
theorem ChSt.alloc {W : World} {s : Nat} {L : HL} {h : House} {gv best : Value} {m e : Int} (H : ChSt W s L h gv best m e) (o : Obj) : ChSt (W.alloc o) s L h gv best m e := H.below ((Below.refl _ W).alloc (Nat.le_refl _) o)
theorem packAt_other {W : World} {pb b o : Nat} {p : List Int} {u : Value} (h : PackAt W pb p) (hne : pb ≠ b) : PackAt (W.setCell ⟨b, o, none⟩ u) pb p := (((KpB.refl (fun k => k = b) W.heap.size W).set o u (.inl rfl)).block pb h.lt hne).trans h
theorem packAt_zero (W : World) (n : Nat) : PackAt (W.alloc (.cells (List.replicate n (Value.int .i64 0)).toArray 3)) W.heap.size (List.replicate n 0) := by
  have := World.alloc_heap_new W (.cells (List.replicate n (Value.int .i64 0)).toArray 3)
  simpa [PackAt, encP] using this
theorem PackAt.below {W W' : World} {pb : Nat} {p : List Int} (h : PackAt W pb p) (hb : Below W.heap.size W W') : PackAt W' pb p := (hb.block pb h.lt).trans h

theorem mem_packsL {h : House} {x : List Int} (hx : x ∈ packsL h) : x.length = h.ps.length ∧ ∀ y ∈ x, 0 ≤ y ∧ y < h.bs.length := mem_allS.1 (List.mem_filter.1 (show x ∈ List.filter _ _ from hx)).1
/-- The world behind a better packing, ahead of the copy. -/
abbrev chW (W5 : World) (s n : Nat) (v : Int) : World := (((W5.setCell ⟨s + 1 + 1, 0, none⟩ (.slice (some ⟨W5.heap.size, 0, none⟩) n n)).setCell ⟨s + 1 + 1 + 1, 0, none⟩ (.int .i64 v)).setCell ⟨s + 1 + 1 + 1 + 1, 0, none⟩ (.int .i64 0)).alloc (.cells (Array.replicate n (Value.int .i64 0)) 3)
theorem chW_packs {W5 : World} {s n pb : Nat} {v : Int} {p : List Int} (_ : s + 5 ≤ W5.heap.size) (hpb : s + 5 ≤ pb) (h : PackAt W5 pb p) : PackAt (chW W5 s n v) pb p ∧ PackAt (chW W5 s n v) W5.heap.size (List.replicate n 0) := by
  refine ⟨(packAt_other (packAt_other (packAt_other h (by omega)) (by omega)) (by omega)).below ((Below.refl _ _).alloc (Nat.le_refl _) _), ?_⟩
  have := packAt_zero (((W5.setCell ⟨s + 1 + 1, 0, none⟩ (.slice (some ⟨W5.heap.size, 0, none⟩) n n)).setCell ⟨s + 1 + 1 + 1, 0, none⟩ (.int .i64 v)).setCell ⟨s + 1 + 1 + 1 + 1, 0, none⟩ (.int .i64 0)) n
  simp only [List.toArray_replicate] at this
  have e : (((W5.setCell ⟨s + 1 + 1, 0, none⟩ (.slice (some ⟨W5.heap.size, 0, none⟩) n n)).setCell ⟨s + 1 + 1 + 1, 0, none⟩ (.int .i64 v)).setCell ⟨s + 1 + 1 + 1 + 1, 0, none⟩ (.int .i64 0)).heap.size = W5.heap.size := by simp [World.setCell]
  rw [e] at this
  exact this
theorem choose_close {w X W5 X6 : World} {L : HL} {h : House} {gv best : Value} {m e v : Int} {D n : Nat} (hs5 : ChSt W5 w.heap.size L h gv best m e) (hbX : Below w.heap.size w X) (hb5 : Below X.heap.size X W5) (hX : D ≤ X.heap.size) (hD : w.heap.size + 5 ≤ D)
    (hk6 : KpB (fun k => k = W5.heap.size) (chW W5 w.heap.size n v).heap.size (chW W5 w.heap.size n v) X6) :
    KpB (fun k => k = w.heap.size + 1 + 1 ∨ k = w.heap.size + 1 + 1 + 1 ∨ k = w.heap.size + 1 + 1 + 1 + 1) D X X6 ∧ Below w.heap.size w X6 ∧ ChSt X6 w.heap.size L h gv (.slice (some ⟨W5.heap.size, 0, none⟩) n n) v 0 := by
  have z5 := hb5.size
  have hz : (chW W5 w.heap.size n v).heap.size = W5.heap.size + 1 := by simp [World.setCell]
  have k1 : KpB (fun k => k = w.heap.size + 1 + 1 ∨ k = w.heap.size + 1 + 1 + 1 ∨ k = w.heap.size + 1 + 1 + 1 + 1) D X (chW W5 w.heap.size n v) :=
    (((((kpB_of_below (hb5.mono hX)).set _ _ (.inl (.inl rfl))).set _ _ (.inl (.inr (.inl rfl)))).set _ _ (.inl (.inr (.inr rfl)))).alloc _ (by simp [World.setCell]; omega))
  have k2 : KpB (fun k => k = w.heap.size + 1 + 1 ∨ k = w.heap.size + 1 + 1 + 1 ∨ k = w.heap.size + 1 + 1 + 1 + 1) D X X6 := k1.trans (hk6.mono (by omega) (fun k hk hs => by omega))
  refine ⟨k2, hbX.trans (k2.belowOf (by omega) (fun k hs => by omega)), ?_⟩
  exact ((((hs5.setB _).setM _).setE _).alloc _).kp hk6 (by omega) (fun k hs => .inr (by omega))
theorem stepB_lt {f : List Int → Int} {b p : List Int} {m : Int} (h : f p < m) : stepB f (some (b, m)) p = some (p, f p) := if_pos h
theorem stepB_ge {f : List Int → Int} {b p : List Int} {m : Int} (h : ¬ f p < m) : stepB f (some (b, m)) p = some (b, m) := if_neg h
theorem ChSt.drew {W : World} {s : Nat} {L : HL} {h : House} {gv best : Value} {m e : Int} (H : ChSt W s L h gv best m e) : ChSt W.drew s L h gv best m e := ⟨H.b0, H.b1, H.b2, H.b3, H.b4⟩
/-- choose's end: what stood in its results is stored once more. -/
theorem choose_end {w X : World} {L : HL} {h : House} {gv best : Value} {m e : Int} {D : Nat} (hs : ChSt X w.heap.size L h gv best m e) (hbX : Below w.heap.size w X) (hD : w.heap.size + 5 ≤ D) :
    Below w.heap.size w (((((X.setCell ⟨w.heap.size + 1 + 1, 0, none⟩ best).setCell ⟨w.heap.size + 1 + 1 + 1, 0, none⟩ (.int .i64 m)).setCell ⟨w.heap.size + 1 + 1 + 1 + 1, 0, none⟩ (.int .i64 e)).drew).putObj D (.deferred none)) ∧
    ChSt (((((X.setCell ⟨w.heap.size + 1 + 1, 0, none⟩ best).setCell ⟨w.heap.size + 1 + 1 + 1, 0, none⟩ (.int .i64 m)).setCell ⟨w.heap.size + 1 + 1 + 1 + 1, 0, none⟩ (.int .i64 e)).drew).putObj D (.deferred none)) w.heap.size L h gv best m e ∧
    (((((X.setCell ⟨w.heap.size + 1 + 1, 0, none⟩ best).setCell ⟨w.heap.size + 1 + 1 + 1, 0, none⟩ (.int .i64 m)).setCell ⟨w.heap.size + 1 + 1 + 1 + 1, 0, none⟩ (.int .i64 e)).drew).putObj D (.deferred none)) =
      (X.drew).putObj D (.deferred none) := by
  rw [set_same hs.b2.cell, set_same hs.b3.cell, set_same hs.b4.cell]
  refine ⟨hbX.drew.trans (KpB.belowOf (S := fun k => k = D) ((KpB.refl _ _ _).put _ _ (.inl rfl)) hbX.drew.size (fun k hk => by omega)), hs.drew.kp (S := fun k => k = D) ((KpB.refl _ _ _).put _ _ (.inl rfl)) hs.lt (fun k hk => .inr (by omega)), rfl⟩
theorem HouseAt.keep2 {w W : World} {L : HL} {h : House} (_ : HouseAt W W.heap.size L h) (hb : Below w.heap.size w W) (hh : HouseAt w w.heap.size L h) : HouseAt W w.heap.size L h :=
  hh.keep (Nat.le_refl _) fun b o hlt => hb.cell (p := ⟨b, o, none⟩) hlt
set_option maxRecDepth 100000 in
set_option maxHeartbeats 4000000 in
theorem choose_yes (gf : Nat) (lb : Array Value) (eg : ∀ args w, (callFunc gf args).run Try.prog w = .ok (.enter gf args) w) (f : List Cask → Int) (L : HL) (h : House) (hvh : validH h = true) (w : World) (hH : HouseAt w w.heap.size L h)
    (hof : ∀ l W, l.length = 5 → (∀ (j : Nat) (c : Cask), l[j]? = some c → c.ok) → Below w.heap.size w W → Calls Try.prog gf (#[encCs l] ++ lb) W fun e w' => e = .returned (.int .i64 (f l)) ∧ Below W.heap.size W w') :
    Calls Try.prog 85 #[L.enc h, .bool true, .func (.func gf) #[] lb] w fun e w' => ChooseRet h true f w.heap.size w' e ∧ Below w.heap.size w w' := by
  have hv := HOK.ofValid hvh
  have hst := ChSt.new w L h (.func (.func gf) #[] lb)
  have hbw := below5 w (.cells #[.slice L.Ak h.ks.length L.ck, .int .i64 h.fl, .slice L.Ap h.ps.length L.cp, .slice L.Ab h.bs.length L.cb] 26) (.cells #[.func (.func gf) #[] lb] 94) (.cells #[.slice none 0 0] 24) (.cells #[.int .i64 0] 3) (.cells #[.int .i64 0] 30)
  have HBW := Lib.hid hbw
  clear hbw
  have hk : ckH h = 0 := ckH_yes hvh
  have HVH := Lib.hid hvh
  have HV := Lib.hid hv
  have HOF := Lib.hid hof
  have HC := Lib.hid (fun W (hW : Below w.heap.size w W) => check_any L h (by have := hv.kl; have := hv.pl; have := hv.bl; omega) W (hH.below hW))
  have HH := Lib.hid hH
  clear hv hvh hof hH
  refine (callsIn_wide (n := 10)).1 ?_
  refine callsIn_of_wp_marks Try.func85 rfl trivial ?_ rfl
  simp only [Try.ntmps85, List.size_toArray, List.length_cons, List.length_nil, Nat.reduceAdd, Nat.reduceSub, Array.replicate_succ, Array.replicate_zero, List.push_toArray, List.append_toArray, List.nil_append, List.cons_append]
  gi_wp2_with (first
    | (refine ⟨trivial, ?_⟩; gi_at_call 28; refine (callsIn_wide.2 (HC.out _ HBW.out)).mono ?_; rintro e w1 ⟨rfl, hb1⟩; have hs1 := hst.below hb1; have hc2 := hs1.b2.cell; have hc3 := hs1.b3.cell; have hc4 := hs1.b4.cell; have hf2 := hs1.b2.frozen; have hf3 := hs1.b3.frozen; have hf4 := hs1.b4.frozen; obtain ⟨g0, g1, g2, g3⟩ := hs1.b0.cells)
    | (refine ⟨trivial, ?_⟩; gi_at_call 73; refine (callsIn_wide.2 (packings_any L h _)).mono ?_; rintro e w2 ⟨rfl, rfl⟩))
  have HW1 := Lib.hid hb1
  have hst2 := (hs1.setE 3).alloc (.cells #[.slice L.Ak h.ks.length L.ck, .int .i64 h.fl, .slice L.Ap h.ps.length L.cp, .slice L.Ab h.bs.length L.cb] 26)
  have hX1 := HBox.new (w1.setCell ⟨w.heap.size + 1 + 1 + 1 + 1, 0, none⟩ (.int .i64 3)) L h
  have hbW : Below w.heap.size w ((w1.setCell ⟨w.heap.size + 1 + 1 + 1 + 1, 0, none⟩ (.int .i64 3)).alloc (.cells #[.slice L.Ak h.ks.length L.ck, .int .i64 h.fl, .slice L.Ap h.ps.length L.cp, .slice L.Ab h.bs.length L.cb] 26)) :=
    ((HBW.out.trans (hb1.mono HBW.out.size)).setCell (by simp; omega) _).alloc (by have := hb1.size; have := HBW.out.size; simp [World.setCell]; omega) _
  have hz0 : (w1.setCell ⟨w.heap.size + 1 + 1 + 1 + 1, 0, none⟩ (.int .i64 3)).heap.size = w1.heap.size := by simp [World.setCell]
  rw [hz0] at hX1
  clear hz0
  obtain ⟨W1, hW1⟩ : ∃ W1, (w1.setCell ⟨w.heap.size + 1 + 1 + 1 + 1, 0, none⟩ (.int .i64 3)).alloc (.cells #[.slice L.Ak h.ks.length L.ck, .int .i64 h.fl, .slice L.Ap h.ps.length L.cp, .slice L.Ab h.bs.length L.cb] 26) = W1 := ⟨_, rfl⟩
  rw [hW1] at hst2 hX1 hbW ⊢
  have hlt1 := hs1.lt
  clear hW1 hst hs1 hc2 hc3 hc4 hf2 hf3 hf4 g0 g1 g2 g3 hb1 HW1
  have hl1 := hst2.lt
  have hxl := hX1.lt
  refine wpIn_rangeFunc_sees (S := fun k => k = w.heap.size + 1 + 1 ∨ k = w.heap.size + 1 + 1 + 1 ∨ k = w.heap.size + 1 + 1 + 1 + 1) (Sees := SeesP h) (fb := #[]) (lb := #[.pointer (some ⟨w1.heap.size, 0, none⟩)]) (xs := packsL h) (w0 := W1) rfl (by omega) rfl trivial (fun _ _ => rfl)
    (packs_sees 9 (by omega) L h HV.out w.heap.size w1.heap.size W1 (by omega) ((HH.out.below hbW).keep2 hbW HH.out) hX1 _ (fun k hk => by omega) (by omega)) (Below.refl _ _) (fun k hk => by omega)
    (fun B x args X hs => by obtain ⟨pb, -, rfl, -⟩ := hs; rfl) (fun B x args X Y _ hs hk => hs.kept hk)
    (fun D pre X => ChI w L h (.func (.func gf) #[] lb) f D pre X)
    (fun c D pre X => False)
    ?hI ?hIx ?h0 (fun x args a' X => ∃ b4, W1.heap.size + 2 ≤ b4 ∧ CasksAt X b4 (packedC h x) ∧ a' = { tmps := #[L.enc h, .bool true, .func (.func gf) #[] lb, .pointer (some ⟨w.heap.size, 0, none⟩), undef, .pointer (some ⟨w.heap.size + 1, 0, none⟩), .pointer (some ⟨w.heap.size + 1 + 1, 0, none⟩), .pointer (some ⟨w.heap.size + 1 + 1 + 1, 0, none⟩), .pointer (some ⟨w.heap.size + 1 + 1 + 1 + 1, 0, none⟩), .int .i64 0, args.getD 0 undef, .pointer (some ⟨b4, 0, none⟩), undef, L.enc h, .int .i64 0, .int .i64 0, .bool false, undef, .bool true, .bool false, L.enc h, .func (.func 96) #[] #[.pointer (some ⟨w1.heap.size, 0, none⟩)], args.getD 0 undef, args.getD 1 undef, undef, undef, undef, undef, undef, undef, undef, undef, undef, undef, undef, undef, undef, undef, undef, undef, undef, undef, undef, undef], defers := [] }) ?hAx ?hassign ?hbody ?hdone ?hstop
  case hI =>
    rintro D s X Y hD hX ⟨hb, best, m, e, h1, h2⟩ hk
    exact ⟨hb.trans (hk.belowOf (by have := hb.size; omega) (fun k hs => by have := hs.1; omega)), best, m, e, h1.kp hk (by omega) (fun k hs => .inr (by have := hs.1; omega)), h2.kp hk (fun k hs => hs.2)⟩
  case hIx => exact fun _ _ _ _ _ _ _ h _ => h.elim
  case h0 =>
    intro D X hD hX hb
    exact ⟨hbW.trans (hb.mono (by omega)), _, _, _, hst2.below hb, rfl, rfl, rfl⟩
  case hAx =>
    rintro x args a' X Y hz ⟨b4, h1, h2, h3⟩ hk
    exact ⟨b4, h1, (hk.block _ (Array.getElem?_eq_some_iff.1 h2).1 (fun hs => by have hs' : b4 < W1.heap.size + 2 := hs; omega)).trans h2, h3⟩
  case hassign =>
    intro l' x args X K hz hs hK
    obtain ⟨pb, -, rfl, -⟩ := hs
    have hK' := hK _ (X.alloc (.cells (flatC (packedC h x)).toArray 81)) (.inr ⟨_, rfl⟩) ⟨X.heap.size, by omega, World.alloc_heap_new X _, rfl⟩
    clear hK
    simp only [List.zip_toArray, List.zip_cons_cons, List.zip_nil_right, List.foldl_toArray, List.foldl_cons, List.foldl_nil, List.setIfInBounds_toArray, List.set_cons_succ, List.set_cons_zero]
    have hl5 : (packedC h x).length = 5 := casksTo_len _ _ _
    gi_wp2_with (refine wplIn_store81 rfl (.tmp 11) (.tmp 23) rfl rfl (packedC h x) hl5 rfl ?_)
    exact hK'
  case hbody =>
    rintro l' D pre x args a' X hD hX hpre ⟨hbX, best, m, e, hs, hB⟩ hsee ⟨b4, hb4, hC4, rfl⟩
    obtain ⟨pb, hpb, rfl, hpk⟩ := hsee
    have hxm := mem_packsL (hpre.subset (List.mem_append_right _ (List.mem_singleton.2 rfl)))
    have HXM := Lib.hid hxm
    clear hxm
    have hl5 : (packedC h x).length = 5 := casksTo_len _ _ _
    have hok : ∀ (j : Nat) (c : Cask), (packedC h x)[j]? = some c → c.ok := fun j c hc => (casksTo_upto HV.out x _ (Nat.le_refl _) j c hc).ok (by have := HV.out.pl; omega)
    have hx6 : x.length ≤ 6 := by have := HXM.out.1; have := HV.out.pl; omega
    have hcall := HOF.out (packedC h x) X hl5 hok hbX
    have HCALL := Lib.hid hcall
    clear hcall hok
    have hg1 := hs.b1.cell
    cases hbo : bestOf (fun p => f (packedC h p)) pre with
    | none =>
      rw [hbo] at hB
      obtain ⟨rfl, rfl, rfl⟩ := hB
      have HBO := Lib.hid hbo
      clear hbo
      gi_wp2_with (first
        | (refine wplIn_load81 rfl (.tmp 11) rfl b4 rfl (packedC h x) hl5 hC4 ?_)
        | (refine ⟨trivial, ?_⟩; refine (CallsIn.mono (CallsIn.inRound l' (callsIn_wide.2 HCALL.out)) ?_); rintro e W5 ⟨rfl, hb5⟩; have hs5 := hs.below hb5; have hc2 := hs5.b2.cell; have hc3 := hs5.b3.cell; have hc4 := hs5.b4.cell; have hf2 := hs5.b2.frozen; have hf3 := hs5.b3.frozen; have hf4 := hs5.b4.frozen; have hp5 := hpk.below hb5; have hz5 := hs5.lt; have hl2 : w.heap.size + 1 + 1 < W5.heap.size := (by omega); have hl3 : w.heap.size + 1 + 1 + 1 < W5.heap.size := (by omega); have hl4 : w.heap.size + 1 + 1 + 1 + 1 < W5.heap.size := (by omega); have hn2 : ¬ w.heap.size + 1 + 1 = W5.heap.size := (by omega); have hn3 : ¬ w.heap.size + 1 + 1 + 1 = W5.heap.size := (by omega); have hn4 : ¬ w.heap.size + 1 + 1 + 1 + 1 = W5.heap.size := (by omega))
        | (refine wplIn_make24 rfl (.tmp 35) rfl x.length rfl (by omega) ?_)
        | (refine wplIn_copyP rfl (.tmp 38) (.tmp 39) rfl W5.heap.size pb x.length rfl rfl x (List.replicate x.length 0) rfl List.length_replicate ?_ ?_ ?_; exact (chW_packs (v := f (packedC h x)) hz5 (by omega) hp5).1; exact (chW_packs (v := f (packedC h x)) hz5 (by omega) hp5).2; intro X6 hp6 hk6))
      obtain ⟨q1, q2, q3⟩ := choose_close hs5 hbX hb5 hX (by omega) hk6
      refine ⟨q1, q2, _, _, _, q3, ?_⟩
      show ChB D X6 _ _ _ (bestOf (fun p => f (packedC h p)) (pre ++ [x]))
      rw [bestOf_snoc, HBO.out]
      exact ⟨rfl, rfl, W5.heap.size, by have := hb5.size; omega, rfl, hp6.out⟩
    | some bm =>
      obtain ⟨b, mb⟩ := bm
      rw [hbo] at hB
      obtain ⟨rfl, rfl, hB⟩ := hB
      have HBO := Lib.hid hbo
      have HBB := Lib.hid hB
      clear hbo hB
      by_cases hlt : f (packedC h x) < m
      · have hdl : decide (f (packedC h x) < m) = true := by simpa using hlt
        gi_wp2_with (first
          | (refine wplIn_load81 rfl (.tmp 11) rfl b4 rfl (packedC h x) hl5 hC4 ?_)
          | (refine ⟨trivial, ?_⟩; refine (CallsIn.mono (CallsIn.inRound l' (callsIn_wide.2 HCALL.out)) ?_); rintro e W5 ⟨rfl, hb5⟩; have hs5 := hs.below hb5; have hc2 := hs5.b2.cell; have hc3 := hs5.b3.cell; have hc4 := hs5.b4.cell; have hf2 := hs5.b2.frozen; have hf3 := hs5.b3.frozen; have hf4 := hs5.b4.frozen; have hp5 := hpk.below hb5; have hz5 := hs5.lt; have hl2 : w.heap.size + 1 + 1 < W5.heap.size := (by omega); have hl3 : w.heap.size + 1 + 1 + 1 < W5.heap.size := (by omega); have hl4 : w.heap.size + 1 + 1 + 1 + 1 < W5.heap.size := (by omega); have hn2 : ¬ w.heap.size + 1 + 1 = W5.heap.size := (by omega); have hn3 : ¬ w.heap.size + 1 + 1 + 1 = W5.heap.size := (by omega); have hn4 : ¬ w.heap.size + 1 + 1 + 1 + 1 = W5.heap.size := (by omega))
          | (refine wplIn_make24 rfl (.tmp 35) rfl x.length rfl (by omega) ?_)
          | (refine wplIn_copyP rfl (.tmp 38) (.tmp 39) rfl W5.heap.size pb x.length rfl rfl x (List.replicate x.length 0) rfl List.length_replicate ?_ ?_ ?_; exact (chW_packs (v := f (packedC h x)) hz5 (by omega) hp5).1; exact (chW_packs (v := f (packedC h x)) hz5 (by omega) hp5).2; intro X6 hp6 hk6))
        obtain ⟨q1, q2, q3⟩ := choose_close hs5 hbX hb5 hX (by omega) hk6
        refine ⟨q1, q2, _, _, _, q3, ?_⟩
        show ChB D X6 _ _ _ (bestOf (fun p => f (packedC h p)) (pre ++ [x]))
        rw [bestOf_snoc, HBO.out, stepB_lt (f := fun p => f (packedC h p)) hlt]
        exact ⟨rfl, rfl, W5.heap.size, by have := hb5.size; omega, rfl, hp6.out⟩
      · have hdl : decide (f (packedC h x) < m) = false := by simpa using hlt
        gi_wp2_with (first
          | (refine wplIn_load81 rfl (.tmp 11) rfl b4 rfl (packedC h x) hl5 hC4 ?_)
          | (refine ⟨trivial, ?_⟩; refine (CallsIn.mono (CallsIn.inRound l' (callsIn_wide.2 HCALL.out)) ?_); rintro e W5 ⟨rfl, hb5⟩; have hs5 := hs.below hb5; have hc2 := hs5.b2.cell; have hc3 := hs5.b3.cell; have hc4 := hs5.b4.cell; have hf2 := hs5.b2.frozen; have hf3 := hs5.b3.frozen; have hf4 := hs5.b4.frozen; have hp5 := hpk.below hb5; have hz5 := hs5.lt; have hl2 : w.heap.size + 1 + 1 < W5.heap.size := (by omega); have hl3 : w.heap.size + 1 + 1 + 1 < W5.heap.size := (by omega); have hl4 : w.heap.size + 1 + 1 + 1 + 1 < W5.heap.size := (by omega); have hn2 : ¬ w.heap.size + 1 + 1 = W5.heap.size := (by omega); have hn3 : ¬ w.heap.size + 1 + 1 + 1 = W5.heap.size := (by omega); have hn4 : ¬ w.heap.size + 1 + 1 + 1 + 1 = W5.heap.size := (by omega)))
        have kX5 : KpB (fun k => k = w.heap.size + 1 + 1 ∨ k = w.heap.size + 1 + 1 + 1 ∨ k = w.heap.size + 1 + 1 + 1 + 1) D X W5 := kpB_of_below (hb5.mono hX)
        refine ⟨kX5, hbX.trans (hb5.mono (by omega)), _, _, _, hs5, ?_⟩
        show ChB D W5 _ _ _ (bestOf (fun p => f (packedC h p)) (pre ++ [x]))
        rw [bestOf_snoc, HBO.out, stepB_ge (f := fun p => f (packedC h p)) (show ¬ f (packedC h x) < m by omega)]
        have hBB : ChB D X best m 0 (some (b, m)) := ⟨rfl, rfl, HBB.out⟩
        exact hBB.kp (kpB_of_below hb5 (S := fun _ => False)) (fun _ h => h.elim)
  case hdone =>
    rintro D X hD hX ⟨hbX, best, m, e, hs, hB⟩ hk
    have HK := Lib.hid hk
    clear hk
    have hc2 := hs.b2.cell
    have hc3 := hs.b3.cell
    have hc4 := hs.b4.cell
    have hf2 := hs.b2.frozen
    have hf3 := hs.b3.frozen
    have hf4 := hs.b4.frozen
    cases hbo : bestOf (fun p => f (packedC h p)) (packsL h) with
    | none =>
      rw [hbo] at hB
      obtain ⟨rfl, rfl, rfl⟩ := hB
      have HBO := Lib.hid hbo
      clear hbo
      gi_wp2
      refine wpIn_wide.2 ?_
      go_region
      gi_wp2
      obtain ⟨e1, e2, e3⟩ := choose_end hs hbX (D := W1.heap.size) (by omega)
      refine ⟨by simp, .inl ⟨_, _, rfl, run_takeDeferred (by rw [set_same hc2, set_same hc3, set_same hc4]; exact HK.out), ?_⟩⟩
      refine ⟨_, results85_of e2 rfl rfl rfl, ?_, e1⟩
      unfold ChooseRet
      rw [if_neg (by rw [HVH.out]; decide), if_neg (by decide), HBO.out]
    | some bm =>
      obtain ⟨b, mb⟩ := bm
      rw [hbo] at hB
      obtain ⟨rfl, rfl, pb, hpb, rfl, hpk⟩ := hB
      have HBO := Lib.hid hbo
      clear hbo
      gi_wp2
      refine wpIn_wide.2 ?_
      go_region
      gi_wp2
      obtain ⟨e1, e2, e3⟩ := choose_end hs hbX (D := W1.heap.size) (by omega)
      refine ⟨by simp, .inl ⟨_, _, rfl, run_takeDeferred (by rw [set_same hc2, set_same hc3, set_same hc4]; exact HK.out), ?_⟩⟩
      refine ⟨_, results85_of e2 rfl rfl rfl, ?_, e1⟩
      unfold ChooseRet
      rw [if_neg (by rw [HVH.out]; decide), if_neg (by decide), HBO.out]
      refine ⟨pb, rfl, ?_, by omega⟩
      rw [e3]
      exact (World.putObj_heap_other (by omega)).trans hpk
  case hstop => exact fun _ _ _ _ _ _ _ h => h.elim
end Go.Proofs.Ytgemmmdcpbajoaa
