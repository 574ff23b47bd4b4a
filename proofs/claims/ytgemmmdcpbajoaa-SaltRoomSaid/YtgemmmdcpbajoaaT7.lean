import Derived.Test.YtgemmmdcpbajoaaT4
import Derived.Deep.RegionHeld3
import Derived.Deep.QuietTactic
namespace Go.Proofs.Ytgemmmdcpbajoaa
open Go.RowKit
attribute [local go_sem] Oper.semAt_some

def ChB (D : Nat) (X : World) (best : Value) (m e : Int) : Option (List Int × Int) → Prop
  | none => best = .slice none 0 0 ∧ m = 0 ∧ e = 3
  | some (p, m') => e = 0 ∧ m = m' ∧ ∃ pb, D ≤ pb ∧ best = .slice (some ⟨pb, 0, none⟩) p.length p.length ∧ PackAt X pb p
theorem ChB.kp {D : Nat} {X Y : World} {best : Value} {m e : Int} {o : Option (List Int × Int)} (h : ChB D X best m e o) {S : Nat → Prop} (hk : KpB S X.heap.size X Y) (hS : ∀ k, S k → k < D) : ChB D Y best m e o := by
  match o, h with
  | none, h => exact h
  | some (p, m'), ⟨h1, h2, pb, h3, h4, h5⟩ => exact ⟨h1, h2, pb, h3, h4, (hk.block pb h5.lt (fun hs => by have := hS pb hs; omega)).trans h5⟩
/-- What choose knows between two rounds. -/
structure ChI (w : World) (L : HL) (h : House) (gv : Value) (f : List Cask → Int) (D : Nat) (pre : List (List Int)) (X : World) : Prop where
  b : Below w.heap.size w X
  s : ∃ best m e, ChSt X w.heap.size L h gv best m e ∧ ChB D X best m e (bestOf (fun p => f (packedC h p)) pre)
theorem KpB.belowOf {S : Nat → Prop} {n B : Nat} {W W' : World} (h : KpB S n W W') (hB : B ≤ n) (hS : ∀ k, S k → B ≤ k) : Below B W W' := ⟨h.os, h.tape, h.output, h.size, fun k hk => h.block k (by omega) (fun hs => by have := hS k hs; omega)⟩
theorem ChSt.alloc {W : World} {s : Nat} {L : HL} {h : House} {gv best : Value} {m e : Int} (H : ChSt W s L h gv best m e) (o : Obj) : ChSt (W.alloc o) s L h gv best m e := H.below ((Below.refl _ W).alloc (Nat.le_refl _) o)
theorem packAt_other {W : World} {pb b o : Nat} {p : List Int} {u : Value} (h : PackAt W pb p) (hne : pb ≠ b) : PackAt (W.setCell ⟨b, o, none⟩ u) pb p := (((KpB.refl (fun k => k = b) W.heap.size W).set o u (.inl rfl)).block pb h.lt hne).trans h
theorem packAt_zero (W : World) (n : Nat) : PackAt (W.alloc (.cells (List.replicate n (Value.int .i64 0)).toArray 3)) W.heap.size (List.replicate n 0) := by
  have := World.alloc_heap_new W (.cells (List.replicate n (Value.int .i64 0)).toArray 3)
  simpa [PackAt, encP] using this
theorem PackAt.below {W W' : World} {pb : Nat} {p : List Int} (h : PackAt W pb p) (hb : Below W.heap.size W W') : PackAt W' pb p := (hb.block pb h.lt).trans h

theorem mem_packsL {h : House} {x : List Int} (hx : x ∈ packsL h) : x.length = h.ps.length ∧ ∀ y ∈ x, 0 ≤ y ∧ y < h.bs.length := mem_allS.1 (List.mem_filter.1 (show x ∈ List.filter _ _ from hx)).1
/-- The world behind a better packing, ahead of the copy. -/
abbrev chW (W5 : World) (s n : Nat) (v : Int) : World := (((W5.setCell ⟨s + 1 + 1, 0, none⟩ (.slice (some ⟨W5.heap.size, 0, none⟩) n n)).setCell ⟨s + 1 + 1 + 1, 0, none⟩ (.int .i64 v)).setCell ⟨s + 1 + 1 + 1 + 1, 0, none⟩ (.int .i64 0)).alloc (.cells (Array.replicate n (Value.int .i64 0)) 3)
theorem chW_packs {W5 : World} {s n pb : Nat} {v : Int} {p : List Int} (_ : s + 5 ≤ W5.heap.size) (hpb : s + 5 ≤ pb) (h : PackAt W5 pb p) : PackAt (chW W5 s n v) pb p ∧ PackAt (chW W5 s n v) W5.heap.size (List.replicate n 0) := by
  refine ⟨(packAt_other (packAt_other (packAt_other h (by omega)) (by omega)) (by omega)).below ((Below.refl _ _).alloc (Nat.le_refl _) _), ?_⟩
  have := packAt_zero (((W5.setCell ⟨s + 1 + 1, 0, none⟩ (.slice (some ⟨W5.heap.size, 0, none⟩) n n)).setCell ⟨s + 1 + 1 + 1, 0, none⟩ (.int .i64 v)).setCell ⟨s + 1 + 1 + 1 + 1, 0, none⟩ (.int .i64 0)) n
  simp only [List.toArray_replicate] at this
  have e : (((W5.setCell ⟨s + 1 + 1, 0, none⟩ (.slice (some ⟨W5.heap.size, 0, none⟩) n n)).setCell ⟨s + 1 + 1 + 1, 0, none⟩ (.int .i64 v)).setCell ⟨s + 1 + 1 + 1 + 1, 0, none⟩ (.int .i64 0)).heap.size = W5.heap.size := by simp [World.setCell]
  rw [e] at this
  exact this
theorem choose_close {w X W5 X6 : World} {L : HL} {h : House} {gv best : Value} {m e v : Int} {D n : Nat} (hs5 : ChSt W5 w.heap.size L h gv best m e) (hbX : Below w.heap.size w X) (hb5 : Below X.heap.size X W5) (hX : D ≤ X.heap.size) (hD : w.heap.size + 5 ≤ D)
    (hk6 : KpB (fun k => k = W5.heap.size) (chW W5 w.heap.size n v).heap.size (chW W5 w.heap.size n v) X6) :
    KpB (fun k => k = w.heap.size + 1 + 1 ∨ k = w.heap.size + 1 + 1 + 1 ∨ k = w.heap.size + 1 + 1 + 1 + 1) D X X6 ∧ Below w.heap.size w X6 ∧ ChSt X6 w.heap.size L h gv (.slice (some ⟨W5.heap.size, 0, none⟩) n n) v 0 := by
  have z5 := hb5.size
  have hz : (chW W5 w.heap.size n v).heap.size = W5.heap.size + 1 := by simp [World.setCell]
  have k1 : KpB (fun k => k = w.heap.size + 1 + 1 ∨ k = w.heap.size + 1 + 1 + 1 ∨ k = w.heap.size + 1 + 1 + 1 + 1) D X (chW W5 w.heap.size n v) :=
    (((((kpB_of_below (hb5.mono hX)).set _ _ (.inl (.inl rfl))).set _ _ (.inl (.inr (.inl rfl)))).set _ _ (.inl (.inr (.inr rfl)))).alloc _ (by simp [World.setCell]; omega))
  have k2 : KpB (fun k => k = w.heap.size + 1 + 1 ∨ k = w.heap.size + 1 + 1 + 1 ∨ k = w.heap.size + 1 + 1 + 1 + 1) D X X6 := k1.trans (hk6.mono (by omega) (fun k hk hs => by omega))
  refine ⟨k2, hbX.trans (k2.belowOf (by omega) (fun k hs => by omega)), ?_⟩
  exact ((((hs5.setB _).setM _).setE _).alloc _).kp hk6 (by omega) (fun k hs => .inr (by omega))
theorem stepB_lt {f : List Int → Int} {b p : List Int} {m : Int} (h : f p < m) : stepB f (some (b, m)) p = some (p, f p) := if_pos h
theorem stepB_ge {f : List Int → Int} {b p : List Int} {m : Int} (h : ¬ f p < m) : stepB f (some (b, m)) p = some (b, m) := if_neg h
theorem ChSt.drew {W : World} {s : Nat} {L : HL} {h : House} {gv best : Value} {m e : Int} (H : ChSt W s L h gv best m e) : ChSt W.drew s L h gv best m e := ⟨H.b0, H.b1, H.b2, H.b3, H.b4⟩
/-- choose's end: what stood in its results is stored once more. -/
theorem choose_end {w X : World} {L : HL} {h : House} {gv best : Value} {m e : Int} {D : Nat} (hs : ChSt X w.heap.size L h gv best m e) (hbX : Below w.heap.size w X) (hD : w.heap.size + 5 ≤ D) :
    Below w.heap.size w (((((X.setCell ⟨w.heap.size + 1 + 1, 0, none⟩ best).setCell ⟨w.heap.size + 1 + 1 + 1, 0, none⟩ (.int .i64 m)).setCell ⟨w.heap.size + 1 + 1 + 1 + 1, 0, none⟩ (.int .i64 e)).drew).putObj D (.deferred none)) ∧
    ChSt (((((X.setCell ⟨w.heap.size + 1 + 1, 0, none⟩ best).setCell ⟨w.heap.size + 1 + 1 + 1, 0, none⟩ (.int .i64 m)).setCell ⟨w.heap.size + 1 + 1 + 1 + 1, 0, none⟩ (.int .i64 e)).drew).putObj D (.deferred none)) w.heap.size L h gv best m e ∧
    (((((X.setCell ⟨w.heap.size + 1 + 1, 0, none⟩ best).setCell ⟨w.heap.size + 1 + 1 + 1, 0, none⟩ (.int .i64 m)).setCell ⟨w.heap.size + 1 + 1 + 1 + 1, 0, none⟩ (.int .i64 e)).drew).putObj D (.deferred none)) =
      (X.drew).putObj D (.deferred none) := by
  rw [set_same hs.b2.cell, set_same hs.b3.cell, set_same hs.b4.cell]
  refine ⟨hbX.drew.trans (KpB.belowOf (S := fun k => k = D) ((KpB.refl _ _ _).put _ _ (.inl rfl)) hbX.drew.size (fun k hk => by omega)), hs.drew.kp (S := fun k => k = D) ((KpB.refl _ _ _).put _ _ (.inl rfl)) hs.lt (fun k hk => .inr (by omega)), rfl⟩
theorem HouseAt.keep2 {w W : World} {L : HL} {h : House} (_ : HouseAt W W.heap.size L h) (hb : Below w.heap.size w W) (hh : HouseAt w w.heap.size L h) : HouseAt W w.heap.size L h :=
  hh.keep (Nat.le_refl _) fun b o hlt => hb.cell (p := ⟨b, o, none⟩) hlt
set_option maxRecDepth 100000 in
set_option maxHeartbeats 4000000 in
theorem choose_yes (gf : Nat) (lb : Array Value) (eg : ∀ args w, (callFunc gf args).run Try.prog w = .ok (.enter gf args) w) (f : List Cask → Int) (L : HL) (h : House) (hvh : validH h = true) (w : World) (hH : HouseAt w w.heap.size L h)
    (hof : ∀ l W, l.length = 5 → (∀ (j : Nat) (c : Cask), l[j]? = some c → c.ok) → Below w.heap.size w W → Calls Try.prog gf (#[encCs l] ++ lb) W fun e w' => e = .returned (.int .i64 (f l)) ∧ Below W.heap.size W w') :
    Calls Try.prog 85 #[L.enc h, .bool true, .func (.func gf) #[] lb] w fun e w' => ChooseRet h true f w.heap.size w' e ∧ Below w.heap.size w w' := by
  have hv := HOK.ofValid hvh
  have hst := ChSt.new w L h (.func (.func gf) #[] lb)
  have hbw := below5 w (.cells #[.slice L.Ak h.ks.length L.ck, .int .i64 h.fl, .slice L.Ap h.ps.length L.cp, .slice L.Ab h.bs.length L.cb] 26) (.cells #[.func (.func gf) #[] lb] 94) (.cells #[.slice none 0 0] 24) (.cells #[.int .i64 0] 3) (.cells #[.int .i64 0] 30)
  have HBW := Lib.hid hbw
  clear hbw
  have hk : ckH h = 0 := ckH_yes hvh
  have HVH := Lib.hid hvh
  have HV := Lib.hid hv
  have HOF := Lib.hid hof
  have HC := Lib.hid (fun W (hW : Below w.heap.size w W) => check_any L h (by have := hv.kl; have := hv.pl; have := hv.bl; omega) W (hH.below hW))
  have HH := Lib.hid hH
  clear hv hvh hof hH
  refine (callsIn_wide (n := 10)).1 ?_
  refine callsIn_of_wp_marks Try.func85 rfl trivial ?_ rfl
  simp only [Try.ntmps85, List.size_toArray, List.length_cons, List.length_nil, Nat.reduceAdd, Nat.reduceSub, Array.replicate_succ, Array.replicate_zero, List.push_toArray, List.append_toArray, List.nil_append, List.cons_append]
  gi_wp2_with (first
    | (refine ⟨trivial, ?_⟩; gi_at_call 28; refine (callsIn_wide.2 (HC.out _ HBW.out)).mono ?_; rintro e w1 ⟨rfl, hb1⟩; have hs1 := hst.below hb1; have hc2 := hs1.b2.cell; have hc3 := hs1.b3.cell; have hc4 := hs1.b4.cell; have hf2 := hs1.b2.frozen; have hf3 := hs1.b3.frozen; have hf4 := hs1.b4.frozen; obtain ⟨g0, g1, g2, g3⟩ := hs1.b0.cells)
    | (refine ⟨trivial, ?_⟩; gi_at_call 73; refine (callsIn_wide.2 (packings_any L h _)).mono ?_; rintro e w2 ⟨rfl, rfl⟩))
  have HW1 := Lib.hid hb1
  have hst2 := (hs1.setE 3).alloc (.cells #[.slice L.Ak h.ks.length L.ck, .int .i64 h.fl, .slice L.Ap h.ps.length L.cp, .slice L.Ab h.bs.length L.cb] 26)
  have hX1 := HBox.new (w1.setCell ⟨w.heap.size + 1 + 1 + 1 + 1, 0, none⟩ (.int .i64 3)) L h
  have hbW : Below w.heap.size w ((w1.setCell ⟨w.heap.size + 1 + 1 + 1 + 1, 0, none⟩ (.int .i64 3)).alloc (.cells #[.slice L.Ak h.ks.length L.ck, .int .i64 h.fl, .slice L.Ap h.ps.length L.cp, .slice L.Ab h.bs.length L.cb] 26)) :=
    ((HBW.out.trans (hb1.mono HBW.out.size)).setCell (by simp; omega) _).alloc (by have := hb1.size; have := HBW.out.size; simp [World.setCell]; omega) _
  have hz0 : (w1.setCell ⟨w.heap.size + 1 + 1 + 1 + 1, 0, none⟩ (.int .i64 3)).heap.size = w1.heap.size := by simp [World.setCell]
  rw [hz0] at hX1
  clear hz0
  obtain ⟨W1, hW1⟩ : ∃ W1, (w1.setCell ⟨w.heap.size + 1 + 1 + 1 + 1, 0, none⟩ (.int .i64 3)).alloc (.cells #[.slice L.Ak h.ks.length L.ck, .int .i64 h.fl, .slice L.Ap h.ps.length L.cp, .slice L.Ab h.bs.length L.cb] 26) = W1 := ⟨_, rfl⟩
  rw [hW1] at hst2 hX1 hbW ⊢
  have hlt1 := hs1.lt
  clear hW1 hst hs1 hc2 hc3 hc4 hf2 hf3 hf4 g0 g1 g2 g3 hb1 HW1
  have hl1 := hst2.lt
  have hxl := hX1.lt
  refine wpIn_rangeFunc_sees (S := fun k => k = w.heap.size + 1 + 1 ∨ k = w.heap.size + 1 + 1 + 1 ∨ k = w.heap.size + 1 + 1 + 1 + 1) (Sees := SeesP h) (fb := #[]) (lb := #[.pointer (some ⟨w1.heap.size, 0, none⟩)]) (xs := packsL h) (w0 := W1) rfl (by omega) rfl trivial (fun _ _ => rfl)
    (packs_sees 9 (by omega) L h HV.out w.heap.size w1.heap.size W1 (by omega) ((HH.out.below hbW).keep2 hbW HH.out) hX1 _ (fun k hk => by omega) (by omega)) (Below.refl _ _) (fun k hk => by omega)
    (fun B x args X hs => by obtain ⟨pb, -, rfl, -⟩ := hs; rfl) (fun B x args X Y _ hs hk => hs.kept hk)
    (fun D pre X => ChI w L h (.func (.func gf) #[] lb) f D pre X)
    (fun c D pre X => False)
    ?hI ?hIx ?h0 (fun x args a' X => ∃ b4, W1.heap.size + 2 ≤ b4 ∧ CasksAt X b4 (packedC h x) ∧ a' = { tmps := #[L.enc h, .bool true, .func (.func gf) #[] lb, .pointer (some ⟨w.heap.size, 0, none⟩), undef, .pointer (some ⟨w.heap.size + 1, 0, none⟩), .pointer (some ⟨w.heap.size + 1 + 1, 0, none⟩), .pointer (some ⟨w.heap.size + 1 + 1 + 1, 0, none⟩), .pointer (some ⟨w.heap.size + 1 + 1 + 1 + 1, 0, none⟩), .int .i64 0, args.getD 0 undef, .pointer (some ⟨b4, 0, none⟩), undef, L.enc h, .int .i64 0, .int .i64 0, .bool false, undef, .bool true, .bool false, L.enc h, .func (.func 96) #[] #[.pointer (some ⟨w1.heap.size, 0, none⟩)], args.getD 0 undef, args.getD 1 undef, undef, undef, undef, undef, undef, undef, undef, undef, undef, undef, undef, undef, undef, undef, undef, undef, undef, undef, undef, undef], defers := [] }) ?hAx ?hassign ?hbody ?hdone ?hstop
  case hI =>
    rintro D s X Y hD hX ⟨hb, best, m, e, h1, h2⟩ hk
    exact ⟨hb.trans (hk.belowOf (by have := hb.size; omega) (fun k hs => by have := hs.1; omega)), best, m, e, h1.kp hk (by omega) (fun k hs => .inr (by have := hs.1; omega)), h2.kp hk (fun k hs => hs.2)⟩
  case hIx => exact fun _ _ _ _ _ _ _ h _ => h.elim
  case h0 =>
    intro D X hD hX hb
    exact ⟨hbW.trans (hb.mono (by omega)), _, _, _, hst2.below hb, rfl, rfl, rfl⟩
  case hAx =>
    rintro x args a' X Y hz ⟨b4, h1, h2, h3⟩ hk
    exact ⟨b4, h1, (hk.block _ (Array.getElem?_eq_some_iff.1 h2).1 (fun hs => by have hs' : b4 < W1.heap.size + 2 := hs; omega)).trans h2, h3⟩
  case hassign =>
    intro l' x args X K hz hs hK
    obtain ⟨pb, -, rfl, -⟩ := hs
    have hK' := hK _ (X.alloc (.cells (flatC (packedC h x)).toArray 81)) (.inr ⟨_, rfl⟩) ⟨X.heap.size, by omega, World.alloc_heap_new X _, rfl⟩
    clear hK
    simp only [List.zip_toArray, List.zip_cons_cons, List.zip_nil_right, List.foldl_toArray, List.foldl_cons, List.foldl_nil, List.setIfInBounds_toArray, List.set_cons_succ, List.set_cons_zero]
    have hl5 : (packedC h x).length = 5 := casksTo_len _ _ _
    gi_wp2_with (refine wplIn_store81 rfl (.tmp 11) (.tmp 23) rfl rfl (packedC h x) hl5 rfl ?_)
    exact hK'
  case hbody =>
    rintro l' D pre x args a' X hD hX hpre ⟨hbX, best, m, e, hs, hB⟩ hsee ⟨b4, hb4, hC4, rfl⟩
    obtain ⟨pb, hpb, rfl, hpk⟩ := hsee
    have hxm := mem_packsL (hpre.subset (List.mem_append_right _ (List.mem_singleton.2 rfl)))
    have HXM := Lib.hid hxm
    clear hxm
    have hl5 : (packedC h x).length = 5 := casksTo_len _ _ _
    have hok : ∀ (j : Nat) (c : Cask), (packedC h x)[j]? = some c → c.ok := fun j c hc => (casksTo_upto HV.out x _ (Nat.le_refl _) j c hc).ok (by have := HV.out.pl; omega)
    have hx6 : x.length ≤ 6 := by have := HXM.out.1; have := HV.out.pl; omega
    have hcall := HOF.out (packedC h x) X hl5 hok hbX
    have HCALL := Lib.hid hcall
    clear hcall hok
    have hg1 := hs.b1.cell
    cases hbo : bestOf (fun p => f (packedC h p)) pre with
    | none =>
      rw [hbo] at hB
      obtain ⟨rfl, rfl, rfl⟩ := hB
      have HBO := Lib.hid hbo
      clear hbo
      gi_wp2_with (first
        | (refine wplIn_load81 rfl (.tmp 11) rfl b4 rfl (packedC h x) hl5 hC4 ?_)
        | (refine ⟨trivial, ?_⟩; refine (CallsIn.mono (CallsIn.inRound l' (callsIn_wide.2 HCALL.out)) ?_); rintro e W5 ⟨rfl, hb5⟩; have hs5 := hs.below hb5; have hc2 := hs5.b2.cell; have hc3 := hs5.b3.cell; have hc4 := hs5.b4.cell; have hf2 := hs5.b2.frozen; have hf3 := hs5.b3.frozen; have hf4 := hs5.b4.frozen; have hp5 := hpk.below hb5; have hz5 := hs5.lt; have hl2 : w.heap.size + 1 + 1 < W5.heap.size := (by omega); have hl3 : w.heap.size + 1 + 1 + 1 < W5.heap.size := (by omega); have hl4 : w.heap.size + 1 + 1 + 1 + 1 < W5.heap.size := (by omega); have hn2 : ¬ w.heap.size + 1 + 1 = W5.heap.size := (by omega); have hn3 : ¬ w.heap.size + 1 + 1 + 1 = W5.heap.size := (by omega); have hn4 : ¬ w.heap.size + 1 + 1 + 1 + 1 = W5.heap.size := (by omega))
        | (refine wplIn_make24 rfl (.tmp 35) rfl x.length rfl (by omega) ?_)
        | (refine wplIn_copyP rfl (.tmp 38) (.tmp 39) rfl W5.heap.size pb x.length rfl rfl x (List.replicate x.length 0) rfl List.length_replicate ?_ ?_ ?_; exact (chW_packs (v := f (packedC h x)) hz5 (by omega) hp5).1; exact (chW_packs (v := f (packedC h x)) hz5 (by omega) hp5).2; intro X6 hp6 hk6))
      obtain ⟨q1, q2, q3⟩ := choose_close hs5 hbX hb5 hX (by omega) hk6
      refine ⟨q1, q2, _, _, _, q3, ?_⟩
      show ChB D X6 _ _ _ (bestOf (fun p => f (packedC h p)) (pre ++ [x]))
      rw [bestOf_snoc, HBO.out]
      exact ⟨rfl, rfl, W5.heap.size, by have := hb5.size; omega, rfl, hp6.out⟩
    | some bm =>
      obtain ⟨b, mb⟩ := bm
      rw [hbo] at hB
      obtain ⟨rfl, rfl, hB⟩ := hB
      have HBO := Lib.hid hbo
      have HBB := Lib.hid hB
      clear hbo hB
      by_cases hlt : f (packedC h x) < m
      · have hdl : decide (f (packedC h x) < m) = true := by simpa using hlt
        gi_wp2_with (first
          | (refine wplIn_load81 rfl (.tmp 11) rfl b4 rfl (packedC h x) hl5 hC4 ?_)
          | (refine ⟨trivial, ?_⟩; refine (CallsIn.mono (CallsIn.inRound l' (callsIn_wide.2 HCALL.out)) ?_); rintro e W5 ⟨rfl, hb5⟩; have hs5 := hs.below hb5; have hc2 := hs5.b2.cell; have hc3 := hs5.b3.cell; have hc4 := hs5.b4.cell; have hf2 := hs5.b2.frozen; have hf3 := hs5.b3.frozen; have hf4 := hs5.b4.frozen; have hp5 := hpk.below hb5; have hz5 := hs5.lt; have hl2 : w.heap.size + 1 + 1 < W5.heap.size := (by omega); have hl3 : w.heap.size + 1 + 1 + 1 < W5.heap.size := (by omega); have hl4 : w.heap.size + 1 + 1 + 1 + 1 < W5.heap.size := (by omega); have hn2 : ¬ w.heap.size + 1 + 1 = W5.heap.size := (by omega); have hn3 : ¬ w.heap.size + 1 + 1 + 1 = W5.heap.size := (by omega); have hn4 : ¬ w.heap.size + 1 + 1 + 1 + 1 = W5.heap.size := (by omega))
          | (refine wplIn_make24 rfl (.tmp 35) rfl x.length rfl (by omega) ?_)
          | (refine wplIn_copyP rfl (.tmp 38) (.tmp 39) rfl W5.heap.size pb x.length rfl rfl x (List.replicate x.length 0) rfl List.length_replicate ?_ ?_ ?_; exact (chW_packs (v := f (packedC h x)) hz5 (by omega) hp5).1; exact (chW_packs (v := f (packedC h x)) hz5 (by omega) hp5).2; intro X6 hp6 hk6))
        obtain ⟨q1, q2, q3⟩ := choose_close hs5 hbX hb5 hX (by omega) hk6
        refine ⟨q1, q2, _, _, _, q3, ?_⟩
        show ChB D X6 _ _ _ (bestOf (fun p => f (packedC h p)) (pre ++ [x]))
        rw [bestOf_snoc, HBO.out, stepB_lt (f := fun p => f (packedC h p)) hlt]
        exact ⟨rfl, rfl, W5.heap.size, by have := hb5.size; omega, rfl, hp6.out⟩
      · have hdl : decide (f (packedC h x) < m) = false := by simpa using hlt
        gi_wp2_with (first
          | (refine wplIn_load81 rfl (.tmp 11) rfl b4 rfl (packedC h x) hl5 hC4 ?_)
          | (refine ⟨trivial, ?_⟩; refine (CallsIn.mono (CallsIn.inRound l' (callsIn_wide.2 HCALL.out)) ?_); rintro e W5 ⟨rfl, hb5⟩; have hs5 := hs.below hb5; have hc2 := hs5.b2.cell; have hc3 := hs5.b3.cell; have hc4 := hs5.b4.cell; have hf2 := hs5.b2.frozen; have hf3 := hs5.b3.frozen; have hf4 := hs5.b4.frozen; have hp5 := hpk.below hb5; have hz5 := hs5.lt; have hl2 : w.heap.size + 1 + 1 < W5.heap.size := (by omega); have hl3 : w.heap.size + 1 + 1 + 1 < W5.heap.size := (by omega); have hl4 : w.heap.size + 1 + 1 + 1 + 1 < W5.heap.size := (by omega); have hn2 : ¬ w.heap.size + 1 + 1 = W5.heap.size := (by omega); have hn3 : ¬ w.heap.size + 1 + 1 + 1 = W5.heap.size := (by omega); have hn4 : ¬ w.heap.size + 1 + 1 + 1 + 1 = W5.heap.size := (by omega)))
        have kX5 : KpB (fun k => k = w.heap.size + 1 + 1 ∨ k = w.heap.size + 1 + 1 + 1 ∨ k = w.heap.size + 1 + 1 + 1 + 1) D X W5 := kpB_of_below (hb5.mono hX)
        refine ⟨kX5, hbX.trans (hb5.mono (by omega)), _, _, _, hs5, ?_⟩
        show ChB D W5 _ _ _ (bestOf (fun p => f (packedC h p)) (pre ++ [x]))
        rw [bestOf_snoc, HBO.out, stepB_ge (f := fun p => f (packedC h p)) (show ¬ f (packedC h x) < m by omega)]
        have hBB : ChB D X best m 0 (some (b, m)) := ⟨rfl, rfl, HBB.out⟩
        exact hBB.kp (kpB_of_below hb5 (S := fun _ => False)) (fun _ h => h.elim)
  case hdone =>
    rintro D X hD hX ⟨hbX, best, m, e, hs, hB⟩ hk
    have HK := Lib.hid hk
    clear hk
    have hc2 := hs.b2.cell
    have hc3 := hs.b3.cell
    have hc4 := hs.b4.cell
    have hf2 := hs.b2.frozen
    have hf3 := hs.b3.frozen
    have hf4 := hs.b4.frozen
    cases hbo : bestOf (fun p => f (packedC h p)) (packsL h) with
    | none =>
      rw [hbo] at hB
      obtain ⟨rfl, rfl, rfl⟩ := hB
      have HBO := Lib.hid hbo
      clear hbo
      gi_wp2
      refine wpIn_wide.2 ?_
      go_region
      gi_wp2
      obtain ⟨e1, e2, e3⟩ := choose_end hs hbX (D := W1.heap.size) (by omega)
      refine ⟨by simp, .inl ⟨_, _, rfl, run_takeDeferred (by rw [set_same hc2, set_same hc3, set_same hc4]; exact HK.out), ?_⟩⟩
      refine ⟨_, results85_of e2 rfl rfl rfl, ?_, e1⟩
      unfold ChooseRet
      rw [if_neg (by rw [HVH.out]; decide), if_neg (by decide), HBO.out]
    | some bm =>
      obtain ⟨b, mb⟩ := bm
      rw [hbo] at hB
      obtain ⟨rfl, rfl, pb, hpb, rfl, hpk⟩ := hB
      have HBO := Lib.hid hbo
      clear hbo
      gi_wp2
      refine wpIn_wide.2 ?_
      go_region
      gi_wp2
      obtain ⟨e1, e2, e3⟩ := choose_end hs hbX (D := W1.heap.size) (by omega)
      refine ⟨by simp, .inl ⟨_, _, rfl, run_takeDeferred (by rw [set_same hc2, set_same hc3, set_same hc4]; exact HK.out), ?_⟩⟩
      refine ⟨_, results85_of e2 rfl rfl rfl, ?_, e1⟩
      unfold ChooseRet
      rw [if_neg (by rw [HVH.out]; decide), if_neg (by decide), HBO.out]
      refine ⟨pb, rfl, ?_, by omega⟩
      rw [e3]
      exact (World.putObj_heap_other (by omega)).trans hpk
  case hstop => exact fun _ _ _ _ _ _ _ h => h.elim
end Go.Proofs.Ytgemmmdcpbajoaa
namespace Go.Proofs.Ytgemmmdcpbajoaa
open Go.RowKit

set_option maxRecDepth 100000 in
set_option maxHeartbeats 4000000 in
theorem least1_any (L : HL) (h : House) (hf : 0 ≤ h.fl ∧ h.fl ≤ 9) (b : Nat) (l : List Cask) (hl : l.length = 5) (hok : ∀ (j : Nat) (c : Cask), l[j]? = some c → c.ok) (w : World) (hX : HBox w b L h) :
    Calls Try.prog 86 #[encCs l, .pointer (some ⟨b, 0, none⟩)] w fun e w' => e = .returned (.int .i64 (sumC (saltC h.fl) l 5)) ∧ Below w.heap.size w w' := by
  obtain ⟨g0, g1, g2, g3⟩ := hX.cells
  have hbl := hX.lt
  have hC0 : CasksAt (w.alloc (.cells (flatC l).toArray 81)) w.heap.size l := World.alloc_heap_new w _
  have HC := Lib.hid hC0
  have HO := Lib.hid hok
  clear hok hX hC0
  obtain ⟨fc, hfc⟩ : ∃ fc, fc = flatC l := ⟨_, rfl⟩
  have henc : encCs l = .agg fc.toArray := by rw [hfc]; rfl
  rw [← hfc] at HC
  rw [henc]
  have HE := Lib.hid henc
  clear hfc henc
  go_enter Try.func86, Try.ntmps86
  go_wp2_with (first
    | (refine wpl_load81 rfl (.tmp 2) rfl w.heap.size rfl l hl HC.out ?_)
    | (go_at_call 68; refine (saltAll_any L h hf l hl HO.out _).mono ?_; rintro e w' ⟨rfl, hb⟩))
  go_ret
  exact ⟨rfl, (((Below.refl _ _).alloc (Nat.le_refl _) _).trans (hb.mono (by simp)))⟩
theorem pack1_any (L : HL) (h : House) (hf : 0 ≤ h.fl ∧ h.fl ≤ 9) (b : Nat) (l : List Cask) (hl : l.length = 5) (hok : ∀ (j : Nat) (c : Cask), l[j]? = some c → c.ok) (w : World) (hX : HBox w b L h) :
    Calls Try.prog 87 #[encCs l, .pointer (some ⟨b, 0, none⟩)] w fun e w' => e = .returned (.int .i64 (sumC (saltC h.fl) l 5)) ∧ Below w.heap.size w w' := by
  obtain ⟨g0, g1, g2, g3⟩ := hX.cells
  have hbl := hX.lt
  have hC0 : CasksAt (w.alloc (.cells (flatC l).toArray 81)) w.heap.size l := World.alloc_heap_new w _
  have HC := Lib.hid hC0
  have HO := Lib.hid hok
  clear hok hX hC0
  obtain ⟨fc, hfc⟩ : ∃ fc, fc = flatC l := ⟨_, rfl⟩
  have henc : encCs l = .agg fc.toArray := by rw [hfc]; rfl
  rw [← hfc] at HC
  rw [henc]
  have HE := Lib.hid henc
  clear hfc henc
  go_enter Try.func87, Try.ntmps87
  go_wp2_with (first
    | (refine wpl_load81 rfl (.tmp 2) rfl w.heap.size rfl l hl HC.out ?_)
    | (go_at_call 68; refine (saltAll_any L h hf l hl HO.out _).mono ?_; rintro e w' ⟨rfl, hb⟩))
  go_ret
  exact ⟨rfl, (((Below.refl _ _).alloc (Nat.le_refl _) _).trans (hb.mono (by simp)))⟩
/-- Early's number of a cask. -/
def lateC (day : Int) (c : Cask) : Int := if c.d ≤ day then -c.p else 0
theorem lateC_bd {day : Int} {c : Cask} (hc : c.ok) : -10000 ≤ lateC day c ∧ lateC day c ≤ 0 := by
  have h0 := hc.p0
  have h1 := hc.p1
  unfold lateC; split <;> omega
theorem sumC_bd2 {f : Cask → Int} {l : List Cask} (h : ∀ j, j < l.length → -10000 ≤ f (caskOf l j) ∧ f (caskOf l j) ≤ 0) : ∀ k, k ≤ l.length → -10000 * (k : Int) ≤ sumC f l k ∧ sumC f l k ≤ 0
  | 0, _ => by simp [sumC]
  | k + 1, hk => by
    have := sumC_bd2 h k (by omega)
    have := h k (by omega)
    unfold sumC
    omega
set_option maxRecDepth 100000 in
set_option maxHeartbeats 4000000 in
theorem early1_any (day : Int) (b : Nat) (l : List Cask) (hl : l.length = 5) (hok : ∀ (j : Nat) (c : Cask), l[j]? = some c → c.ok) (w : World) (hX : w.cell? ⟨b, 0, none⟩ = some (.int .i64 day)) :
    Calls Try.prog 90 #[encCs l, .pointer (some ⟨b, 0, none⟩)] w fun e w' => e = .returned (.int .i64 (sumC (lateC day) l 5)) ∧ Below w.heap.size w w' := by
  have HB := Lib.hid (sumC_bd2 (f := lateC day) (l := l) fun j hj => lateC_bd (hok j _ (at_caskOf hj)))
  have HO := Lib.hid hok
  have hbl := cell_lt hX
  clear hok
  obtain ⟨fc, hfc⟩ : ∃ fc, fc = flatC l := ⟨_, rfl⟩
  have HF := Lib.hid hfc
  have henc : encCs l = .agg fc.toArray := by rw [hfc]; rfl
  have hC0 : CasksAt (w.alloc (.cells fc.toArray 81)) w.heap.size l := by rw [hfc]; exact World.alloc_heap_new w _
  rw [henc]
  have HE := Lib.hid henc
  clear hfc henc
  go_enter Try.func90, Try.ntmps90
  go_wp2_with (refine wpl_load81 rfl (.tmp 2) rfl w.heap.size rfl l hl hC0 ?_)
  go_loopw [4, 8] (fun s i wr => ∃ k : Nat, k ≤ 5 ∧ i = .int .i64 k ∧ s = .int .i64 (sumC (lateC day) l k) ∧ Below w.heap.size w wr) (fun _ i _ => 5 - (intOf i).toNat)
  case atStart => exact ⟨0, by omega, rfl, rfl, (Below.refl _ _).alloc (Nat.le_refl _) _⟩
  case round =>
    obtain ⟨k, hk, rfl, rfl, hb⟩ := hrel
    by_cases hlt : k < 5
    · have hix := index81 hl hlt
      have hbd := HB.out k (by omega)
      have hkl : k < l.length := by omega
      have hcok := HO.out k _ (at_caskOf hkl)
      have hp0 := hcok.p0
      have hp1 := hcok.p1
      have hsz := hb.size
      have hx2 := below_cell hb hX
      have hb1 : b < wr.heap.size := cell_lt hx2
      have hb2 : ¬ b = wr.heap.size := by omega
      by_cases hd : (caskOf l k).d ≤ day
      · have hdd : decide ((caskOf l k).d ≤ day) = true := by simpa using hd
        have hs : Hid (sumC (lateC day) l (k + 1) = sumC (lateC day) l k - (caskOf l k).p) := Lib.hid (by rw [sumC, lateC, if_pos hd]; omega)
        go_wp2
        go_roundw
        case rel => exact ⟨k + 1, by omega, by go_num, by rw [hs.out], hb.alloc hsz _⟩
        case measure => simp [intOf]; omega
      · have hdd : decide ((caskOf l k).d ≤ day) = false := by simpa using hd
        have hs : Hid (sumC (lateC day) l (k + 1) = sumC (lateC day) l k) := Lib.hid (by rw [sumC, lateC, if_neg hd]; omega)
        go_wp2
        go_roundw
        case rel => exact ⟨k + 1, by omega, by go_num, by rw [hs.out], hb.alloc hsz _⟩
        case measure => simp [intOf]; omega
    · obtain rfl : k = 5 := by omega
      go_wp2
      go_ret
      exact ⟨rfl, hb⟩
theorem choose_any (gf : Nat) (lb : Array Value) (eg : ∀ args w, (callFunc gf args).run Try.prog w = .ok (.enter gf args) w) (f : List Cask → Int) (L : HL) (h : House) (hn : h.ks.length ≤ 1000 ∧ h.ps.length ≤ 1000 ∧ h.bs.length ≤ 1000) (is : Bool) (w : World) (hH : HouseAt w w.heap.size L h)
    (hof : validH h = true → ∀ l W, l.length = 5 → (∀ (j : Nat) (c : Cask), l[j]? = some c → c.ok) → Below w.heap.size w W → Calls Try.prog gf (#[encCs l] ++ lb) W fun e w' => e = .returned (.int .i64 (f l)) ∧ Below W.heap.size W w') :
    Calls Try.prog 85 #[L.enc h, .bool is, .func (.func gf) #[] lb] w fun e w' => ChooseRet h is f w.heap.size w' e ∧ Below w.heap.size w w' := by
  cases hv : validH h
  · exact choose_no gf lb f L h hn is (.inl hv) w hH
  · cases is
    · exact choose_no gf lb f L h hn false (.inr rfl) w hH
    · exact choose_yes gf lb eg f L h hv w hH (hof hv)

/-- What is returned of a packing's number: the number alone, or the packing alone. -/
def numRet (h : House) (is : Bool) (f : List Cask → Int) : Int × Int :=
  if validH h = false then (0, 80) else if is = false then (0, 1) else match bestOf (fun p => f (packedC h p)) (packsL h) with
    | none => (0, 3)
    | some (_, m) => (m, 0)
theorem chooseRet_split {h : House} {is : Bool} {f : List Cask → Int} {B : Nat} {w' : World} {e : Ending} (hc : ChooseRet h is f B w' e) : ∃ best, e = .returned (.tuple #[best, .int .i64 (numRet h is f).1, .int .i64 (numRet h is f).2]) ∧
    ((∃ A n c, best = .slice A n c) ∧ ((numRet h is f).2 ≠ 0 → best = .slice none 0 0)) ∧ ∀ p m, validH h = true → is = true → bestOf (fun p => f (packedC h p)) (packsL h) = some (p, m) → ∃ pb, best = .slice (some ⟨pb, 0, none⟩) p.length p.length ∧ PackAt w' pb p ∧ B ≤ pb := by
  unfold ChooseRet at hc
  unfold numRet
  split at hc
  · rename_i hv
    exact ⟨_, by rw [if_pos hv]; exact hc, ⟨⟨_, _, _, rfl⟩, fun _ => rfl⟩, fun p m h1 => by rw [h1] at hv; cases hv⟩
  · rename_i hv
    rw [if_neg hv]
    split at hc
    · rename_i hi
      exact ⟨_, by rw [if_pos hi]; exact hc, ⟨⟨_, _, _, rfl⟩, fun _ => rfl⟩, fun p m _ h1 => by rw [h1] at hi; cases hi⟩
    · rename_i hi
      rw [if_neg hi]
      cases hb : bestOf (fun p => f (packedC h p)) (packsL h) with
      | none =>
        rw [hb] at hc
        exact ⟨_, hc, ⟨⟨_, _, _, rfl⟩, fun _ => rfl⟩, fun p m _ _ h1 => by cases h1⟩
      | some bm =>
        obtain ⟨p, m⟩ := bm
        rw [hb] at hc
        obtain ⟨pb, h1, h2, h3⟩ := hc
        exact ⟨_, h1, ⟨⟨_, _, _, rfl⟩, fun hh => (hh rfl).elim⟩, fun p' m' _ _ h4 => by cases h4; exact ⟨pb, rfl, h2, h3⟩⟩
set_option maxRecDepth 100000 in
set_option maxHeartbeats 4000000 in
theorem least_any (L : HL) (h : House) (hn : h.ks.length ≤ 1000 ∧ h.ps.length ≤ 1000 ∧ h.bs.length ≤ 1000) (w : World) (hH : HouseAt w w.heap.size L h) :
    Calls Try.prog 36 #[L.enc h] w fun e w' => e = .returned (.tuple #[.int .i64 (numRet h true fun l => sumC (saltC h.fl) l 5).1, .int .i64 (numRet h true fun l => sumC (saltC h.fl) l 5).2]) ∧ Below w.heap.size w w' := by
  have hX := HBox.new w L h
  have hb0 : Below w.heap.size w (w.alloc (.cells #[.slice L.Ak h.ks.length L.ck, .int .i64 h.fl, .slice L.Ap h.ps.length L.cp, .slice L.Ab h.bs.length L.cb] 26)) := (Below.refl _ _).alloc (Nat.le_refl _) _
  have HC := Lib.hid (choose_any 86 #[.pointer (some ⟨w.heap.size, 0, none⟩)] (fun _ _ => rfl) (fun l => sumC (saltC h.fl) l 5) L h hn true _ (hH.below hb0) (fun hv l W hl hok hb => least1_any L h ⟨(HOK.ofValid hv).f0, (HOK.ofValid hv).f1⟩ w.heap.size l hl hok W (hX.of (hb.block _ hX.lt))))
  have HB0 := Lib.hid hb0
  clear hb0 hX hH
  go_enter Try.func36, Try.ntmps36
  go_wp2_with (go_at_call 85; refine HC.out.mono ?_; rintro e w1 ⟨hc, hb1⟩; obtain ⟨best, rfl, -, -⟩ := chooseRet_split hc)
  go_ret2
  exact ⟨rfl, HB0.out.trans (hb1.mono HB0.out.size)⟩
end Go.Proofs.Ytgemmmdcpbajoaa
namespace Go.Proofs.Ytgemmmdcpbajoaa
open Go.RowKit

theorem bestOf_none {f : List Int → Int} {l : List (List Int)} : bestOf f l = none ↔ l = [] := by
  refine snoc_ind (P := fun l => bestOf f l = none ↔ l = []) (by simp [bestOf]) (fun l x ih => ?_) l
  rw [bestOf_snoc]
  cases h : bestOf f l with
  | none => simp [stepB]
  | some bm =>
    obtain ⟨b, m⟩ := bm
    simp only [stepB]
    split <;> simp
/-- The first of the least ones. -/
theorem bestOf_some {f : List Int → Int} {l : List (List Int)} : ∀ {p : List Int} {m : Int}, bestOf f l = some (p, m) → m = f p ∧ p ∈ l ∧ (∀ q ∈ l, m ≤ f q) ∧ ∃ a b, l = a ++ p :: b ∧ ∀ q ∈ a, m < f q := by
  refine snoc_ind (P := fun l => ∀ {p : List Int} {m : Int}, bestOf f l = some (p, m) → m = f p ∧ p ∈ l ∧ (∀ q ∈ l, m ≤ f q) ∧ ∃ a b, l = a ++ p :: b ∧ ∀ q ∈ a, m < f q) ?_ ?_ l
  · intro p m h; simp [bestOf] at h
  · intro l x ih p m h
    rw [bestOf_snoc] at h
    cases hb : bestOf f l with
    | none =>
      rw [hb] at h
      have hl := bestOf_none.1 hb
      subst hl
      simp only [stepB, Option.some.injEq, Prod.mk.injEq] at h
      obtain ⟨rfl, rfl⟩ := h
      exact ⟨rfl, by simp, by simp, [], [], by simp, by simp⟩
    | some bm =>
      obtain ⟨b, mb⟩ := bm
      rw [hb] at h
      obtain ⟨h1, h2, h3, a, c, h4, h5⟩ := ih hb
      simp only [stepB] at h
      by_cases hlt : f x < mb
      · rw [if_pos hlt] at h
        simp only [Option.some.injEq, Prod.mk.injEq] at h
        obtain ⟨rfl, rfl⟩ := h
        refine ⟨rfl, by simp, fun q hq => ?_, l, [], by simp, fun q hq => ?_⟩
        · rcases List.mem_append.1 hq with hq | hq
          · have := h3 q hq; omega
          · have : q = x := by simpa using hq
            subst this; omega
        · have := h3 q hq; omega
      · rw [if_neg hlt] at h
        simp only [Option.some.injEq, Prod.mk.injEq] at h
        obtain ⟨rfl, rfl⟩ := h
        refine ⟨h1, by simp [h2], fun q hq => ?_, a, c ++ [x], by rw [h4]; simp, h5⟩
        rcases List.mem_append.1 hq with hq | hq
        · exact h3 q hq
        · have : q = x := by simpa using hq
          subst this; omega
theorem packedC_ok {h : House} (hv : HOK h) (p : List Int) : ∀ (j : Nat) (c : Cask), (packedC h p)[j]? = some c → c.ok := fun j c hc => (casksTo_upto hv p _ (Nat.le_refl _) j c hc).ok (by have := hv.pl; omega)
theorem packedC_len (h : House) (p : List Int) : (packedC h p).length = 5 := casksTo_len _ _ _
end Go.Proofs.Ytgemmmdcpbajoaa
namespace Go.Proofs.Ytgemmmdcpbajoaa
open Go.RowKit

theorem drew_below (w : World) : Below w.heap.size w w.drew := (Below.refl _ _).drew
theorem hb0to {w w1 w2 : World} (h : Below w.heap.size w w1) (k : Below w1.heap.size w1 w2) : Below w.heap.size w w2 := h.trans (k.mono h.size)
/-- What Pack returns. -/
def PackRet (h : House) (f : List Cask → Int) (B : Nat) (w' : World) (e : Ending) : Prop :=
  ∃ A n c, e = .returned (.tuple #[.slice A n c, .int .i64 (numRet h true f).2]) ∧ ((numRet h true f).2 ≠ 0 → A = none ∧ n = 0 ∧ c = 0) ∧
    ∀ p m, validH h = true → bestOf (fun p => f (packedC h p)) (packsL h) = some (p, m) → ∃ pb, A = some ⟨pb, 0, none⟩ ∧ n = p.length ∧ c = p.length ∧ PackAt w' pb p ∧ B ≤ pb
set_option maxRecDepth 100000 in
set_option maxHeartbeats 4000000 in
theorem pack_any (L : HL) (h : House) (hn : h.ks.length ≤ 1000 ∧ h.ps.length ≤ 1000 ∧ h.bs.length ≤ 1000) (w : World) (hH : HouseAt w w.heap.size L h) :
    Calls Try.prog 38 #[L.enc h] w fun e w' => PackRet h (fun l => sumC (saltC h.fl) l 5) w.heap.size w' e ∧ Below w.heap.size w w' := by
  have hX := HBox.new w L h
  have hb0 : Below w.heap.size w (w.alloc (.cells #[.slice L.Ak h.ks.length L.ck, .int .i64 h.fl, .slice L.Ap h.ps.length L.cp, .slice L.Ab h.bs.length L.cb] 26)) := (Below.refl _ _).alloc (Nat.le_refl _) _
  have HC := Lib.hid (choose_any 87 #[.pointer (some ⟨w.heap.size, 0, none⟩)] (fun _ _ => rfl) (fun l => sumC (saltC h.fl) l 5) L h hn true _ (hH.below hb0) (fun hv l W hl hok hb => pack1_any L h ⟨(HOK.ofValid hv).f0, (HOK.ofValid hv).f1⟩ w.heap.size l hl hok W (hX.of (hb.block _ hX.lt))))
  have HB0 := Lib.hid hb0
  clear hb0 hX hH
  go_enter Try.func38, Try.ntmps38
  go_wp2_with (go_at_call 85; refine HC.out.mono ?_; rintro e w1 ⟨hc, hb1⟩; obtain ⟨best, rfl, ⟨⟨A, n, c, rfl⟩, h2⟩, h3⟩ := chooseRet_split hc; have H2 := Lib.hid h2; have H3 := Lib.hid h3; clear h2 h3 hc)
  go_ret2
  refine ⟨⟨A, n, c, rfl, fun hh => by have := H2.out hh; cases this; exact ⟨rfl, rfl, rfl⟩, fun p m hv hb => ?_⟩, HB0.out.trans (hb1.mono HB0.out.size)⟩
  obtain ⟨pb, e, hp, hB⟩ := H3.out p m hv trivial hb
  cases e
  exact ⟨pb, rfl, rfl, rfl, hp, by simp at hB; omega⟩
set_option maxRecDepth 100000 in
set_option maxHeartbeats 4000000 in
theorem fewest_any (L : HL) (h : House) (hn : h.ks.length ≤ 1000 ∧ h.ps.length ≤ 1000 ∧ h.bs.length ≤ 1000) (w : World) (hH : HouseAt w w.heap.size L h) :
    Calls Try.prog 40 #[L.enc h] w fun e w' => e = .returned (.tuple #[.int .i64 (numRet h true fun l => sumC usedC l 5).1, .int .i64 (numRet h true fun l => sumC usedC l 5).2]) ∧ Below w.heap.size w w' := by
  have hb0 : Below w.heap.size w (w.alloc (.cells #[.slice L.Ak h.ks.length L.ck, .int .i64 h.fl, .slice L.Ap h.ps.length L.cp, .slice L.Ab h.bs.length L.cb] 26)) := (Below.refl _ _).alloc (Nat.le_refl _) _
  have HC := Lib.hid (choose_any 89 #[] (fun _ _ => rfl) (fun l => sumC usedC l 5) L h hn true _ (hH.below hb0) (fun hv l W hl hok hb => used_any l hl hok W))
  have HB0 := Lib.hid hb0
  clear hb0 hH
  go_enter Try.func40, Try.ntmps40
  go_wp2_with (go_at_call 85; refine HC.out.mono ?_; rintro e w1 ⟨hc, hb1⟩; obtain ⟨best, rfl, -, -⟩ := chooseRet_split hc)
  go_ret2
  exact ⟨rfl, HB0.out.trans (hb1.mono HB0.out.size)⟩
theorem numRet_late (h : House) (is : Bool) (day : Int) : -1000000 ≤ (numRet h is fun l => sumC (lateC day) l 5).1 ∧ (numRet h is fun l => sumC (lateC day) l 5).1 ≤ 0 := by
  unfold numRet
  split
  · simp
  · rename_i hv
    split
    · simp
    · split
      · simp
      · rename_i p m hb
        obtain ⟨rfl, -⟩ := bestOf_some hb
        have hv' : validH h = true := by simpa using hv
        have := sumC_bd2 (f := lateC day) (l := packedC h p) (fun j hj => lateC_bd (packedC_ok (HOK.ofValid hv') p j _ (at_caskOf hj))) 5 (by rw [packedC_len]; exact Nat.le_refl _)
        simp only
        omega
set_option maxRecDepth 100000 in
set_option maxHeartbeats 4000000 in
theorem early_any (day : Int) (L : HL) (h : House) (hn : h.ks.length ≤ 1000 ∧ h.ps.length ≤ 1000 ∧ h.bs.length ≤ 1000) (w : World) (hH : HouseAt w w.heap.size L h) :
    Calls Try.prog 45 #[L.enc h, .int .i64 day] w fun e w' => e = .returned (.tuple #[.int .i64 (-(numRet h (inR day 0 20) fun l => sumC (lateC day) l 5).1), .int .i64 (numRet h (inR day 0 20) fun l => sumC (lateC day) l 5).2]) ∧ Below w.heap.size w w' := by
  have hX := HBox.new w L h
  have hD := Boxed.new (w.alloc (.cells #[.slice L.Ak h.ks.length L.ck, .int .i64 h.fl, .slice L.Ap h.ps.length L.cp, .slice L.Ab h.bs.length L.cb] 26)) 3 (.int .i64 day)
  simp only [World.size_alloc] at hD
  have hb0 : Below w.heap.size w ((w.alloc (.cells #[.slice L.Ak h.ks.length L.ck, .int .i64 h.fl, .slice L.Ap h.ps.length L.cp, .slice L.Ab h.bs.length L.cb] 26)).alloc (.cells #[.int .i64 day] 3)) := ((Below.refl _ _).alloc (Nat.le_refl _) _).alloc (by simp) _
  obtain ⟨W1, hW1⟩ : ∃ W1, (w.alloc (.cells #[.slice L.Ak h.ks.length L.ck, .int .i64 h.fl, .slice L.Ap h.ps.length L.cp, .slice L.Ab h.bs.length L.cb] 26)).alloc (.cells #[.int .i64 day] 3) = W1 := ⟨_, rfl⟩
  have hX1 : HBox W1 w.heap.size L h := by rw [← hW1]; exact hX.of (Below.heap_alloc _ _ _ (by simp))
  rw [hW1] at hD hb0
  have HC := Lib.hid (fun W (hW : Below W1.heap.size W1 W) => choose_any 90 #[.pointer (some ⟨w.heap.size + 1, 0, none⟩)] (fun _ _ => rfl) (fun l => sumC (lateC day) l 5) L h hn (inR day 0 20) W ((hH.below hb0).below hW) (fun hv l W' hl hok hb => early1_any day (w.heap.size + 1) l hl hok W' (below_cell (hb0to hW hb) hD.cell)))
  have HB0 := Lib.hid hb0
  obtain ⟨g0, g1, g2, g3⟩ := hX1.cells
  have g4 := hD.cell
  have HW1 := Lib.hid hW1
  clear hb0 hX hH hD hX1 hW1
  have hnb : -1000000 ≤ (numRet h (inR day 0 20) fun l => sumC (lateC day) l 5).1 ∧ (numRet h (inR day 0 20) fun l => sumC (lateC day) l 5).1 ≤ 0 := numRet_late h _ day
  obtain ⟨n0, n1⟩ := hnb
  go_enter Try.func45, Try.ntmps45
  go_wp2
  rw [HW1.out]
  go_region_held3 (fun w' => w'.cell? ⟨w.heap.size, 0, none⟩ = some (.slice L.Ak h.ks.length L.ck) ∧ w'.cell? ⟨w.heap.size, 1, none⟩ = some (.int .i64 h.fl) ∧ w'.cell? ⟨w.heap.size, 2, none⟩ = some (.slice L.Ap h.ps.length L.cp) ∧ w'.cell? ⟨w.heap.size, 3, none⟩ = some (.slice L.Ab h.bs.length L.cb) ∧ w'.cell? ⟨w.heap.size + 1, 0, none⟩ = some (.int .i64 day)) (first | go_keep)
    (first
      | (go_at_call 65; refine (between_any _ _ _ _).mono ?_; rintro e w' ⟨rfl, rfl⟩)
      | (go_at_call 85; refine (HC.out _ (drew_below _)).mono ?_; rintro e w2 ⟨hc, hb2⟩; obtain ⟨best, rfl, ⟨⟨A, n, c, rfl⟩, h2⟩, h3⟩ := chooseRet_split hc; clear h2 h3 hc; have hb3 := hb0to (drew_below _) hb2; have x0 := below_cell hb3 g0; have x1 := below_cell hb3 g1; have x2 := below_cell hb3 g2; have x3 := below_cell hb3 g3; have x4 := below_cell hb3 g4))
  all_goals
    go_wp2
    go_ret2
    exact ⟨rfl, HB0.out.trans (hb3.mono HB0.out.size)⟩
end Go.Proofs.Ytgemmmdcpbajoaa
