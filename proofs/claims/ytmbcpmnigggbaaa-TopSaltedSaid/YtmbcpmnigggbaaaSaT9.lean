import Derived.Laws.NewBlocks
import Derived.KernelRfl
import Derived.Test.YtmbcpmnigggbaaaSaS8
import Derived.Deep.RegionHeld3
import Derived.Deep.QuietTactic
import Derived.Test.YtmbcpmnigggbaaaSaE2
namespace Go.Proofs.Ytmbcpmnigggbaaa.Sa
open Go.RowKit
attribute [local go_sem] Oper.semAt_some

theorem wplIn_load81 {F : Fence} {n : Nat} {ops : Array Oper} {rest : List Oper} {o : Oper} {a : Act} {w : World} {Q : Exit → Act → World → Prop} (hw : Region.wanted o (yielded ops a.tmps) = true) (x : Operand) (ho : o.op = .load 169 x) (cb : Nat)
    (hx : a.eval x = .pointer (some ⟨cb, 0, none⟩)) (l : List Cask) (hl : l.length = 5) (hC : CasksAt w cb l) (h : wpListIn F n Try.prog ops Q rest (a.put o.dst (encCs l)) w) : wpListIn F n Try.prog ops Q (o :: rest) a w := by
  rw [wpListIn, if_pos hw]
  unfold Oper.wpIn
  refine ⟨?_, ?_⟩
  · simp [Oper.about, ho]
  · rw [Oper.semAt_plain F _ _ (by rw [ho]; intro c hc'; cases hc')]
    simp [execOp, ho, hx, load81 hl hC, Result.andThen]
    exact h
def setAll (cs : Array Value) : Nat → List Value → Array Value
  | _, [] => cs
  | o, v :: vs => setAll (cs.setIfInBounds o v) (o + 1) vs
theorem setCells_new (W : World) (t : TypeId) : ∀ (vs : List Value) (o : Nat) (cs : Array Value), (W.alloc (.cells cs t)).setCells W.heap.size o vs = W.alloc (.cells (setAll cs o vs) t)
  | [], _, _ => rfl
  | v :: vs, o, cs => by
    rw [World.setCells, World.setCell_alloc_at _ _ _ _ _ rfl, setCells_new W t vs (o + 1)]
    rfl
theorem setAll_casks {l : List Cask} (hl : l.length = 5) : setAll (flatC [c0, c0, c0, c0, c0]).toArray 0 (flatC l) = (flatC l).toArray := by
  obtain ⟨a, b, c, d, e, rfl⟩ := list5 hl
  kernel_rfl
/-- The store of casks into a variable that was just made. -/
theorem wplIn_store81 {F : Fence} {n : Nat} {ops : Array Oper} {rest : List Oper} {o : Oper} {a : Act} {w : World} {Q : Exit → Act → World → Prop} (hg : o.guard = none) (x y : Operand) (ho : o.op = .store 169 x y)
    (hx : a.eval x = .pointer (some ⟨w.heap.size, 0, none⟩)) (l : List Cask) (hl : l.length = 5) (hy : a.eval y = encCs l) (h : wpListIn F n Try.prog ops Q rest (a.put o.dst undef) (w.alloc (.cells (flatC l).toArray 169))) :
    wpListIn F n Try.prog ops Q (o :: rest) a (w.alloc (.cells (flatC [c0, c0, c0, c0, c0]).toArray 169)) := by
  refine wpListIn_plain hg fun K hK' => ?_
  have ht : (w.alloc (.cells (flatC [c0, c0, c0, c0, c0]).toArray 169)).there w.heap.size 0 (flatC l).toArray.size := by
    have := casks_there (W := w.alloc (.cells (flatC [c0, c0, c0, c0, c0]).toArray 169)) (cb := w.heap.size) (l := [c0, c0, c0, c0, c0]) (World.alloc_heap_new w _)
    have e : (flatC l).toArray.size = (flatC [c0, c0, c0, c0, c0]).toArray.size := by rw [List.size_toArray, List.size_toArray, flatC_len, flatC_len, hl]; rfl
    rw [e]
    exact this
  have hrun := run_storeAt_mid (P := Try.prog) _ w.heap.size 0 169 (flatC l).toArray ht (info81' hl) (flatC_one' l)
  rw [List.toList_toArray, setCells_new, setAll_casks hl] at hrun
  unfold Oper.wpIn
  refine ⟨?_, ?_⟩
  · simp [Oper.about, ho]
  · rw [Oper.semAt_plain F _ _ (by rw [ho]; intro c hc'; cases hc')]
    unfold encCs at hy
    simp [execOp, ho, hx, hy, hrun, Result.andThen]
    exact hK' _ _ h

theorem roundIn_any {n m l l' : Nat} {P : Program} {f : FuncId} {tmps : Array Value} {assign body : Code} {w : World} {R : Ending → World → Prop} (h : RoundIn Fence.wide n P l f tmps assign body w R) : RoundIn (Fence.wide.inRound l') m P l f tmps assign body w R :=
  ⟨trivial, fun c cs _ => h.2 c cs (fun d hd => by cases hd)⟩
theorem packings_any (L : HL) (h : House) (w : World) : Calls Try.prog 126 #[L.enc h] w fun e w' => e = .returned (.func (.func 173) #[] #[.pointer (some ⟨w.heap.size, 0, none⟩)]) ∧
    w' = w.alloc (.cells #[.slice L.Ak h.ks.length L.ck, .int .i64 h.fl, .slice L.Ap h.ps.length L.cp, .slice L.Ab h.bs.length L.cb] 27) := by
  go_enter Try.func126, Try.ntmps126
  go_wp2
  go_ret
  exact ⟨rfl, rfl⟩

/-- All packings, the first one first. -/
def packsL (h : House) : List (List Int) := (allS 0 h.bs.length h.ps.length).filter fun p => fitsC h (packedC h p)
set_option maxRecDepth 100000 in
set_option maxHeartbeats 4000000 in
theorem packs_sees (n : Nat) (hn1 : 3 ≤ n) (L : HL) (h : House) (hv : HOK h) (B hb : Nat) (w : World) (hB : B ≤ w.heap.size) (hH : HouseAt w B L h) (hX : HBox w hb L h) (S : Nat → Prop) (hS : ∀ k, S k → B ≤ k ∧ k < w.heap.size) (hSb : ¬ S hb) :
    SeqSees Fence.wide n Try.prog 173 #[] #[.pointer (some ⟨hb, 0, none⟩)] S (SeesP h) (packsL h) w := by
  intro l J Jx W hW hJ hJx hY h0
  have hWs := hW.size
  have hBW : B ≤ W.heap.size := by omega
  have hXW : HBox W hb L h := hX.of (hW.block hb hX.lt)
  have HHW := Lib.hid ((hH.keep (Nat.le_refl _) (fun b o hb => hW.cell (p := ⟨b, o, none⟩) (by show b < w.heap.size; omega)) : HouseAt W B L h))
  have hbl : hb < W.heap.size := hXW.lt
  have hbw : hb < w.heap.size := hX.lt
  have HV := Lib.hid hv
  have HS := Lib.hid hS
  have HSB := Lib.hid hSb
  have HJ := Lib.hid hJ
  have HJx := Lib.hid hJx
  have HY := Lib.hid hY
  have H0 := Lib.hid h0
  have HXW := Lib.hid hXW
  obtain ⟨g0, g1, g2, g3⟩ := hXW.cells
  clear hv hH hS hJ hJx hY h0 hW hX hSb hXW
  refine callsIn_of_wp_marks Try.func173 rfl trivial ?_ rfl
  simp only [Try.ntmps173, List.size_toArray, List.length_cons, List.length_nil, Nat.reduceAdd, Nat.reduceSub, Array.replicate_succ, Array.replicate_zero, List.push_toArray, List.append_toArray, List.nil_append, List.cons_append]
  gi_wp2
  obtain ⟨W1, hW1⟩ : ∃ W1, W.alloc (.cells #[.func (.yield l) #[] #[]] 209) = W1 := ⟨_, rfl⟩
  have hz1 : W1.heap.size = W.heap.size + 1 := by rw [← hW1]; simp
  have hb1 : Below W.heap.size W W1 := by rw [← hW1]; exact (Below.refl _ _).alloc (Nat.le_refl _) _
  have hx1 : W1.heap[W.heap.size]? = some (.cells #[.func (.yield l) #[] #[]] 209 (0, 0)) := by rw [← hW1]; exact World.alloc_heap_new W _
  have hH1 : HouseAt W1 B L h := HHW.out.keep (Nat.le_refl _) fun b o hb => hb1.cell (p := ⟨b, o, none⟩) (by show b < W.heap.size; omega)
  have hX1 : HBox W1 hb L h := HXW.out.of (hb1.block hb hbl)
  rw [hW1]
  clear hW1 g0 g1 g2 g3
  have hz1a : W1.heap.size ≤ W.heap.size + 1 := by omega
  have hz1b : W.heap.size + 1 ≤ W1.heap.size := by omega
  clear hz1
  refine wpIn_rangeFunc_sees (S := fun k => S k ∨ Seg w.heap.size W.heap.size k) (Sees := SeesP h) (fb := #[stkV L h 0]) (lb := #[]) (xs := allS 0 h.bs.length h.ps.length) (w0 := W1) rfl (by omega) rfl trivial (fun _ _ => rfl)
    (all_sees (n - 1) (by omega) L h HV.out 0 (by omega) B W1 (by omega) hH1 _ (fun k hk => hk.elim (fun hk => by have := HS.out k hk; omega) (fun hk => by have h1 := hk.1; have h2 := hk.2; omega))) (Below.refl _ _) (fun k hk => hk.elim (fun hk => by have := HS.out k hk; omega) (fun hk => by have h2 := hk.2; omega))
    (fun B x args X hs => by obtain ⟨pb, -, rfl, -⟩ := hs; rfl) (fun B x args X Y _ hs hk => hs.kept hk)
    (fun D pre X => J D (pre.filter fun p => fitsC h (packedC h p)) X ∧ X.heap[W.heap.size]? = some (.cells #[.func (.yield l) #[] #[]] 209 (0, 0)) ∧ HBox X hb L h ∧ HouseAt X B L h)
    (fun c D pre X => c = .ret ∧ Jx D (pre.filter fun p => fitsC h (packedC h p)) X)
    ?hI ?hIx ?h0 (fun x args a' X => ∃ b4, W1.heap.size + 2 ≤ b4 ∧ CasksAt X b4 (packedC h x) ∧ a' = { tmps := #[.func (.yield l) #[] #[], .pointer (some ⟨hb, 0, none⟩), .pointer (some ⟨W.heap.size, 0, none⟩), args.getD 0 undef, .pointer (some ⟨b4, 0, none⟩), L.enc h, stkV L h 0, .func (.func 127) #[stkV L h 0] #[], args.getD 0 undef, args.getD 1 undef, undef, undef, undef, undef, undef, undef, undef, undef, undef, undef], defers := [] }) ?hAx ?hassign ?hbody ?hdone ?hstop
  case hI =>
    rintro D s X Y hD hX ⟨h1, h2, h3, h4⟩ hk
    refine ⟨HJ.out D _ X Y (by omega) hX h1 (hk.mono (Nat.le_refl _) fun k _ hs => ⟨by have := hs.1; omega, hs.2⟩), (hk.block _ (Array.getElem?_eq_some_iff.1 h2).1 (fun hs => by have := hs.1; omega)).trans h2, h3.of (hk.block _ h3.lt (fun hs => by have := hs.1; omega)), h4.keep (Nat.le_refl _) fun b o hb => hk.cell (by omega) (fun hs => by have := hs.1; omega)⟩
  case hIx =>
    rintro c D s X Y hD hX ⟨h1, h2⟩ hk
    exact ⟨h1, HJx.out D _ X Y (by omega) hX h2 (hk.mono (Nat.le_refl _) fun k _ hs => ⟨by have := hs.1; omega, hs.2⟩)⟩
  case h0 =>
    intro D X hD hX hb
    exact ⟨H0.out D X (by omega) hX (hb1.trans (hb.mono (by omega))), (hb.block _ (by omega)).trans hx1, hX1.of (hb.block _ (by omega)), hH1.keep (Nat.le_refl _) fun b o hb' => hb.cell (p := ⟨b, o, none⟩) (by show b < W1.heap.size; omega)⟩
  case hAx =>
    rintro x args a' X Y hz ⟨b4, h1, h2, h3⟩ hk
    exact ⟨b4, h1, (hk.block _ (Array.getElem?_eq_some_iff.1 h2).1 (fun hs => by have hs' : b4 < W1.heap.size + 2 := hs; omega)).trans h2, h3⟩
  case hassign =>
    intro l' x args X K hz hs hK
    obtain ⟨pb, -, rfl, -⟩ := hs
    have hK' := hK _ (X.alloc (.cells (flatC (packedC h x)).toArray 169)) (.inr ⟨_, rfl⟩) ⟨X.heap.size, by omega, World.alloc_heap_new X _, rfl⟩
    clear hK
    simp only [List.zip_toArray, List.zip_cons_cons, List.zip_nil_right, List.foldl_toArray, List.foldl_cons, List.foldl_nil, List.setIfInBounds_toArray, List.set_cons_succ, List.set_cons_zero]
    have hl5 : (packedC h x).length = 5 := casksTo_len _ _ _
    gi_wp2_with (refine wplIn_store81 rfl (.tmp 4) (.tmp 9) rfl rfl (packedC h x) hl5 rfl ?_)
    exact hK'
  case hbody =>
    rintro l' D pre x args a' X hD hX hpre ⟨hJ, hx2, hX2, hH2⟩ hs ⟨b4, hb4, hC4, rfl⟩
    obtain ⟨pb, hpb, rfl, hpk⟩ := hs
    have hxm := mem_allS.1 (hpre.subset (List.mem_append_right _ (List.mem_singleton.2 rfl)))
    have HXM := Lib.hid hxm
    clear hxm
    have hl5 : (packedC h x).length = 5 := casksTo_len _ _ _
    have hok : ∀ (j : Nat) (c : Cask), (packedC h x)[j]? = some c → c.ok := fun j c hc => (casksTo_upto HV.out x _ (Nat.le_refl _) j c hc).ok (by have := HV.out.pl; omega)
    obtain ⟨g0, g1, g2, g3⟩ := hX2.cells
    have gx : X.cell? ⟨W.heap.size, 0, none⟩ = some (.func (.yield l) #[] #[]) := by simp [World.cell?, hx2]
    cases hf : fitsC h (packedC h x)
    · gi_wp2_with (first
        | (refine wplIn_load81 rfl (.tmp 4) rfl b4 rfl (packedC h x) hl5 hC4 ?_)
        | (refine ⟨trivial, (fun hh => by cases hh), ?_⟩; gi_at_call 128; refine (CallsIn.mono (CallsIn.inRound l' (callsIn_wide.2 (fits_any L h HV.out _ hl5 hok X (hH2.more (by omega))))) ?_); rintro e W5 ⟨rfl, hb5⟩))
      have hff : (pre ++ [x]).filter (fun p => fitsC h (packedC h p)) = pre.filter (fun p => fitsC h (packedC h p)) := by simp [hf]
      have HFF := Lib.hid hff
      clear hff
      refine ⟨fun _ hh => (by cases hh), ?_⟩
      gi_wp2
      have kX5 : KpB (fun k => S k ∨ Seg w.heap.size W.heap.size k) D X W5 := kpB_of_below (hb5.mono hX)
      refine ⟨kX5, ?_, (hb5.block _ (by omega)).trans hx2, hX2.of (hb5.block _ hX2.lt), hH2.keep (Nat.le_refl _) fun b o hb => hb5.cell (p := ⟨b, o, none⟩) (by show b < X.heap.size; omega)⟩
      show J D ((pre ++ [x]).filter (fun p => fitsC h (packedC h p))) W5
      rw [HFF.out]
      exact HJ.out D _ X W5 (by omega) hX hJ (kpB_of_below hb5)
    · have hpre2 : pre.filter (fun p => fitsC h (packedC h p)) ++ [x] <+: packsL h := by
        obtain ⟨t, ht⟩ := hpre
        exact ⟨t.filter fun p => fitsC h (packedC h p), by rw [packsL, ← ht, List.filter_append, List.filter_append]; simp [hf]⟩
      have hyk : ∀ X5, Below X.heap.size X X5 → YieldAt Fence.wide (n - 1) Try.prog l #[.slice (some ⟨pb, 0, none⟩) x.length x.length, encCs (packedC h x)] X5 _ := fun X5 hb5 =>
        HY.out D _ x _ X5 (by omega) (by have := hb5.size; omega) (HJ.out D _ X X5 (by omega) hX hJ (kpB_of_below hb5)) ⟨pb, by omega, rfl, (hb5.block _ hpk.lt).trans hpk⟩ hpre2
      have HYK := Lib.hid hyk
      clear hyk
      gi_wp2_with (first
        | (refine wplIn_load81 rfl (.tmp 4) rfl b4 rfl (packedC h x) hl5 (by assumption) ?_)
        | (refine ⟨trivial, (fun hh => by cases hh), ?_⟩; gi_at_call 128; refine (CallsIn.mono (CallsIn.inRound l' (callsIn_wide.2 (fits_any L h HV.out _ hl5 hok X (hH2.more (by omega))))) ?_); rintro e W5 ⟨rfl, hb5⟩; obtain ⟨fn, tmps, assign, body, hy, hR⟩ := HYK.out W5 hb5; have hC5 : CasksAt W5 b4 (packedC h x) := (hb5.block _ (Array.getElem?_eq_some_iff.1 hC4).1).trans hC4; have gx5 := below_cell hb5 gx))
      have hff : (pre ++ [x]).filter (fun p => fitsC h (packedC h p)) = pre.filter (fun p => fitsC h (packedC h p)) ++ [x] := by simp [hf]
      have HFF := Lib.hid hff
      clear hff
      refine ⟨(fun hh => by cases hh), roundIn_any (hR.mono ?_)⟩
      rintro e X6 ⟨hk6, (⟨rfl, hJ6⟩ | ⟨rfl, hJ6⟩)⟩
      · gi_wp2
        have kX6 : KpB (fun k => S k ∨ Seg w.heap.size W.heap.size k) D X X6 := (kpB_of_below (hb5.mono hX)).trans hk6
        have hns : ∀ k, k < W.heap.size + 1 → (k < B ∨ k = hb ∨ k = W.heap.size) → ¬ (S k ∨ Seg w.heap.size W.heap.size k) := fun k hk h1 h2 => by
          rcases h2 with h2 | h2
          · have h3 := HS.out k h2
            rcases h1 with h1 | h1 | h1
            · omega
            · subst h1; exact HSB.out h2
            · omega
          · have h3 := h2.1
            have h4 := h2.2
            omega
        refine ⟨kX6, ?_, (kX6.block _ (by omega) (hns _ (by omega) (.inr (.inr rfl)))).trans hx2, hX2.of (kX6.block _ (by omega) (hns _ (by omega) (.inr (.inl rfl)))), hH2.keep (Nat.le_refl _) fun b o hb => kX6.cell (by omega) (hns _ (by omega) (.inl hb))⟩
        show J D ((pre ++ [x]).filter (fun p => fitsC h (packedC h p))) X6
        rw [HFF.out]
        exact hJ6
      · gi_wp2
        refine ⟨(kpB_of_below (hb5.mono hX)).trans hk6, rfl, ?_⟩
        show Jx D ((pre ++ [x]).filter (fun p => fitsC h (packedC h p))) X6
        rw [HFF.out]
        exact hJ6
  case hdone =>
    rintro D X hD hX ⟨hJ, hx2, hX2, hH2⟩ hk
    gi_wp2
    refine ⟨by simp, .inl ⟨_, _, rfl, run_takeDeferred hk, ?_⟩⟩
    refine ⟨_, results_none rfl _ _ _, ?_⟩
    exact ⟨⟨_, rfl⟩, D, by omega, by simpa using hX, .inl (HJ.out D _ X _ (by omega) hX hJ ((KpB.refl _ _ _).put _ _ (.inl ⟨by omega, by omega⟩)))⟩
  case hstop =>
    rintro D c pre X hD hX hpre ⟨rfl, hJ⟩ hk
    gi_wp2
    refine ⟨by simp, .inl ⟨_, _, rfl, run_takeDeferred hk, ?_⟩⟩
    refine ⟨_, results_none rfl _ _ _, ?_⟩
    exact ⟨⟨_, rfl⟩, D, by omega, by simpa using hX, .inr ⟨_, by
      obtain ⟨t, ht⟩ := hpre
      exact ⟨t.filter fun p => fitsC h (packedC h p), by rw [packsL, ← ht, List.filter_append]⟩, HJx.out D _ X _ (by omega) hX hJ ((KpB.refl _ _ _).put _ _ (.inl ⟨by omega, by omega⟩))⟩⟩
open Go.RowKit
attribute [local go_sem] Oper.semAt_some

theorem wplIn_make24 {F : Fence} {nF : Nat} {ops : Array Oper} {rest : List Oper} {o : Oper} {a : Act} {w : World} {Q : Exit → Act → World → Prop} (hgd : o.guard = none) (l : Operand) (ho : o.op = .makeSlice 25 l l) (n : Nat) (hl : a.eval l = .int .i64 n) (hn : n ≤ 1000)
    (h : wpListIn F nF Try.prog ops Q rest (a.put o.dst (.slice (some ⟨w.heap.size, 0, none⟩) n n)) (w.alloc (.cells (List.replicate n (Value.int .i64 0)).toArray 3))) : wpListIn F nF Try.prog ops Q (o :: rest) a w := by
  refine wpListIn_plain hgd fun K hK' => ?_
  have hrun := run_make24 n hn w
  unfold Oper.wpIn
  refine ⟨?_, ?_⟩
  · simp [Oper.about, ho]
  · rw [Oper.semAt_plain F _ _ (by rw [ho]; intro c hc'; cases hc')]
    simp [execOp, ho, hl, hrun, Result.andThen]
    exact hK' _ _ h
theorem wplIn_copyP {F : Fence} {nF : Nat} {ops : Array Oper} {rest : List Oper} {o : Oper} {a : Act} {w : World} {Q : Exit → Act → World → Prop} (hgd : o.guard = none) (d s : Operand)
    (ho : o.op = .call { callee := .builtin .copy, args := #[d, s], argTypes := #[25, 25] }) (g pb n : Nat) (hd : a.eval d = .slice (some ⟨g, 0, none⟩) n n) (hs : a.eval s = .slice (some ⟨pb, 0, none⟩) n n)
    (p q : List Int) (hp : p.length = n) (hq : q.length = n) (hP : PackAt w pb p) (hG : PackAt w g q)
    (h : ∀ w', Hid (PackAt w' g p) → KpB (fun k => k = g) w.heap.size w w' → wpListIn F nF Try.prog ops Q rest (a.put o.dst (goInt n)) w') : wpListIn F nF Try.prog ops Q (o :: rest) a w := by
  refine wpListIn_plain hgd fun K hK' => ?_
  have fin : ∀ w', Hid (PackAt w' g p) → KpB (fun k => k = g) w.heap.size w w' → K (a.put o.dst (goInt n)) w' := fun w' h1 h2 => hK' _ _ (h w' h1 h2)
  unfold Oper.wpIn
  refine ⟨?_, ?_⟩
  · simp [Oper.about, ho, resolve, Target.leads, Sem.run_pure]
  · rw [Oper.semAt_plain F _ _ (by rw [ho]; intro c hc'; cases hc')]
    by_cases h0 : n = 0
    · have hp0 : p = [] := List.eq_nil_of_length_eq_zero (by omega)
      have hq0 : q = [] := List.eq_nil_of_length_eq_zero (by omega)
      have hrun := run_copy_none (P := Try.prog) w 25 25 o.type 3 (some ⟨g, 0, none⟩) (some ⟨pb, 0, none⟩) n n n n Try.underlying25 size3 (by simp [h0])
      simp [execOp, ho, resolve, invoke, builtin, hd, hs, hrun, Result.andThen]
      have := fin w (by subst hp0 hq0; exact Lib.hid hG) (KpB.refl _ _ _)
      rw [h0] at this
      exact this
    · have hG' : w.heap[g]? = some (.cells (encP q).toArray 3 (0, 0)) := hG
      have hrun := run_copy_row (P := Try.prog) w 25 25 o.type 3 g 0 n n ⟨pb, 0, none⟩ n n (encP q).toArray 3 (encP p) Try.underlying25 size3 hG' (by simp [encP, hp]) (fun j v hj => by
        rw [addr_add, Nat.zero_add]
        simp [World.cell?, show w.heap[pb]? = _ from hP, hj]) (by simp [encP, hp, hq]) (by intro v hv; simp only [encP, List.mem_map] at hv; obtain ⟨x, -, rfl⟩ := hv; rfl)
      simp [execOp, ho, resolve, invoke, builtin, hd, hs, hrun, Result.andThen]
      have e : (encP p).length = n := by simp [encP, hp]
      rw [e]
      refine fin _ (Lib.hid ?_) ⟨rfl, rfl, rfl, by simp [World.setRow], fun k hk hs => setRow_other w g k _ hs⟩
      have hh := setRow_heap w g (encP q).toArray (((encP q).take 0 ++ (encP p ++ (encP q).drop (0 + (encP p).length))).toArray) 3 (0, 0) hG'
      have e2 : (encP q).drop n = [] := by rw [List.drop_eq_nil_of_le (by simp [encP, hq])]
      simpa [PackAt, e, e2] using hh

/-- The first of the least ones, as choose finds it. -/
def stepB (f : List Int → Int) (s : Option (List Int × Int)) (p : List Int) : Option (List Int × Int) :=
  match s with
  | none => some (p, f p)
  | some (b, m) => if f p < m then some (p, f p) else some (b, m)
def bestOf (f : List Int → Int) (l : List (List Int)) : Option (List Int × Int) := l.foldl (stepB f) none
theorem bestOf_snoc (f : List Int → Int) (l : List (List Int)) (p : List Int) : bestOf f (l ++ [p]) = stepB f (bestOf f l) p := by simp [bestOf]
def ChooseRet (h : House) (is : Bool) (f : List Cask → Int) (B : Nat) (w' : World) (e : Ending) : Prop :=
  if validH h = false then e = .returned (.tuple #[.slice none 0 0, .int .i64 0, .int .i64 80])
  else if is = false then e = .returned (.tuple #[.slice none 0 0, .int .i64 0, .int .i64 1])
  else match bestOf (fun p => f (packedC h p)) (packsL h) with
    | none => e = .returned (.tuple #[.slice none 0 0, .int .i64 0, .int .i64 3])
    | some (p, m) => ∃ pb, e = .returned (.tuple #[.slice (some ⟨pb, 0, none⟩) p.length p.length, .int .i64 m, .int .i64 0]) ∧ PackAt w' pb p ∧ B ≤ pb
/-- choose's own memory: its house, the number's function, the best list, its number, the error. -/
structure ChSt (W : World) (s : Nat) (L : HL) (h : House) (gv best : Value) (m e : Int) : Prop where
  b0 : HBox W s L h
  b1 : Boxed W (s + 1) 171 gv
  b2 : Boxed W (s + 1 + 1) 25 best
  b3 : Boxed W (s + 1 + 1 + 1) 3 (.int .i64 m)
  b4 : Boxed W (s + 1 + 1 + 1 + 1) 28 (.int .i64 e)
section
variable {W W' : World} {s : Nat} {L : HL} {h : House} {gv best : Value} {m e : Int}
theorem ChSt.kp (H : ChSt W s L h gv best m e) {S : Nat → Prop} {n : Nat} (hk : KpB S n W W') (hn : s + 5 ≤ n) (hS : ∀ k, S k → k < s ∨ s + 5 ≤ k) : ChSt W' s L h gv best m e := by
  have g : ∀ k, s ≤ k → k < s + 5 → W'.heap[k]? = W.heap[k]? := fun k h1 h2 => hk.block k (by omega) (fun h => by have := hS k h; omega)
  exact ⟨H.b0.of (g _ (by omega) (by omega)), (g _ (by omega) (by omega)).trans H.b1, (g _ (by omega) (by omega)).trans H.b2, (g _ (by omega) (by omega)).trans H.b3, (g _ (by omega) (by omega)).trans H.b4⟩
theorem ChSt.lt (H : ChSt W s L h gv best m e) : s + 5 ≤ W.heap.size := by have := H.b4.lt; omega
theorem ChSt.below (H : ChSt W s L h gv best m e) (hb : Below W.heap.size W W') : ChSt W' s L h gv best m e := H.kp (kpB_of_below hb (S := fun _ => False)) H.lt (fun _ h => h.elim)
theorem boxed_other {W : World} {B b o : Nat} {t : TypeId} {v u : Value} (h : Boxed W B t v) (hne : B ≠ b) : Boxed (W.setCell ⟨b, o, none⟩ u) B t v := (((KpB.refl (fun k => k = b) W.heap.size W).set o u (.inl rfl)).block B h.lt hne).trans h
theorem hbox_other {W : World} {B b o : Nat} {L : HL} {h : House} {u : Value} (hb : HBox W B L h) (hne : B ≠ b) : HBox (W.setCell ⟨b, o, none⟩ u) B L h := hb.of (((KpB.refl (fun k => k = b) W.heap.size W).set o u (.inl rfl)).block B hb.lt hne)
theorem ChSt.setE (H : ChSt W s L h gv best m e) (e' : Int) : ChSt (W.setCell ⟨s + 1 + 1 + 1 + 1, 0, none⟩ (.int .i64 e')) s L h gv best m e' :=
  ⟨hbox_other H.b0 (by omega), boxed_other H.b1 (by omega), boxed_other H.b2 (by omega), boxed_other H.b3 (by omega), H.b4.set _⟩
theorem ChSt.setM (H : ChSt W s L h gv best m e) (m' : Int) : ChSt (W.setCell ⟨s + 1 + 1 + 1, 0, none⟩ (.int .i64 m')) s L h gv best m' e :=
  ⟨hbox_other H.b0 (by omega), boxed_other H.b1 (by omega), boxed_other H.b2 (by omega), H.b3.set _, boxed_other H.b4 (by omega)⟩
theorem ChSt.setB (H : ChSt W s L h gv best m e) (b' : Value) : ChSt (W.setCell ⟨s + 1 + 1, 0, none⟩ b') s L h gv b' m e :=
  ⟨hbox_other H.b0 (by omega), boxed_other H.b1 (by omega), H.b2.set _, boxed_other H.b3 (by omega), boxed_other H.b4 (by omega)⟩
theorem ChSt.new (w : World) (L : HL) (h : House) (gv : Value) : ChSt (((((w.alloc (.cells #[.slice L.Ak h.ks.length L.ck, .int .i64 h.fl, .slice L.Ap h.ps.length L.cp, .slice L.Ab h.bs.length L.cb] 27)).alloc (.cells #[gv] 171)).alloc (.cells #[.slice none 0 0] 25)).alloc (.cells #[.int .i64 0] 3)).alloc (.cells #[.int .i64 0] 28)) w.heap.size L h gv (.slice none 0 0) 0 0 := by
  have c0 := HBox.new w L h
  have c1 := Boxed.new (w.alloc (.cells #[.slice L.Ak h.ks.length L.ck, .int .i64 h.fl, .slice L.Ap h.ps.length L.cp, .slice L.Ab h.bs.length L.cb] 27)) 171 gv
  have c2 := Boxed.new ((w.alloc (.cells #[.slice L.Ak h.ks.length L.ck, .int .i64 h.fl, .slice L.Ap h.ps.length L.cp, .slice L.Ab h.bs.length L.cb] 27)).alloc (.cells #[gv] 171)) 25 (.slice none 0 0)
  have c3 := Boxed.new (((w.alloc (.cells #[.slice L.Ak h.ks.length L.ck, .int .i64 h.fl, .slice L.Ap h.ps.length L.cp, .slice L.Ab h.bs.length L.cb] 27)).alloc (.cells #[gv] 171)).alloc (.cells #[.slice none 0 0] 25)) 3 (.int .i64 0)
  have c4 := Boxed.new ((((w.alloc (.cells #[.slice L.Ak h.ks.length L.ck, .int .i64 h.fl, .slice L.Ap h.ps.length L.cp, .slice L.Ab h.bs.length L.cb] 27)).alloc (.cells #[gv] 171)).alloc (.cells #[.slice none 0 0] 25)).alloc (.cells #[.int .i64 0] 3)) 28 (.int .i64 0)
  simp only [World.size_alloc] at c1 c2 c3 c4
  refine ⟨?_, ((c1.alloc _).alloc _).alloc _, (c2.alloc _).alloc _, c3.alloc _, c4⟩
  exact (((c0.of (Below.heap_alloc _ _ _ (by simp))).of (Below.heap_alloc _ _ _ (by simp; omega))).of (Below.heap_alloc _ _ _ (by simp; omega))).of (Below.heap_alloc _ _ _ (by simp; omega))
end
theorem results85_of {W : World} {s : Nat} {L : HL} {h : House} {gv best : Value} {m e : Int} (H : ChSt W s L h gv best m e) {tmps : Array Value} (h6 : tmps[6]?.getD undef = .pointer (some ⟨s + 1 + 1, 0, none⟩)) (h7 : tmps[7]?.getD undef = .pointer (some ⟨s + 1 + 1 + 1, 0, none⟩)) (h8 : tmps[8]?.getD undef = .pointer (some ⟨s + 1 + 1 + 1 + 1, 0, none⟩)) :
    (results Try.f117 tmps).run Try.prog W = .ok (.tuple #[best, .int .i64 m, .int .i64 e]) W := by
  have c2 := H.b2.cell
  have c3 := H.b3.cell
  have c4 := H.b4.cell
  simp [results, Try.results117, go_sem, h6, h7, h8, c2, c3, c4]
theorem below5 (w : World) (a b c d e : Obj) : Below w.heap.size w (((((w.alloc a).alloc b).alloc c).alloc d).alloc e) :=
  (((((Below.refl _ _).alloc (Nat.le_refl _) _).alloc (by simp) _).alloc (by simp; omega) _).alloc (by simp; omega) _).alloc (by simp; omega) _
set_option maxRecDepth 100000 in
set_option maxHeartbeats 4000000 in
theorem choose_no (gf : Nat) (lb : Array Value) (f : List Cask → Int) (L : HL) (h : House) (hn : h.ks.length ≤ 1000 ∧ h.ps.length ≤ 1000 ∧ h.bs.length ≤ 1000) (is : Bool) (hno : validH h = false ∨ is = false) (w : World) (hH : HouseAt w w.heap.size L h) :
    Calls Try.prog 117 #[L.enc h, .bool is, .func (.func gf) #[] lb] w fun e w' => ChooseRet h is f w.heap.size w' e ∧ Below w.heap.size w w' := by
  have hst := ChSt.new w L h (.func (.func gf) #[] lb)
  have hbw := fun o => below5 w (.cells #[.slice L.Ak h.ks.length L.ck, .int .i64 h.fl, .slice L.Ap h.ps.length L.cp, .slice L.Ab h.bs.length L.cb] 27) (.cells #[.func (.func gf) #[] lb] 171) (.cells #[.slice none 0 0] 25) (.cells #[.int .i64 0] 3) o
  have HBW := Lib.hid (hbw (.cells #[.int .i64 0] 28))
  clear hbw
  cases hv : validH h
  · have hk : ckH h = 80 := ckH_no hv
    have HV := Lib.hid hv
    clear hv hno
    have HC := Lib.hid (fun W (hW : Below w.heap.size w W) => check_any L h hn W (hH.below hW))
    clear hH
    go_enter Try.func117, Try.ntmps117
    go_wp2_with (go_at_call 125; refine (HC.out _ HBW.out).mono ?_; rintro e w1 ⟨rfl, hb1⟩; have hs1 := hst.below hb1; have hc2 := hs1.b2.cell; have hc3 := hs1.b3.cell; have hc4 := hs1.b4.cell; have hf2 := hs1.b2.frozen; have hf3 := hs1.b3.frozen; have hf4 := hs1.b4.frozen)
    refine bodyPost_ret (results85_of (((hs1.setB (.slice none 0 0)).setM 0).setE 80) rfl rfl rfl) rfl ⟨?_, ?_⟩
    · unfold ChooseRet; rw [if_pos HV.out]
    · exact ((((HBW.out).trans (hb1.mono HBW.out.size)).setCell (by simp; omega) _).setCell (by simp; omega) _).setCell (by simp; omega) _
  · have hk : ckH h = 0 := ckH_yes hv
    obtain rfl : is = false := by
      rcases hno with hno | hno
      · rw [hno] at hv; cases hv
      · exact hno
    have HV := Lib.hid hv
    clear hv hno
    have HC := Lib.hid (fun W (hW : Below w.heap.size w W) => check_any L h hn W (hH.below hW))
    clear hH
    go_enter Try.func117, Try.ntmps117
    go_wp2_with (go_at_call 125; refine (HC.out _ HBW.out).mono ?_; rintro e w1 ⟨rfl, hb1⟩; have hs1 := hst.below hb1; have hc2 := hs1.b2.cell; have hc3 := hs1.b3.cell; have hc4 := hs1.b4.cell; have hf2 := hs1.b2.frozen; have hf3 := hs1.b3.frozen; have hf4 := hs1.b4.frozen)
    refine bodyPost_ret (results85_of (((hs1.setB (.slice none 0 0)).setM 0).setE 1) rfl rfl rfl) rfl ⟨?_, ?_⟩
    · unfold ChooseRet; rw [if_neg (by rw [HV.out]; decide), if_pos rfl]
    · exact ((((HBW.out).trans (hb1.mono HBW.out.size)).setCell (by simp; omega) _).setCell (by simp; omega) _).setCell (by simp; omega) _
end Go.Proofs.Ytmbcpmnigggbaaa.Sa
namespace Go.Proofs.Ytmbcpmnigggbaaa.Sa
open Go.RowKit
attribute [local go_sem] Oper.semAt_some

def ChB (D : Nat) (X : World) (best : Value) (m e : Int) : Option (List Int × Int) → Prop
  | none => best = .slice none 0 0 ∧ m = 0 ∧ e = 3
  | some (p, m') => e = 0 ∧ m = m' ∧ ∃ pb, D ≤ pb ∧ best = .slice (some ⟨pb, 0, none⟩) p.length p.length ∧ PackAt X pb p
theorem ChB.kp {D : Nat} {X Y : World} {best : Value} {m e : Int} {o : Option (List Int × Int)} (h : ChB D X best m e o) {S : Nat → Prop} (hk : KpB S X.heap.size X Y) (hS : ∀ k, S k → k < D) : ChB D Y best m e o := by
  match o, h with
  | none, h => exact h
  | some (p, m'), ⟨h1, h2, pb, h3, h4, h5⟩ => exact ⟨h1, h2, pb, h3, h4, (hk.block pb h5.lt (fun hs => by have := hS pb hs; omega)).trans h5⟩
/-- What choose knows between two rounds. -/
structure ChI (w : World) (L : HL) (h : House) (gv : Value) (f : List Cask → Int) (D : Nat) (pre : List (List Int)) (X : World) : Prop where
  b : Below w.heap.size w X
  s : ∃ best m e, ChSt X w.heap.size L h gv best m e ∧ ChB D X best m e (bestOf (fun p => f (packedC h p)) pre)
theorem KpB.belowOf {S : Nat → Prop} {n B : Nat} {W W' : World} (h : KpB S n W W') (hB : B ≤ n) (hS : ∀ k, S k → B ≤ k) : Below B W W' := ⟨h.os, h.tape, h.output, h.size, fun k hk => h.block k (by omega) (fun hs => by have := hS k hs; omega)⟩
theorem ChSt.alloc {W : World} {s : Nat} {L : HL} {h : House} {gv best : Value} {m e : Int} (H : ChSt W s L h gv best m e) (o : Obj) : ChSt (W.alloc o) s L h gv best m e := H.below ((Below.refl _ W).alloc (Nat.le_refl _) o)
theorem packAt_other {W : World} {pb b o : Nat} {p : List Int} {u : Value} (h : PackAt W pb p) (hne : pb ≠ b) : PackAt (W.setCell ⟨b, o, none⟩ u) pb p := (((KpB.refl (fun k => k = b) W.heap.size W).set o u (.inl rfl)).block pb h.lt hne).trans h
theorem packAt_zero (W : World) (n : Nat) : PackAt (W.alloc (.cells (List.replicate n (Value.int .i64 0)).toArray 3)) W.heap.size (List.replicate n 0) := by
  have := World.alloc_heap_new W (.cells (List.replicate n (Value.int .i64 0)).toArray 3)
  simpa [PackAt, encP] using this
theorem PackAt.below {W W' : World} {pb : Nat} {p : List Int} (h : PackAt W pb p) (hb : Below W.heap.size W W') : PackAt W' pb p := (hb.block pb h.lt).trans h

theorem mem_packsL {h : House} {x : List Int} (hx : x ∈ packsL h) : x.length = h.ps.length ∧ ∀ y ∈ x, 0 ≤ y ∧ y < h.bs.length := mem_allS.1 (List.mem_filter.1 (show x ∈ List.filter _ _ from hx)).1
/-- The world behind a better packing, ahead of the copy. -/
abbrev chW (W5 : World) (s n : Nat) (v : Int) : World := (((W5.setCell ⟨s + 1 + 1, 0, none⟩ (.slice (some ⟨W5.heap.size, 0, none⟩) n n)).setCell ⟨s + 1 + 1 + 1, 0, none⟩ (.int .i64 v)).setCell ⟨s + 1 + 1 + 1 + 1, 0, none⟩ (.int .i64 0)).alloc (.cells (Array.replicate n (Value.int .i64 0)) 3)
theorem chW_packs {W5 : World} {s n pb : Nat} {v : Int} {p : List Int} (_ : s + 5 ≤ W5.heap.size) (hpb : s + 5 ≤ pb) (h : PackAt W5 pb p) : PackAt (chW W5 s n v) pb p ∧ PackAt (chW W5 s n v) W5.heap.size (List.replicate n 0) := by
  refine ⟨(packAt_other (packAt_other (packAt_other h (by omega)) (by omega)) (by omega)).below ((Below.refl _ _).alloc (Nat.le_refl _) _), ?_⟩
  have := packAt_zero (((W5.setCell ⟨s + 1 + 1, 0, none⟩ (.slice (some ⟨W5.heap.size, 0, none⟩) n n)).setCell ⟨s + 1 + 1 + 1, 0, none⟩ (.int .i64 v)).setCell ⟨s + 1 + 1 + 1 + 1, 0, none⟩ (.int .i64 0)) n
  simp only [List.toArray_replicate] at this
  have e : (((W5.setCell ⟨s + 1 + 1, 0, none⟩ (.slice (some ⟨W5.heap.size, 0, none⟩) n n)).setCell ⟨s + 1 + 1 + 1, 0, none⟩ (.int .i64 v)).setCell ⟨s + 1 + 1 + 1 + 1, 0, none⟩ (.int .i64 0)).heap.size = W5.heap.size := by simp [World.setCell]
  rw [e] at this
  exact this
theorem choose_close {w X W5 X6 : World} {L : HL} {h : House} {gv best : Value} {m e v : Int} {D n : Nat} (hs5 : ChSt W5 w.heap.size L h gv best m e) (hbX : Below w.heap.size w X) (hb5 : Below X.heap.size X W5) (hX : D ≤ X.heap.size) (hD : w.heap.size + 5 ≤ D)
    (hk6 : KpB (fun k => k = W5.heap.size) (chW W5 w.heap.size n v).heap.size (chW W5 w.heap.size n v) X6) :
    KpB (fun k => k = w.heap.size + 1 + 1 ∨ k = w.heap.size + 1 + 1 + 1 ∨ k = w.heap.size + 1 + 1 + 1 + 1) D X X6 ∧ Below w.heap.size w X6 ∧ ChSt X6 w.heap.size L h gv (.slice (some ⟨W5.heap.size, 0, none⟩) n n) v 0 := by
  have z5 := hb5.size
  have hz : (chW W5 w.heap.size n v).heap.size = W5.heap.size + 1 := by simp [World.setCell]
  have k1 : KpB (fun k => k = w.heap.size + 1 + 1 ∨ k = w.heap.size + 1 + 1 + 1 ∨ k = w.heap.size + 1 + 1 + 1 + 1) D X (chW W5 w.heap.size n v) :=
    (((((kpB_of_below (hb5.mono hX)).set _ _ (.inl (.inl rfl))).set _ _ (.inl (.inr (.inl rfl)))).set _ _ (.inl (.inr (.inr rfl)))).alloc _ (by simp [World.setCell]; omega))
  have k2 : KpB (fun k => k = w.heap.size + 1 + 1 ∨ k = w.heap.size + 1 + 1 + 1 ∨ k = w.heap.size + 1 + 1 + 1 + 1) D X X6 := k1.trans (hk6.mono (by omega) (fun k hk hs => by omega))
  refine ⟨k2, hbX.trans (k2.belowOf (by omega) (fun k hs => by omega)), ?_⟩
  exact ((((hs5.setB _).setM _).setE _).alloc _).kp hk6 (by omega) (fun k hs => .inr (by omega))
theorem stepB_lt {f : List Int → Int} {b p : List Int} {m : Int} (h : f p < m) : stepB f (some (b, m)) p = some (p, f p) := if_pos h
theorem stepB_ge {f : List Int → Int} {b p : List Int} {m : Int} (h : ¬ f p < m) : stepB f (some (b, m)) p = some (b, m) := if_neg h
theorem ChSt.drew {W : World} {s : Nat} {L : HL} {h : House} {gv best : Value} {m e : Int} (H : ChSt W s L h gv best m e) : ChSt W.drew s L h gv best m e := ⟨H.b0, H.b1, H.b2, H.b3, H.b4⟩
/-- choose's end: what stood in its results is stored once more. -/
theorem choose_end {w X : World} {L : HL} {h : House} {gv best : Value} {m e : Int} {D : Nat} (hs : ChSt X w.heap.size L h gv best m e) (hbX : Below w.heap.size w X) (hD : w.heap.size + 5 ≤ D) :
    Below w.heap.size w (((((X.setCell ⟨w.heap.size + 1 + 1, 0, none⟩ best).setCell ⟨w.heap.size + 1 + 1 + 1, 0, none⟩ (.int .i64 m)).setCell ⟨w.heap.size + 1 + 1 + 1 + 1, 0, none⟩ (.int .i64 e)).drew).putObj D (.deferred none)) ∧
    ChSt (((((X.setCell ⟨w.heap.size + 1 + 1, 0, none⟩ best).setCell ⟨w.heap.size + 1 + 1 + 1, 0, none⟩ (.int .i64 m)).setCell ⟨w.heap.size + 1 + 1 + 1 + 1, 0, none⟩ (.int .i64 e)).drew).putObj D (.deferred none)) w.heap.size L h gv best m e ∧
    (((((X.setCell ⟨w.heap.size + 1 + 1, 0, none⟩ best).setCell ⟨w.heap.size + 1 + 1 + 1, 0, none⟩ (.int .i64 m)).setCell ⟨w.heap.size + 1 + 1 + 1 + 1, 0, none⟩ (.int .i64 e)).drew).putObj D (.deferred none)) =
      (X.drew).putObj D (.deferred none) := by
  rw [set_same hs.b2.cell, set_same hs.b3.cell, set_same hs.b4.cell]
  refine ⟨hbX.drew.trans (KpB.belowOf (S := fun k => k = D) ((KpB.refl _ _ _).put _ _ (.inl rfl)) hbX.drew.size (fun k hk => by omega)), hs.drew.kp (S := fun k => k = D) ((KpB.refl _ _ _).put _ _ (.inl rfl)) hs.lt (fun k hk => .inr (by omega)), rfl⟩
theorem HouseAt.keep2 {w W : World} {L : HL} {h : House} (_ : HouseAt W W.heap.size L h) (hb : Below w.heap.size w W) (hh : HouseAt w w.heap.size L h) : HouseAt W w.heap.size L h :=
  hh.keep (Nat.le_refl _) fun b o hlt => hb.cell (p := ⟨b, o, none⟩) hlt
set_option maxRecDepth 100000 in
set_option maxHeartbeats 4000000 in
theorem choose_yes (gf : Nat) (lb : Array Value) (eg : ∀ args w, (callFunc gf args).run Try.prog w = .ok (.enter gf args) w) (f : List Cask → Int) (L : HL) (h : House) (hvh : validH h = true) (w : World) (hH : HouseAt w w.heap.size L h)
    (hof : ∀ l W, l.length = 5 → (∀ (j : Nat) (c : Cask), l[j]? = some c → c.ok) → Below w.heap.size w W → Calls Try.prog gf (#[encCs l] ++ lb) W fun e w' => e = .returned (.int .i64 (f l)) ∧ Below W.heap.size W w') :
    Calls Try.prog 117 #[L.enc h, .bool true, .func (.func gf) #[] lb] w fun e w' => ChooseRet h true f w.heap.size w' e ∧ Below w.heap.size w w' := by
  have hv := HOK.ofValid hvh
  have hst := ChSt.new w L h (.func (.func gf) #[] lb)
  have hbw := below5 w (.cells #[.slice L.Ak h.ks.length L.ck, .int .i64 h.fl, .slice L.Ap h.ps.length L.cp, .slice L.Ab h.bs.length L.cb] 27) (.cells #[.func (.func gf) #[] lb] 171) (.cells #[.slice none 0 0] 25) (.cells #[.int .i64 0] 3) (.cells #[.int .i64 0] 28)
  have HBW := Lib.hid hbw
  clear hbw
  have hk : ckH h = 0 := ckH_yes hvh
  have HVH := Lib.hid hvh
  have HV := Lib.hid hv
  have HOF := Lib.hid hof
  have HC := Lib.hid (fun W (hW : Below w.heap.size w W) => check_any L h (by have := hv.kl; have := hv.pl; have := hv.bl; omega) W (hH.below hW))
  have HH := Lib.hid hH
  clear hv hvh hof hH
  refine (callsIn_wide (n := 10)).1 ?_
  refine callsIn_of_wp_marks Try.func117 rfl trivial ?_ rfl
  simp only [Try.ntmps117, List.size_toArray, List.length_cons, List.length_nil, Nat.reduceAdd, Nat.reduceSub, Array.replicate_succ, Array.replicate_zero, List.push_toArray, List.append_toArray, List.nil_append, List.cons_append]
  gi_wp2_with (first
    | (refine ⟨trivial, ?_⟩; gi_at_call 125; refine (callsIn_wide.2 (HC.out _ HBW.out)).mono ?_; rintro e w1 ⟨rfl, hb1⟩; have hs1 := hst.below hb1; have hc2 := hs1.b2.cell; have hc3 := hs1.b3.cell; have hc4 := hs1.b4.cell; have hf2 := hs1.b2.frozen; have hf3 := hs1.b3.frozen; have hf4 := hs1.b4.frozen; obtain ⟨g0, g1, g2, g3⟩ := hs1.b0.cells)
    | (refine ⟨trivial, ?_⟩; gi_at_call 126; refine (callsIn_wide.2 (packings_any L h _)).mono ?_; rintro e w2 ⟨rfl, rfl⟩))
  have HW1 := Lib.hid hb1
  have hst2 := (hs1.setE 3).alloc (.cells #[.slice L.Ak h.ks.length L.ck, .int .i64 h.fl, .slice L.Ap h.ps.length L.cp, .slice L.Ab h.bs.length L.cb] 27)
  have hX1 := HBox.new (w1.setCell ⟨w.heap.size + 1 + 1 + 1 + 1, 0, none⟩ (.int .i64 3)) L h
  have hbW : Below w.heap.size w ((w1.setCell ⟨w.heap.size + 1 + 1 + 1 + 1, 0, none⟩ (.int .i64 3)).alloc (.cells #[.slice L.Ak h.ks.length L.ck, .int .i64 h.fl, .slice L.Ap h.ps.length L.cp, .slice L.Ab h.bs.length L.cb] 27)) :=
    ((HBW.out.trans (hb1.mono HBW.out.size)).setCell (by simp; omega) _).alloc (by have := hb1.size; have := HBW.out.size; simp [World.setCell]; omega) _
  have hz0 : (w1.setCell ⟨w.heap.size + 1 + 1 + 1 + 1, 0, none⟩ (.int .i64 3)).heap.size = w1.heap.size := by simp [World.setCell]
  rw [hz0] at hX1
  clear hz0
  obtain ⟨W1, hW1⟩ : ∃ W1, (w1.setCell ⟨w.heap.size + 1 + 1 + 1 + 1, 0, none⟩ (.int .i64 3)).alloc (.cells #[.slice L.Ak h.ks.length L.ck, .int .i64 h.fl, .slice L.Ap h.ps.length L.cp, .slice L.Ab h.bs.length L.cb] 27) = W1 := ⟨_, rfl⟩
  rw [hW1] at hst2 hX1 hbW ⊢
  have hlt1 := hs1.lt
  clear hW1 hst hs1 hc2 hc3 hc4 hf2 hf3 hf4 g0 g1 g2 g3 hb1 HW1
  have hl1 := hst2.lt
  have hxl := hX1.lt
  refine wpIn_rangeFunc_sees (S := fun k => k = w.heap.size + 1 + 1 ∨ k = w.heap.size + 1 + 1 + 1 ∨ k = w.heap.size + 1 + 1 + 1 + 1) (Sees := SeesP h) (fb := #[]) (lb := #[.pointer (some ⟨w1.heap.size, 0, none⟩)]) (xs := packsL h) (w0 := W1) rfl (by omega) rfl trivial (fun _ _ => rfl)
    (packs_sees 9 (by omega) L h HV.out w.heap.size w1.heap.size W1 (by omega) ((HH.out.below hbW).keep2 hbW HH.out) hX1 _ (fun k hk => by omega) (by omega)) (Below.refl _ _) (fun k hk => by omega)
    (fun B x args X hs => by obtain ⟨pb, -, rfl, -⟩ := hs; rfl) (fun B x args X Y _ hs hk => hs.kept hk)
    (fun D pre X => ChI w L h (.func (.func gf) #[] lb) f D pre X)
    (fun c D pre X => False)
    ?hI ?hIx ?h0 (fun x args a' X => ∃ b4, W1.heap.size + 2 ≤ b4 ∧ CasksAt X b4 (packedC h x) ∧ a' = { tmps := #[L.enc h, .bool true, .func (.func gf) #[] lb, .pointer (some ⟨w.heap.size, 0, none⟩), undef, .pointer (some ⟨w.heap.size + 1, 0, none⟩), .pointer (some ⟨w.heap.size + 1 + 1, 0, none⟩), .pointer (some ⟨w.heap.size + 1 + 1 + 1, 0, none⟩), .pointer (some ⟨w.heap.size + 1 + 1 + 1 + 1, 0, none⟩), .int .i64 0, args.getD 0 undef, .pointer (some ⟨b4, 0, none⟩), undef, L.enc h, .int .i64 0, .int .i64 0, .bool false, undef, .bool true, .bool false, L.enc h, .func (.func 173) #[] #[.pointer (some ⟨w1.heap.size, 0, none⟩)], args.getD 0 undef, args.getD 1 undef, undef, undef, undef, undef, undef, undef, undef, undef, undef, undef, undef, undef, undef, undef, undef, undef, undef, undef, undef, undef], defers := [] }) ?hAx ?hassign ?hbody ?hdone ?hstop
  case hI =>
    rintro D s X Y hD hX ⟨hb, best, m, e, h1, h2⟩ hk
    exact ⟨hb.trans (hk.belowOf (by have := hb.size; omega) (fun k hs => by have := hs.1; omega)), best, m, e, h1.kp hk (by omega) (fun k hs => .inr (by have := hs.1; omega)), h2.kp hk (fun k hs => hs.2)⟩
  case hIx => exact fun _ _ _ _ _ _ _ h _ => h.elim
  case h0 =>
    intro D X hD hX hb
    exact ⟨hbW.trans (hb.mono (by omega)), _, _, _, hst2.below hb, rfl, rfl, rfl⟩
  case hAx =>
    rintro x args a' X Y hz ⟨b4, h1, h2, h3⟩ hk
    exact ⟨b4, h1, (hk.block _ (Array.getElem?_eq_some_iff.1 h2).1 (fun hs => by have hs' : b4 < W1.heap.size + 2 := hs; omega)).trans h2, h3⟩
  case hassign =>
    intro l' x args X K hz hs hK
    obtain ⟨pb, -, rfl, -⟩ := hs
    have hK' := hK _ (X.alloc (.cells (flatC (packedC h x)).toArray 169)) (.inr ⟨_, rfl⟩) ⟨X.heap.size, by omega, World.alloc_heap_new X _, rfl⟩
    clear hK
    simp only [List.zip_toArray, List.zip_cons_cons, List.zip_nil_right, List.foldl_toArray, List.foldl_cons, List.foldl_nil, List.setIfInBounds_toArray, List.set_cons_succ, List.set_cons_zero]
    have hl5 : (packedC h x).length = 5 := casksTo_len _ _ _
    gi_wp2_with (refine wplIn_store81 rfl (.tmp 11) (.tmp 23) rfl rfl (packedC h x) hl5 rfl ?_)
    exact hK'
  case hbody =>
    rintro l' D pre x args a' X hD hX hpre ⟨hbX, best, m, e, hs, hB⟩ hsee ⟨b4, hb4, hC4, rfl⟩
    obtain ⟨pb, hpb, rfl, hpk⟩ := hsee
    have hxm := mem_packsL (hpre.subset (List.mem_append_right _ (List.mem_singleton.2 rfl)))
    have HXM := Lib.hid hxm
    clear hxm
    have hl5 : (packedC h x).length = 5 := casksTo_len _ _ _
    have hok : ∀ (j : Nat) (c : Cask), (packedC h x)[j]? = some c → c.ok := fun j c hc => (casksTo_upto HV.out x _ (Nat.le_refl _) j c hc).ok (by have := HV.out.pl; omega)
    have hx6 : x.length ≤ 6 := by have := HXM.out.1; have := HV.out.pl; omega
    have hcall := HOF.out (packedC h x) X hl5 hok hbX
    have HCALL := Lib.hid hcall
    clear hcall hok
    have hg1 := hs.b1.cell
    cases hbo : bestOf (fun p => f (packedC h p)) pre with
    | none =>
      rw [hbo] at hB
      obtain ⟨rfl, rfl, rfl⟩ := hB
      have HBO := Lib.hid hbo
      clear hbo
      gi_wp2_with (first
        | (refine wplIn_load81 rfl (.tmp 11) rfl b4 rfl (packedC h x) hl5 hC4 ?_)
        | (refine ⟨trivial, ?_⟩; refine (CallsIn.mono (CallsIn.inRound l' (callsIn_wide.2 HCALL.out)) ?_); rintro e W5 ⟨rfl, hb5⟩; have hs5 := hs.below hb5; have hc2 := hs5.b2.cell; have hc3 := hs5.b3.cell; have hc4 := hs5.b4.cell; have hf2 := hs5.b2.frozen; have hf3 := hs5.b3.frozen; have hf4 := hs5.b4.frozen; have hp5 := hpk.below hb5; have hz5 := hs5.lt; have hl2 : w.heap.size + 1 + 1 < W5.heap.size := (by omega); have hl3 : w.heap.size + 1 + 1 + 1 < W5.heap.size := (by omega); have hl4 : w.heap.size + 1 + 1 + 1 + 1 < W5.heap.size := (by omega); have hn2 : ¬ w.heap.size + 1 + 1 = W5.heap.size := (by omega); have hn3 : ¬ w.heap.size + 1 + 1 + 1 = W5.heap.size := (by omega); have hn4 : ¬ w.heap.size + 1 + 1 + 1 + 1 = W5.heap.size := (by omega))
        | (refine wplIn_make24 rfl (.tmp 35) rfl x.length rfl (by omega) ?_)
        | (refine wplIn_copyP rfl (.tmp 38) (.tmp 39) rfl W5.heap.size pb x.length rfl rfl x (List.replicate x.length 0) rfl List.length_replicate ?_ ?_ ?_; exact (chW_packs (v := f (packedC h x)) hz5 (by omega) hp5).1; exact (chW_packs (v := f (packedC h x)) hz5 (by omega) hp5).2; intro X6 hp6 hk6))
      obtain ⟨q1, q2, q3⟩ := choose_close hs5 hbX hb5 hX (by omega) hk6
      refine ⟨q1, q2, _, _, _, q3, ?_⟩
      show ChB D X6 _ _ _ (bestOf (fun p => f (packedC h p)) (pre ++ [x]))
      rw [bestOf_snoc, HBO.out]
      exact ⟨rfl, rfl, W5.heap.size, by have := hb5.size; omega, rfl, hp6.out⟩
    | some bm =>
      obtain ⟨b, mb⟩ := bm
      rw [hbo] at hB
      obtain ⟨rfl, rfl, hB⟩ := hB
      have HBO := Lib.hid hbo
      have HBB := Lib.hid hB
      clear hbo hB
      by_cases hlt : f (packedC h x) < m
      · have hdl : decide (f (packedC h x) < m) = true := by simpa using hlt
        gi_wp2_with (first
          | (refine wplIn_load81 rfl (.tmp 11) rfl b4 rfl (packedC h x) hl5 hC4 ?_)
          | (refine ⟨trivial, ?_⟩; refine (CallsIn.mono (CallsIn.inRound l' (callsIn_wide.2 HCALL.out)) ?_); rintro e W5 ⟨rfl, hb5⟩; have hs5 := hs.below hb5; have hc2 := hs5.b2.cell; have hc3 := hs5.b3.cell; have hc4 := hs5.b4.cell; have hf2 := hs5.b2.frozen; have hf3 := hs5.b3.frozen; have hf4 := hs5.b4.frozen; have hp5 := hpk.below hb5; have hz5 := hs5.lt; have hl2 : w.heap.size + 1 + 1 < W5.heap.size := (by omega); have hl3 : w.heap.size + 1 + 1 + 1 < W5.heap.size := (by omega); have hl4 : w.heap.size + 1 + 1 + 1 + 1 < W5.heap.size := (by omega); have hn2 : ¬ w.heap.size + 1 + 1 = W5.heap.size := (by omega); have hn3 : ¬ w.heap.size + 1 + 1 + 1 = W5.heap.size := (by omega); have hn4 : ¬ w.heap.size + 1 + 1 + 1 + 1 = W5.heap.size := (by omega))
          | (refine wplIn_make24 rfl (.tmp 35) rfl x.length rfl (by omega) ?_)
          | (refine wplIn_copyP rfl (.tmp 38) (.tmp 39) rfl W5.heap.size pb x.length rfl rfl x (List.replicate x.length 0) rfl List.length_replicate ?_ ?_ ?_; exact (chW_packs (v := f (packedC h x)) hz5 (by omega) hp5).1; exact (chW_packs (v := f (packedC h x)) hz5 (by omega) hp5).2; intro X6 hp6 hk6))
        obtain ⟨q1, q2, q3⟩ := choose_close hs5 hbX hb5 hX (by omega) hk6
        refine ⟨q1, q2, _, _, _, q3, ?_⟩
        show ChB D X6 _ _ _ (bestOf (fun p => f (packedC h p)) (pre ++ [x]))
        rw [bestOf_snoc, HBO.out, stepB_lt (f := fun p => f (packedC h p)) hlt]
        exact ⟨rfl, rfl, W5.heap.size, by have := hb5.size; omega, rfl, hp6.out⟩
      · have hdl : decide (f (packedC h x) < m) = false := by simpa using hlt
        gi_wp2_with (first
          | (refine wplIn_load81 rfl (.tmp 11) rfl b4 rfl (packedC h x) hl5 hC4 ?_)
          | (refine ⟨trivial, ?_⟩; refine (CallsIn.mono (CallsIn.inRound l' (callsIn_wide.2 HCALL.out)) ?_); rintro e W5 ⟨rfl, hb5⟩; have hs5 := hs.below hb5; have hc2 := hs5.b2.cell; have hc3 := hs5.b3.cell; have hc4 := hs5.b4.cell; have hf2 := hs5.b2.frozen; have hf3 := hs5.b3.frozen; have hf4 := hs5.b4.frozen; have hp5 := hpk.below hb5; have hz5 := hs5.lt; have hl2 : w.heap.size + 1 + 1 < W5.heap.size := (by omega); have hl3 : w.heap.size + 1 + 1 + 1 < W5.heap.size := (by omega); have hl4 : w.heap.size + 1 + 1 + 1 + 1 < W5.heap.size := (by omega); have hn2 : ¬ w.heap.size + 1 + 1 = W5.heap.size := (by omega); have hn3 : ¬ w.heap.size + 1 + 1 + 1 = W5.heap.size := (by omega); have hn4 : ¬ w.heap.size + 1 + 1 + 1 + 1 = W5.heap.size := (by omega)))
        have kX5 : KpB (fun k => k = w.heap.size + 1 + 1 ∨ k = w.heap.size + 1 + 1 + 1 ∨ k = w.heap.size + 1 + 1 + 1 + 1) D X W5 := kpB_of_below (hb5.mono hX)
        refine ⟨kX5, hbX.trans (hb5.mono (by omega)), _, _, _, hs5, ?_⟩
        show ChB D W5 _ _ _ (bestOf (fun p => f (packedC h p)) (pre ++ [x]))
        rw [bestOf_snoc, HBO.out, stepB_ge (f := fun p => f (packedC h p)) (show ¬ f (packedC h x) < m by omega)]
        have hBB : ChB D X best m 0 (some (b, m)) := ⟨rfl, rfl, HBB.out⟩
        exact hBB.kp (kpB_of_below hb5 (S := fun _ => False)) (fun _ h => h.elim)
  case hdone =>
    rintro D X hD hX ⟨hbX, best, m, e, hs, hB⟩ hk
    have HK := Lib.hid hk
    clear hk
    have hc2 := hs.b2.cell
    have hc3 := hs.b3.cell
    have hc4 := hs.b4.cell
    have hf2 := hs.b2.frozen
    have hf3 := hs.b3.frozen
    have hf4 := hs.b4.frozen
    cases hbo : bestOf (fun p => f (packedC h p)) (packsL h) with
    | none =>
      rw [hbo] at hB
      obtain ⟨rfl, rfl, rfl⟩ := hB
      have HBO := Lib.hid hbo
      clear hbo
      gi_wp2
      refine wpIn_wide.2 ?_
      go_region
      gi_wp2
      obtain ⟨e1, e2, e3⟩ := choose_end hs hbX (D := W1.heap.size) (by omega)
      refine ⟨by simp, .inl ⟨_, _, rfl, run_takeDeferred (by rw [set_same hc2, set_same hc3, set_same hc4]; exact HK.out), ?_⟩⟩
      refine ⟨_, results85_of e2 rfl rfl rfl, ?_, e1⟩
      unfold ChooseRet
      rw [if_neg (by rw [HVH.out]; decide), if_neg (by decide), HBO.out]
    | some bm =>
      obtain ⟨b, mb⟩ := bm
      rw [hbo] at hB
      obtain ⟨rfl, rfl, pb, hpb, rfl, hpk⟩ := hB
      have HBO := Lib.hid hbo
      clear hbo
      gi_wp2
      refine wpIn_wide.2 ?_
      go_region
      gi_wp2
      obtain ⟨e1, e2, e3⟩ := choose_end hs hbX (D := W1.heap.size) (by omega)
      refine ⟨by simp, .inl ⟨_, _, rfl, run_takeDeferred (by rw [set_same hc2, set_same hc3, set_same hc4]; exact HK.out), ?_⟩⟩
      refine ⟨_, results85_of e2 rfl rfl rfl, ?_, e1⟩
      unfold ChooseRet
      rw [if_neg (by rw [HVH.out]; decide), if_neg (by decide), HBO.out]
      refine ⟨pb, rfl, ?_, by omega⟩
      rw [e3]
      exact (World.putObj_heap_other (by omega)).trans hpk
  case hstop => exact fun _ _ _ _ _ _ _ h => h.elim
open Go.RowKit

set_option maxRecDepth 100000 in
set_option maxHeartbeats 4000000 in
theorem least1_any (L : HL) (h : House) (hf : 0 ≤ h.fl ∧ h.fl ≤ 9) (b : Nat) (l : List Cask) (hl : l.length = 5) (hok : ∀ (j : Nat) (c : Cask), l[j]? = some c → c.ok) (w : World) (hX : HBox w b L h) :
    Calls Try.prog 123 #[encCs l, .pointer (some ⟨b, 0, none⟩)] w fun e w' => e = .returned (.int .i64 (sumC (saltC h.fl) l 5)) ∧ Below w.heap.size w w' := by
  obtain ⟨g0, g1, g2, g3⟩ := hX.cells
  have hbl := hX.lt
  have hC0 : CasksAt (w.alloc (.cells (flatC l).toArray 169)) w.heap.size l := World.alloc_heap_new w _
  have HC := Lib.hid hC0
  have HO := Lib.hid hok
  clear hok hX hC0
  obtain ⟨fc, hfc⟩ : ∃ fc, fc = flatC l := ⟨_, rfl⟩
  have henc : encCs l = .agg fc.toArray := by rw [hfc]; rfl
  rw [← hfc] at HC
  rw [henc]
  have HE := Lib.hid henc
  clear hfc henc
  go_enter Try.func123, Try.ntmps123
  go_wp2_with (first
    | (refine wpl_load81 rfl (.tmp 2) rfl w.heap.size rfl l hl HC.out ?_)
    | (go_at_call 119; refine (saltAll_any L h hf l hl HO.out _).mono ?_; rintro e w' ⟨rfl, hb⟩))
  go_ret
  exact ⟨rfl, (((Below.refl _ _).alloc (Nat.le_refl _) _).trans (hb.mono (by simp)))⟩
theorem pack1_any (L : HL) (h : House) (hf : 0 ≤ h.fl ∧ h.fl ≤ 9) (b : Nat) (l : List Cask) (hl : l.length = 5) (hok : ∀ (j : Nat) (c : Cask), l[j]? = some c → c.ok) (w : World) (hX : HBox w b L h) :
    Calls Try.prog 118 #[encCs l, .pointer (some ⟨b, 0, none⟩)] w fun e w' => e = .returned (.int .i64 (sumC (saltC h.fl) l 5)) ∧ Below w.heap.size w w' := by
  obtain ⟨g0, g1, g2, g3⟩ := hX.cells
  have hbl := hX.lt
  have hC0 : CasksAt (w.alloc (.cells (flatC l).toArray 169)) w.heap.size l := World.alloc_heap_new w _
  have HC := Lib.hid hC0
  have HO := Lib.hid hok
  clear hok hX hC0
  obtain ⟨fc, hfc⟩ : ∃ fc, fc = flatC l := ⟨_, rfl⟩
  have henc : encCs l = .agg fc.toArray := by rw [hfc]; rfl
  rw [← hfc] at HC
  rw [henc]
  have HE := Lib.hid henc
  clear hfc henc
  go_enter Try.func118, Try.ntmps118
  go_wp2_with (first
    | (refine wpl_load81 rfl (.tmp 2) rfl w.heap.size rfl l hl HC.out ?_)
    | (go_at_call 119; refine (saltAll_any L h hf l hl HO.out _).mono ?_; rintro e w' ⟨rfl, hb⟩))
  go_ret
  exact ⟨rfl, (((Below.refl _ _).alloc (Nat.le_refl _) _).trans (hb.mono (by simp)))⟩
theorem choose_any (gf : Nat) (lb : Array Value) (eg : ∀ args w, (callFunc gf args).run Try.prog w = .ok (.enter gf args) w) (f : List Cask → Int) (L : HL) (h : House) (hn : h.ks.length ≤ 1000 ∧ h.ps.length ≤ 1000 ∧ h.bs.length ≤ 1000) (is : Bool) (w : World) (hH : HouseAt w w.heap.size L h)
    (hof : validH h = true → ∀ l W, l.length = 5 → (∀ (j : Nat) (c : Cask), l[j]? = some c → c.ok) → Below w.heap.size w W → Calls Try.prog gf (#[encCs l] ++ lb) W fun e w' => e = .returned (.int .i64 (f l)) ∧ Below W.heap.size W w') :
    Calls Try.prog 117 #[L.enc h, .bool is, .func (.func gf) #[] lb] w fun e w' => ChooseRet h is f w.heap.size w' e ∧ Below w.heap.size w w' := by
  cases hv : validH h
  · exact choose_no gf lb f L h hn is (.inl hv) w hH
  · cases is
    · exact choose_no gf lb f L h hn false (.inr rfl) w hH
    · exact choose_yes gf lb eg f L h hv w hH (hof hv)

/-- What is returned of a packing's number: the number alone, or the packing alone. -/
def numRet (h : House) (is : Bool) (f : List Cask → Int) : Int × Int :=
  if validH h = false then (0, 80) else if is = false then (0, 1) else match bestOf (fun p => f (packedC h p)) (packsL h) with
    | none => (0, 3)
    | some (_, m) => (m, 0)
theorem chooseRet_split {h : House} {is : Bool} {f : List Cask → Int} {B : Nat} {w' : World} {e : Ending} (hc : ChooseRet h is f B w' e) : ∃ best, e = .returned (.tuple #[best, .int .i64 (numRet h is f).1, .int .i64 (numRet h is f).2]) ∧
    ((∃ A n c, best = .slice A n c) ∧ ((numRet h is f).2 ≠ 0 → best = .slice none 0 0)) ∧ ∀ p m, validH h = true → is = true → bestOf (fun p => f (packedC h p)) (packsL h) = some (p, m) → ∃ pb, best = .slice (some ⟨pb, 0, none⟩) p.length p.length ∧ PackAt w' pb p ∧ B ≤ pb := by
  unfold ChooseRet at hc
  unfold numRet
  split at hc
  · rename_i hv
    exact ⟨_, by rw [if_pos hv]; exact hc, ⟨⟨_, _, _, rfl⟩, fun _ => rfl⟩, fun p m h1 => by rw [h1] at hv; cases hv⟩
  · rename_i hv
    rw [if_neg hv]
    split at hc
    · rename_i hi
      exact ⟨_, by rw [if_pos hi]; exact hc, ⟨⟨_, _, _, rfl⟩, fun _ => rfl⟩, fun p m _ h1 => by rw [h1] at hi; cases hi⟩
    · rename_i hi
      rw [if_neg hi]
      cases hb : bestOf (fun p => f (packedC h p)) (packsL h) with
      | none =>
        rw [hb] at hc
        exact ⟨_, hc, ⟨⟨_, _, _, rfl⟩, fun _ => rfl⟩, fun p m _ _ h1 => by cases h1⟩
      | some bm =>
        obtain ⟨p, m⟩ := bm
        rw [hb] at hc
        obtain ⟨pb, h1, h2, h3⟩ := hc
        exact ⟨_, h1, ⟨⟨_, _, _, rfl⟩, fun hh => (hh rfl).elim⟩, fun p' m' _ _ h4 => by cases h4; exact ⟨pb, rfl, h2, h3⟩⟩
set_option maxRecDepth 100000 in
set_option maxHeartbeats 4000000 in
theorem least_any (L : HL) (h : House) (hn : h.ks.length ≤ 1000 ∧ h.ps.length ≤ 1000 ∧ h.bs.length ≤ 1000) (w : World) (hH : HouseAt w w.heap.size L h) :
    Calls Try.prog 64 #[L.enc h] w fun e w' => e = .returned (.tuple #[.int .i64 (numRet h true fun l => sumC (saltC h.fl) l 5).1, .int .i64 (numRet h true fun l => sumC (saltC h.fl) l 5).2]) ∧ Below w.heap.size w w' := by
  have hX := HBox.new w L h
  have hb0 : Below w.heap.size w (w.alloc (.cells #[.slice L.Ak h.ks.length L.ck, .int .i64 h.fl, .slice L.Ap h.ps.length L.cp, .slice L.Ab h.bs.length L.cb] 27)) := (Below.refl _ _).alloc (Nat.le_refl _) _
  have HC := Lib.hid (choose_any 123 #[.pointer (some ⟨w.heap.size, 0, none⟩)] (fun _ _ => rfl) (fun l => sumC (saltC h.fl) l 5) L h hn true _ (hH.below hb0) (fun hv l W hl hok hb => least1_any L h ⟨(HOK.ofValid hv).f0, (HOK.ofValid hv).f1⟩ w.heap.size l hl hok W (hX.of (hb.block _ hX.lt))))
  have HB0 := Lib.hid hb0
  clear hb0 hX hH
  go_enter Try.func64, Try.ntmps64
  go_wp2_with (go_at_call 117; refine HC.out.mono ?_; rintro e w1 ⟨hc, hb1⟩; obtain ⟨best, rfl, -, -⟩ := chooseRet_split hc)
  go_ret2
  exact ⟨rfl, HB0.out.trans (hb1.mono HB0.out.size)⟩
open Go.RowKit

theorem bestOf_none {f : List Int → Int} {l : List (List Int)} : bestOf f l = none ↔ l = [] := by
  refine snoc_ind (P := fun l => bestOf f l = none ↔ l = []) (by simp [bestOf]) (fun l x ih => ?_) l
  rw [bestOf_snoc]
  cases h : bestOf f l with
  | none => simp [stepB]
  | some bm =>
    obtain ⟨b, m⟩ := bm
    simp only [stepB]
    split <;> simp
/-- The first of the least ones. -/
theorem bestOf_some {f : List Int → Int} {l : List (List Int)} : ∀ {p : List Int} {m : Int}, bestOf f l = some (p, m) → m = f p ∧ p ∈ l ∧ (∀ q ∈ l, m ≤ f q) ∧ ∃ a b, l = a ++ p :: b ∧ ∀ q ∈ a, m < f q := by
  refine snoc_ind (P := fun l => ∀ {p : List Int} {m : Int}, bestOf f l = some (p, m) → m = f p ∧ p ∈ l ∧ (∀ q ∈ l, m ≤ f q) ∧ ∃ a b, l = a ++ p :: b ∧ ∀ q ∈ a, m < f q) ?_ ?_ l
  · intro p m h; simp [bestOf] at h
  · intro l x ih p m h
    rw [bestOf_snoc] at h
    cases hb : bestOf f l with
    | none =>
      rw [hb] at h
      have hl := bestOf_none.1 hb
      subst hl
      simp only [stepB, Option.some.injEq, Prod.mk.injEq] at h
      obtain ⟨rfl, rfl⟩ := h
      exact ⟨rfl, by simp, by simp, [], [], by simp, by simp⟩
    | some bm =>
      obtain ⟨b, mb⟩ := bm
      rw [hb] at h
      obtain ⟨h1, h2, h3, a, c, h4, h5⟩ := ih hb
      simp only [stepB] at h
      by_cases hlt : f x < mb
      · rw [if_pos hlt] at h
        simp only [Option.some.injEq, Prod.mk.injEq] at h
        obtain ⟨rfl, rfl⟩ := h
        refine ⟨rfl, by simp, fun q hq => ?_, l, [], by simp, fun q hq => ?_⟩
        · rcases List.mem_append.1 hq with hq | hq
          · have := h3 q hq; omega
          · have : q = x := by simpa using hq
            subst this; omega
        · have := h3 q hq; omega
      · rw [if_neg hlt] at h
        simp only [Option.some.injEq, Prod.mk.injEq] at h
        obtain ⟨rfl, rfl⟩ := h
        refine ⟨h1, by simp [h2], fun q hq => ?_, a, c ++ [x], by rw [h4]; simp, h5⟩
        rcases List.mem_append.1 hq with hq | hq
        · exact h3 q hq
        · have : q = x := by simpa using hq
          subst this; omega
theorem packedC_ok {h : House} (hv : HOK h) (p : List Int) : ∀ (j : Nat) (c : Cask), (packedC h p)[j]? = some c → c.ok := fun j c hc => (casksTo_upto hv p _ (Nat.le_refl _) j c hc).ok (by have := hv.pl; omega)
theorem packedC_len (h : House) (p : List Int) : (packedC h p).length = 5 := casksTo_len _ _ _
open Go.RowKit

theorem hb0to {w w1 w2 : World} (h : Below w.heap.size w w1) (k : Below w1.heap.size w1 w2) : Below w.heap.size w w2 := h.trans (k.mono h.size)
/-- What Pack returns. -/
def PackRet (h : House) (f : List Cask → Int) (B : Nat) (w' : World) (e : Ending) : Prop :=
  ∃ A n c, e = .returned (.tuple #[.slice A n c, .int .i64 (numRet h true f).2]) ∧ ((numRet h true f).2 ≠ 0 → A = none ∧ n = 0 ∧ c = 0) ∧
    ∀ p m, validH h = true → bestOf (fun p => f (packedC h p)) (packsL h) = some (p, m) → ∃ pb, A = some ⟨pb, 0, none⟩ ∧ n = p.length ∧ c = p.length ∧ PackAt w' pb p ∧ B ≤ pb
set_option maxRecDepth 100000 in
set_option maxHeartbeats 4000000 in
theorem pack_any (L : HL) (h : House) (hn : h.ks.length ≤ 1000 ∧ h.ps.length ≤ 1000 ∧ h.bs.length ≤ 1000) (w : World) (hH : HouseAt w w.heap.size L h) :
    Calls Try.prog 60 #[L.enc h] w fun e w' => PackRet h (fun l => sumC (saltC h.fl) l 5) w.heap.size w' e ∧ Below w.heap.size w w' := by
  have hX := HBox.new w L h
  have hb0 : Below w.heap.size w (w.alloc (.cells #[.slice L.Ak h.ks.length L.ck, .int .i64 h.fl, .slice L.Ap h.ps.length L.cp, .slice L.Ab h.bs.length L.cb] 27)) := (Below.refl _ _).alloc (Nat.le_refl _) _
  have HC := Lib.hid (choose_any 118 #[.pointer (some ⟨w.heap.size, 0, none⟩)] (fun _ _ => rfl) (fun l => sumC (saltC h.fl) l 5) L h hn true _ (hH.below hb0) (fun hv l W hl hok hb => pack1_any L h ⟨(HOK.ofValid hv).f0, (HOK.ofValid hv).f1⟩ w.heap.size l hl hok W (hX.of (hb.block _ hX.lt))))
  have HB0 := Lib.hid hb0
  clear hb0 hX hH
  go_enter Try.func60, Try.ntmps60
  go_wp2_with (go_at_call 117; refine HC.out.mono ?_; rintro e w1 ⟨hc, hb1⟩; obtain ⟨best, rfl, ⟨⟨A, n, c, rfl⟩, h2⟩, h3⟩ := chooseRet_split hc; have H2 := Lib.hid h2; have H3 := Lib.hid h3; clear h2 h3 hc)
  go_ret2
  refine ⟨⟨A, n, c, rfl, fun hh => by have := H2.out hh; cases this; exact ⟨rfl, rfl, rfl⟩, fun p m hv hb => ?_⟩, HB0.out.trans (hb1.mono HB0.out.size)⟩
  obtain ⟨pb, e, hp, hB⟩ := H3.out p m hv trivial hb
  cases e
  exact ⟨pb, rfl, rfl, rfl, hp, by simp at hB; omega⟩
set_option maxRecDepth 100000 in
set_option maxHeartbeats 4000000 in
theorem fewest_any (L : HL) (h : House) (hn : h.ks.length ≤ 1000 ∧ h.ps.length ≤ 1000 ∧ h.bs.length ≤ 1000) (w : World) (hH : HouseAt w w.heap.size L h) :
    Calls Try.prog 65 #[L.enc h] w fun e w' => e = .returned (.tuple #[.int .i64 (numRet h true fun l => sumC usedC l 5).1, .int .i64 (numRet h true fun l => sumC usedC l 5).2]) ∧ Below w.heap.size w w' := by
  have hb0 : Below w.heap.size w (w.alloc (.cells #[.slice L.Ak h.ks.length L.ck, .int .i64 h.fl, .slice L.Ap h.ps.length L.cp, .slice L.Ab h.bs.length L.cb] 27)) := (Below.refl _ _).alloc (Nat.le_refl _) _
  have HC := Lib.hid (choose_any 124 #[] (fun _ _ => rfl) (fun l => sumC usedC l 5) L h hn true _ (hH.below hb0) (fun hv l W hl hok hb => used_any l hl hok W))
  have HB0 := Lib.hid hb0
  clear hb0 hH
  go_enter Try.func65, Try.ntmps65
  go_wp2_with (go_at_call 117; refine HC.out.mono ?_; rintro e w1 ⟨hc, hb1⟩; obtain ⟨best, rfl, -, -⟩ := chooseRet_split hc)
  go_ret2
  exact ⟨rfl, HB0.out.trans (hb1.mono HB0.out.size)⟩
end Go.Proofs.Ytmbcpmnigggbaaa.Sa
namespace Go.Proofs.Ytmbcpmnigggbaaa.Sa
open Go.RowKit
attribute [local go_sem] Oper.semAt_some

section
variable {W W' : World} {s : Nat} {L : HL} {h : House} {gv : Value} {seen : List Int} {e : Int}
end

end Go.Proofs.Ytmbcpmnigggbaaa.Sa
namespace Go.Proofs.Ytmbcpmnigggbaaa.Sa
open Go.RowKit
attribute [local go_sem] Oper.semAt_some

/-- Stock's memory. -/
structure StSt (W : World) (s m0 : Nat) (L : HL) (h : House) (much most : Int) : Prop where
  b0 : HBox W s L h
  b1 : Boxed W (s + 1) 3 (.int .i64 much)
  b2 : Boxed W m0 3 (.int .i64 most)
section
variable {W W' : World} {s m0 : Nat} {L : HL} {h : House} {much most : Int}
theorem StSt.kp (H : StSt W s m0 L h much most) {S : Nat → Prop} {n : Nat} (hk : KpB S n W W') (hs : s + 1 < n) (hn : m0 < n) (hS : ∀ k, S k → k ≠ s ∧ k ≠ s + 1 ∧ k ≠ m0) : StSt W' s m0 L h much most :=
  ⟨H.b0.of (hk.block _ (by omega) (fun h => (hS _ h).1 rfl)), (hk.block _ (by omega) (fun h => (hS _ h).2.1 rfl)).trans H.b1, (hk.block _ (by omega) (fun h => (hS _ h).2.2 rfl)).trans H.b2⟩
theorem StSt.below (H : StSt W s m0 L h much most) (hb : Below W.heap.size W W') : StSt W' s m0 L h much most :=
  H.kp (kpB_of_below hb (S := fun _ => False)) H.b1.lt H.b2.lt (fun _ h => h.elim)
theorem StSt.setM (H : StSt W s m0 L h much most) (h1 : s + 1 < m0) (x : Int) : StSt (W.setCell ⟨m0, 0, none⟩ (.int .i64 x)) s m0 L h much x :=
  ⟨hbox_other H.b0 (by omega), boxed_other H.b1 (by omega), H.b2.set _⟩
end
end Go.Proofs.Ytmbcpmnigggbaaa.Sa
