import Derived.Laws.NewBlocks
import Derived.KernelRfl
import Derived.Test.YtgemmmdcpbajoaaT2
import Derived.Test.YtgemmmdcpbajoaaS6
import Derived.Test.YtgemmmdcpbajoaaS8
namespace Go.Proofs.Ytgemmmdcpbajoaa
open Go.RowKit
attribute [local go_sem] Oper.semAt_some

theorem wplIn_load81 {F : Fence} {n : Nat} {ops : Array Oper} {rest : List Oper} {o : Oper} {a : Act} {w : World} {Q : Exit → Act → World → Prop} (hw : Region.wanted o (yielded ops a.tmps) = true) (x : Operand) (ho : o.op = .load 81 x) (cb : Nat)
    (hx : a.eval x = .pointer (some ⟨cb, 0, none⟩)) (l : List Cask) (hl : l.length = 5) (hC : CasksAt w cb l) (h : wpListIn F n Try.prog ops Q rest (a.put o.dst (encCs l)) w) : wpListIn F n Try.prog ops Q (o :: rest) a w := by
  rw [wpListIn, if_pos hw]
  unfold Oper.wpIn
  refine ⟨?_, ?_⟩
  · simp [Oper.about, ho]
  · rw [Oper.semAt_plain F _ _ (by rw [ho]; intro c hc'; cases hc')]
    simp [execOp, ho, hx, load81 hl hC, Result.andThen]
    exact h
def setAll (cs : Array Value) : Nat → List Value → Array Value
  | _, [] => cs
  | o, v :: vs => setAll (cs.setIfInBounds o v) (o + 1) vs
theorem setCells_new (W : World) (t : TypeId) : ∀ (vs : List Value) (o : Nat) (cs : Array Value), (W.alloc (.cells cs t)).setCells W.heap.size o vs = W.alloc (.cells (setAll cs o vs) t)
  | [], _, _ => rfl
  | v :: vs, o, cs => by
    rw [World.setCells, World.setCell_alloc_at _ _ _ _ _ rfl, setCells_new W t vs (o + 1)]
    rfl
theorem setAll_casks {l : List Cask} (hl : l.length = 5) : setAll (flatC [c0, c0, c0, c0, c0]).toArray 0 (flatC l) = (flatC l).toArray := by
  obtain ⟨a, b, c, d, e, rfl⟩ := list5 hl
  kernel_rfl
/-- The store of casks into a variable that was just made. -/
theorem wplIn_store81 {F : Fence} {n : Nat} {ops : Array Oper} {rest : List Oper} {o : Oper} {a : Act} {w : World} {Q : Exit → Act → World → Prop} (hg : o.guard = none) (x y : Operand) (ho : o.op = .store 81 x y)
    (hx : a.eval x = .pointer (some ⟨w.heap.size, 0, none⟩)) (l : List Cask) (hl : l.length = 5) (hy : a.eval y = encCs l) (h : wpListIn F n Try.prog ops Q rest (a.put o.dst undef) (w.alloc (.cells (flatC l).toArray 81))) :
    wpListIn F n Try.prog ops Q (o :: rest) a (w.alloc (.cells (flatC [c0, c0, c0, c0, c0]).toArray 81)) := by
  refine wpListIn_plain hg fun K hK' => ?_
  have ht : (w.alloc (.cells (flatC [c0, c0, c0, c0, c0]).toArray 81)).there w.heap.size 0 (flatC l).toArray.size := by
    have := casks_there (W := w.alloc (.cells (flatC [c0, c0, c0, c0, c0]).toArray 81)) (cb := w.heap.size) (l := [c0, c0, c0, c0, c0]) (World.alloc_heap_new w _)
    have e : (flatC l).toArray.size = (flatC [c0, c0, c0, c0, c0]).toArray.size := by rw [List.size_toArray, List.size_toArray, flatC_len, flatC_len, hl]; rfl
    rw [e]
    exact this
  have hrun := run_storeAt_mid (P := Try.prog) _ w.heap.size 0 81 (flatC l).toArray ht (info81' hl) (flatC_one' l)
  rw [List.toList_toArray, setCells_new, setAll_casks hl] at hrun
  unfold Oper.wpIn
  refine ⟨?_, ?_⟩
  · simp [Oper.about, ho]
  · rw [Oper.semAt_plain F _ _ (by rw [ho]; intro c hc'; cases hc')]
    unfold encCs at hy
    simp [execOp, ho, hx, hy, hrun, Result.andThen]
    exact hK' _ _ h

theorem roundIn_any {n m l l' : Nat} {P : Program} {f : FuncId} {tmps : Array Value} {assign body : Code} {w : World} {R : Ending → World → Prop} (h : RoundIn Fence.wide n P l f tmps assign body w R) : RoundIn (Fence.wide.inRound l') m P l f tmps assign body w R :=
  ⟨trivial, fun c cs _ => h.2 c cs (fun d hd => by cases hd)⟩
theorem packings_any (L : HL) (h : House) (w : World) : Calls Try.prog 73 #[L.enc h] w fun e w' => e = .returned (.func (.func 96) #[] #[.pointer (some ⟨w.heap.size, 0, none⟩)]) ∧
    w' = w.alloc (.cells #[.slice L.Ak h.ks.length L.ck, .int .i64 h.fl, .slice L.Ap h.ps.length L.cp, .slice L.Ab h.bs.length L.cb] 26) := by
  go_enter Try.func73, Try.ntmps73
  go_wp2
  go_ret
  exact ⟨rfl, rfl⟩

/-- All packings, the first one first. -/
def packsL (h : House) : List (List Int) := (allS 0 h.bs.length h.ps.length).filter fun p => fitsC h (packedC h p)
set_option maxRecDepth 100000 in
set_option maxHeartbeats 4000000 in
theorem packs_sees (n : Nat) (hn1 : 3 ≤ n) (L : HL) (h : House) (hv : HOK h) (B hb : Nat) (w : World) (hB : B ≤ w.heap.size) (hH : HouseAt w B L h) (hX : HBox w hb L h) (S : Nat → Prop) (hS : ∀ k, S k → B ≤ k ∧ k < w.heap.size) (hSb : ¬ S hb) :
    SeqSees Fence.wide n Try.prog 96 #[] #[.pointer (some ⟨hb, 0, none⟩)] S (SeesP h) (packsL h) w := by
  intro l J Jx W hW hJ hJx hY h0
  have hWs := hW.size
  have hBW : B ≤ W.heap.size := by omega
  have hXW : HBox W hb L h := hX.of (hW.block hb hX.lt)
  have HHW := Lib.hid ((hH.keep (Nat.le_refl _) (fun b o hb => hW.cell (p := ⟨b, o, none⟩) (by show b < w.heap.size; omega)) : HouseAt W B L h))
  have hbl : hb < W.heap.size := hXW.lt
  have hbw : hb < w.heap.size := hX.lt
  have HV := Lib.hid hv
  have HS := Lib.hid hS
  have HSB := Lib.hid hSb
  have HJ := Lib.hid hJ
  have HJx := Lib.hid hJx
  have HY := Lib.hid hY
  have H0 := Lib.hid h0
  have HXW := Lib.hid hXW
  obtain ⟨g0, g1, g2, g3⟩ := hXW.cells
  clear hv hH hS hJ hJx hY h0 hW hX hSb hXW
  refine callsIn_of_wp_marks Try.func96 rfl trivial ?_ rfl
  simp only [Try.ntmps96, List.size_toArray, List.length_cons, List.length_nil, Nat.reduceAdd, Nat.reduceSub, Array.replicate_succ, Array.replicate_zero, List.push_toArray, List.append_toArray, List.nil_append, List.cons_append]
  gi_wp2
  obtain ⟨W1, hW1⟩ : ∃ W1, W.alloc (.cells #[.func (.yield l) #[] #[]] 100) = W1 := ⟨_, rfl⟩
  have hz1 : W1.heap.size = W.heap.size + 1 := by rw [← hW1]; simp
  have hb1 : Below W.heap.size W W1 := by rw [← hW1]; exact (Below.refl _ _).alloc (Nat.le_refl _) _
  have hx1 : W1.heap[W.heap.size]? = some (.cells #[.func (.yield l) #[] #[]] 100 (0, 0)) := by rw [← hW1]; exact World.alloc_heap_new W _
  have hH1 : HouseAt W1 B L h := HHW.out.keep (Nat.le_refl _) fun b o hb => hb1.cell (p := ⟨b, o, none⟩) (by show b < W.heap.size; omega)
  have hX1 : HBox W1 hb L h := HXW.out.of (hb1.block hb hbl)
  rw [hW1]
  clear hW1 g0 g1 g2 g3
  have hz1a : W1.heap.size ≤ W.heap.size + 1 := by omega
  have hz1b : W.heap.size + 1 ≤ W1.heap.size := by omega
  clear hz1
  refine wpIn_rangeFunc_sees (S := fun k => S k ∨ Seg w.heap.size W.heap.size k) (Sees := SeesP h) (fb := #[stkV L h 0]) (lb := #[]) (xs := allS 0 h.bs.length h.ps.length) (w0 := W1) rfl (by omega) rfl trivial (fun _ _ => rfl)
    (all_sees (n - 1) (by omega) L h HV.out 0 (by omega) B W1 (by omega) hH1 _ (fun k hk => hk.elim (fun hk => by have := HS.out k hk; omega) (fun hk => by have h1 := hk.1; have h2 := hk.2; omega))) (Below.refl _ _) (fun k hk => hk.elim (fun hk => by have := HS.out k hk; omega) (fun hk => by have h2 := hk.2; omega))
    (fun B x args X hs => by obtain ⟨pb, -, rfl, -⟩ := hs; rfl) (fun B x args X Y _ hs hk => hs.kept hk)
    (fun D pre X => J D (pre.filter fun p => fitsC h (packedC h p)) X ∧ X.heap[W.heap.size]? = some (.cells #[.func (.yield l) #[] #[]] 100 (0, 0)) ∧ HBox X hb L h ∧ HouseAt X B L h)
    (fun c D pre X => c = .ret ∧ Jx D (pre.filter fun p => fitsC h (packedC h p)) X)
    ?hI ?hIx ?h0 (fun x args a' X => ∃ b4, W1.heap.size + 2 ≤ b4 ∧ CasksAt X b4 (packedC h x) ∧ a' = { tmps := #[.func (.yield l) #[] #[], .pointer (some ⟨hb, 0, none⟩), .pointer (some ⟨W.heap.size, 0, none⟩), args.getD 0 undef, .pointer (some ⟨b4, 0, none⟩), L.enc h, stkV L h 0, .func (.func 66) #[stkV L h 0] #[], args.getD 0 undef, args.getD 1 undef, undef, undef, undef, undef, undef, undef, undef, undef, undef, undef], defers := [] }) ?hAx ?hassign ?hbody ?hdone ?hstop
  case hI =>
    rintro D s X Y hD hX ⟨h1, h2, h3, h4⟩ hk
    refine ⟨HJ.out D _ X Y (by omega) hX h1 (hk.mono (Nat.le_refl _) fun k _ hs => ⟨by have := hs.1; omega, hs.2⟩), (hk.block _ (Array.getElem?_eq_some_iff.1 h2).1 (fun hs => by have := hs.1; omega)).trans h2, h3.of (hk.block _ h3.lt (fun hs => by have := hs.1; omega)), h4.keep (Nat.le_refl _) fun b o hb => hk.cell (by omega) (fun hs => by have := hs.1; omega)⟩
  case hIx =>
    rintro c D s X Y hD hX ⟨h1, h2⟩ hk
    exact ⟨h1, HJx.out D _ X Y (by omega) hX h2 (hk.mono (Nat.le_refl _) fun k _ hs => ⟨by have := hs.1; omega, hs.2⟩)⟩
  case h0 =>
    intro D X hD hX hb
    exact ⟨H0.out D X (by omega) hX (hb1.trans (hb.mono (by omega))), (hb.block _ (by omega)).trans hx1, hX1.of (hb.block _ (by omega)), hH1.keep (Nat.le_refl _) fun b o hb' => hb.cell (p := ⟨b, o, none⟩) (by show b < W1.heap.size; omega)⟩
  case hAx =>
    rintro x args a' X Y hz ⟨b4, h1, h2, h3⟩ hk
    exact ⟨b4, h1, (hk.block _ (Array.getElem?_eq_some_iff.1 h2).1 (fun hs => by have hs' : b4 < W1.heap.size + 2 := hs; omega)).trans h2, h3⟩
  case hassign =>
    intro l' x args X K hz hs hK
    obtain ⟨pb, -, rfl, -⟩ := hs
    have hK' := hK _ (X.alloc (.cells (flatC (packedC h x)).toArray 81)) (.inr ⟨_, rfl⟩) ⟨X.heap.size, by omega, World.alloc_heap_new X _, rfl⟩
    clear hK
    simp only [List.zip_toArray, List.zip_cons_cons, List.zip_nil_right, List.foldl_toArray, List.foldl_cons, List.foldl_nil, List.setIfInBounds_toArray, List.set_cons_succ, List.set_cons_zero]
    have hl5 : (packedC h x).length = 5 := casksTo_len _ _ _
    gi_wp2_with (refine wplIn_store81 rfl (.tmp 4) (.tmp 9) rfl rfl (packedC h x) hl5 rfl ?_)
    exact hK'
  case hbody =>
    rintro l' D pre x args a' X hD hX hpre ⟨hJ, hx2, hX2, hH2⟩ hs ⟨b4, hb4, hC4, rfl⟩
    obtain ⟨pb, hpb, rfl, hpk⟩ := hs
    have hxm := mem_allS.1 (hpre.subset (List.mem_append_right _ (List.mem_singleton.2 rfl)))
    have HXM := Lib.hid hxm
    clear hxm
    have hl5 : (packedC h x).length = 5 := casksTo_len _ _ _
    have hok : ∀ (j : Nat) (c : Cask), (packedC h x)[j]? = some c → c.ok := fun j c hc => (casksTo_upto HV.out x _ (Nat.le_refl _) j c hc).ok (by have := HV.out.pl; omega)
    obtain ⟨g0, g1, g2, g3⟩ := hX2.cells
    have gx : X.cell? ⟨W.heap.size, 0, none⟩ = some (.func (.yield l) #[] #[]) := by simp [World.cell?, hx2]
    cases hf : fitsC h (packedC h x)
    · gi_wp2_with (first
        | (refine wplIn_load81 rfl (.tmp 4) rfl b4 rfl (packedC h x) hl5 hC4 ?_)
        | (refine ⟨trivial, (fun hh => by cases hh), ?_⟩; gi_at_call 67; refine (CallsIn.mono (CallsIn.inRound l' (callsIn_wide.2 (fits_any L h HV.out _ hl5 hok X (hH2.more (by omega))))) ?_); rintro e W5 ⟨rfl, hb5⟩))
      have hff : (pre ++ [x]).filter (fun p => fitsC h (packedC h p)) = pre.filter (fun p => fitsC h (packedC h p)) := by simp [hf]
      have HFF := Lib.hid hff
      clear hff
      refine ⟨fun _ hh => (by cases hh), ?_⟩
      gi_wp2
      have kX5 : KpB (fun k => S k ∨ Seg w.heap.size W.heap.size k) D X W5 := kpB_of_below (hb5.mono hX)
      refine ⟨kX5, ?_, (hb5.block _ (by omega)).trans hx2, hX2.of (hb5.block _ hX2.lt), hH2.keep (Nat.le_refl _) fun b o hb => hb5.cell (p := ⟨b, o, none⟩) (by show b < X.heap.size; omega)⟩
      show J D ((pre ++ [x]).filter (fun p => fitsC h (packedC h p))) W5
      rw [HFF.out]
      exact HJ.out D _ X W5 (by omega) hX hJ (kpB_of_below hb5)
    · have hpre2 : pre.filter (fun p => fitsC h (packedC h p)) ++ [x] <+: packsL h := by
        obtain ⟨t, ht⟩ := hpre
        exact ⟨t.filter fun p => fitsC h (packedC h p), by rw [packsL, ← ht, List.filter_append, List.filter_append]; simp [hf]⟩
      have hyk : ∀ X5, Below X.heap.size X X5 → YieldAt Fence.wide (n - 1) Try.prog l #[.slice (some ⟨pb, 0, none⟩) x.length x.length, encCs (packedC h x)] X5 _ := fun X5 hb5 =>
        HY.out D _ x _ X5 (by omega) (by have := hb5.size; omega) (HJ.out D _ X X5 (by omega) hX hJ (kpB_of_below hb5)) ⟨pb, by omega, rfl, (hb5.block _ hpk.lt).trans hpk⟩ hpre2
      have HYK := Lib.hid hyk
      clear hyk
      gi_wp2_with (first
        | (refine wplIn_load81 rfl (.tmp 4) rfl b4 rfl (packedC h x) hl5 (by assumption) ?_)
        | (refine ⟨trivial, (fun hh => by cases hh), ?_⟩; gi_at_call 67; refine (CallsIn.mono (CallsIn.inRound l' (callsIn_wide.2 (fits_any L h HV.out _ hl5 hok X (hH2.more (by omega))))) ?_); rintro e W5 ⟨rfl, hb5⟩; obtain ⟨fn, tmps, assign, body, hy, hR⟩ := HYK.out W5 hb5; have hC5 : CasksAt W5 b4 (packedC h x) := (hb5.block _ (Array.getElem?_eq_some_iff.1 hC4).1).trans hC4; have gx5 := below_cell hb5 gx))
      have hff : (pre ++ [x]).filter (fun p => fitsC h (packedC h p)) = pre.filter (fun p => fitsC h (packedC h p)) ++ [x] := by simp [hf]
      have HFF := Lib.hid hff
      clear hff
      refine ⟨(fun hh => by cases hh), roundIn_any (hR.mono ?_)⟩
      rintro e X6 ⟨hk6, (⟨rfl, hJ6⟩ | ⟨rfl, hJ6⟩)⟩
      · gi_wp2
        have kX6 : KpB (fun k => S k ∨ Seg w.heap.size W.heap.size k) D X X6 := (kpB_of_below (hb5.mono hX)).trans hk6
        have hns : ∀ k, k < W.heap.size + 1 → (k < B ∨ k = hb ∨ k = W.heap.size) → ¬ (S k ∨ Seg w.heap.size W.heap.size k) := fun k hk h1 h2 => by
          rcases h2 with h2 | h2
          · have h3 := HS.out k h2
            rcases h1 with h1 | h1 | h1
            · omega
            · subst h1; exact HSB.out h2
            · omega
          · have h3 := h2.1
            have h4 := h2.2
            omega
        refine ⟨kX6, ?_, (kX6.block _ (by omega) (hns _ (by omega) (.inr (.inr rfl)))).trans hx2, hX2.of (kX6.block _ (by omega) (hns _ (by omega) (.inr (.inl rfl)))), hH2.keep (Nat.le_refl _) fun b o hb => kX6.cell (by omega) (hns _ (by omega) (.inl hb))⟩
        show J D ((pre ++ [x]).filter (fun p => fitsC h (packedC h p))) X6
        rw [HFF.out]
        exact hJ6
      · gi_wp2
        refine ⟨(kpB_of_below (hb5.mono hX)).trans hk6, rfl, ?_⟩
        show Jx D ((pre ++ [x]).filter (fun p => fitsC h (packedC h p))) X6
        rw [HFF.out]
        exact hJ6
  case hdone =>
    rintro D X hD hX ⟨hJ, hx2, hX2, hH2⟩ hk
    gi_wp2
    refine ⟨by simp, .inl ⟨_, _, rfl, run_takeDeferred hk, ?_⟩⟩
    refine ⟨_, results_none rfl _ _ _, ?_⟩
    exact ⟨⟨_, rfl⟩, D, by omega, by simpa using hX, .inl (HJ.out D _ X _ (by omega) hX hJ ((KpB.refl _ _ _).put _ _ (.inl ⟨by omega, by omega⟩)))⟩
  case hstop =>
    rintro D c pre X hD hX hpre ⟨rfl, hJ⟩ hk
    gi_wp2
    refine ⟨by simp, .inl ⟨_, _, rfl, run_takeDeferred hk, ?_⟩⟩
    refine ⟨_, results_none rfl _ _ _, ?_⟩
    exact ⟨⟨_, rfl⟩, D, by omega, by simpa using hX, .inr ⟨_, by
      obtain ⟨t, ht⟩ := hpre
      exact ⟨t.filter fun p => fitsC h (packedC h p), by rw [packsL, ← ht, List.filter_append]⟩, HJx.out D _ X _ (by omega) hX hJ ((KpB.refl _ _ _).put _ _ (.inl ⟨by omega, by omega⟩))⟩⟩
end Go.Proofs.Ytgemmmdcpbajoaa
namespace Go.Proofs.Ytgemmmdcpbajoaa
open Go.RowKit
attribute [local go_sem] Oper.semAt_some

theorem wplIn_make24 {F : Fence} {nF : Nat} {ops : Array Oper} {rest : List Oper} {o : Oper} {a : Act} {w : World} {Q : Exit → Act → World → Prop} (hgd : o.guard = none) (l : Operand) (ho : o.op = .makeSlice 24 l l) (n : Nat) (hl : a.eval l = .int .i64 n) (hn : n ≤ 1000)
    (h : wpListIn F nF Try.prog ops Q rest (a.put o.dst (.slice (some ⟨w.heap.size, 0, none⟩) n n)) (w.alloc (.cells (List.replicate n (Value.int .i64 0)).toArray 3))) : wpListIn F nF Try.prog ops Q (o :: rest) a w := by
  refine wpListIn_plain hgd fun K hK' => ?_
  have hrun := run_make24 n hn w
  unfold Oper.wpIn
  refine ⟨?_, ?_⟩
  · simp [Oper.about, ho]
  · rw [Oper.semAt_plain F _ _ (by rw [ho]; intro c hc'; cases hc')]
    simp [execOp, ho, hl, hrun, Result.andThen]
    exact hK' _ _ h
theorem wplIn_copyP {F : Fence} {nF : Nat} {ops : Array Oper} {rest : List Oper} {o : Oper} {a : Act} {w : World} {Q : Exit → Act → World → Prop} (hgd : o.guard = none) (d s : Operand)
    (ho : o.op = .call { callee := .builtin .copy, args := #[d, s], argTypes := #[24, 24] }) (g pb n : Nat) (hd : a.eval d = .slice (some ⟨g, 0, none⟩) n n) (hs : a.eval s = .slice (some ⟨pb, 0, none⟩) n n)
    (p q : List Int) (hp : p.length = n) (hq : q.length = n) (hP : PackAt w pb p) (hG : PackAt w g q)
    (h : ∀ w', Hid (PackAt w' g p) → KpB (fun k => k = g) w.heap.size w w' → wpListIn F nF Try.prog ops Q rest (a.put o.dst (goInt n)) w') : wpListIn F nF Try.prog ops Q (o :: rest) a w := by
  refine wpListIn_plain hgd fun K hK' => ?_
  have fin : ∀ w', Hid (PackAt w' g p) → KpB (fun k => k = g) w.heap.size w w' → K (a.put o.dst (goInt n)) w' := fun w' h1 h2 => hK' _ _ (h w' h1 h2)
  unfold Oper.wpIn
  refine ⟨?_, ?_⟩
  · simp [Oper.about, ho, resolve, Target.leads, Sem.run_pure]
  · rw [Oper.semAt_plain F _ _ (by rw [ho]; intro c hc'; cases hc')]
    by_cases h0 : n = 0
    · have hp0 : p = [] := List.eq_nil_of_length_eq_zero (by omega)
      have hq0 : q = [] := List.eq_nil_of_length_eq_zero (by omega)
      have hrun := run_copy_none (P := Try.prog) w 24 24 o.type 3 (some ⟨g, 0, none⟩) (some ⟨pb, 0, none⟩) n n n n Try.underlying24 size3 (by simp [h0])
      simp [execOp, ho, resolve, invoke, builtin, hd, hs, hrun, Result.andThen]
      have := fin w (by subst hp0 hq0; exact Lib.hid hG) (KpB.refl _ _ _)
      rw [h0] at this
      exact this
    · have hG' : w.heap[g]? = some (.cells (encP q).toArray 3 (0, 0)) := hG
      have hrun := run_copy_row (P := Try.prog) w 24 24 o.type 3 g 0 n n ⟨pb, 0, none⟩ n n (encP q).toArray 3 (encP p) Try.underlying24 size3 hG' (by simp [encP, hp]) (fun j v hj => by
        rw [addr_add, Nat.zero_add]
        simp [World.cell?, show w.heap[pb]? = _ from hP, hj]) (by simp [encP, hp, hq]) (by intro v hv; simp only [encP, List.mem_map] at hv; obtain ⟨x, -, rfl⟩ := hv; rfl)
      simp [execOp, ho, resolve, invoke, builtin, hd, hs, hrun, Result.andThen]
      have e : (encP p).length = n := by simp [encP, hp]
      rw [e]
      refine fin _ (Lib.hid ?_) ⟨rfl, rfl, rfl, by simp [World.setRow], fun k hk hs => setRow_other w g k _ hs⟩
      have hh := setRow_heap w g (encP q).toArray (((encP q).take 0 ++ (encP p ++ (encP q).drop (0 + (encP p).length))).toArray) 3 (0, 0) hG'
      have e2 : (encP q).drop n = [] := by rw [List.drop_eq_nil_of_le (by simp [encP, hq])]
      simpa [PackAt, e, e2] using hh

/-- The first of the least ones, as choose finds it. -/
def stepB (f : List Int → Int) (s : Option (List Int × Int)) (p : List Int) : Option (List Int × Int) :=
  match s with
  | none => some (p, f p)
  | some (b, m) => if f p < m then some (p, f p) else some (b, m)
def bestOf (f : List Int → Int) (l : List (List Int)) : Option (List Int × Int) := l.foldl (stepB f) none
theorem bestOf_snoc (f : List Int → Int) (l : List (List Int)) (p : List Int) : bestOf f (l ++ [p]) = stepB f (bestOf f l) p := by simp [bestOf]
def ChooseRet (h : House) (is : Bool) (f : List Cask → Int) (B : Nat) (w' : World) (e : Ending) : Prop :=
  if validH h = false then e = .returned (.tuple #[.slice none 0 0, .int .i64 0, .int .i64 80])
  else if is = false then e = .returned (.tuple #[.slice none 0 0, .int .i64 0, .int .i64 1])
  else match bestOf (fun p => f (packedC h p)) (packsL h) with
    | none => e = .returned (.tuple #[.slice none 0 0, .int .i64 0, .int .i64 3])
    | some (p, m) => ∃ pb, e = .returned (.tuple #[.slice (some ⟨pb, 0, none⟩) p.length p.length, .int .i64 m, .int .i64 0]) ∧ PackAt w' pb p ∧ B ≤ pb
/-- choose's own memory: its house, the number's function, the best list, its number, the error. -/
structure ChSt (W : World) (s : Nat) (L : HL) (h : House) (gv best : Value) (m e : Int) : Prop where
  b0 : HBox W s L h
  b1 : Boxed W (s + 1) 94 gv
  b2 : Boxed W (s + 1 + 1) 24 best
  b3 : Boxed W (s + 1 + 1 + 1) 3 (.int .i64 m)
  b4 : Boxed W (s + 1 + 1 + 1 + 1) 30 (.int .i64 e)
section
variable {W W' : World} {s : Nat} {L : HL} {h : House} {gv best : Value} {m e : Int}
theorem ChSt.kp (H : ChSt W s L h gv best m e) {S : Nat → Prop} {n : Nat} (hk : KpB S n W W') (hn : s + 5 ≤ n) (hS : ∀ k, S k → k < s ∨ s + 5 ≤ k) : ChSt W' s L h gv best m e := by
  have g : ∀ k, s ≤ k → k < s + 5 → W'.heap[k]? = W.heap[k]? := fun k h1 h2 => hk.block k (by omega) (fun h => by have := hS k h; omega)
  exact ⟨H.b0.of (g _ (by omega) (by omega)), (g _ (by omega) (by omega)).trans H.b1, (g _ (by omega) (by omega)).trans H.b2, (g _ (by omega) (by omega)).trans H.b3, (g _ (by omega) (by omega)).trans H.b4⟩
theorem ChSt.lt (H : ChSt W s L h gv best m e) : s + 5 ≤ W.heap.size := by have := H.b4.lt; omega
theorem ChSt.below (H : ChSt W s L h gv best m e) (hb : Below W.heap.size W W') : ChSt W' s L h gv best m e := H.kp (kpB_of_below hb (S := fun _ => False)) H.lt (fun _ h => h.elim)
theorem boxed_other {W : World} {B b o : Nat} {t : TypeId} {v u : Value} (h : Boxed W B t v) (hne : B ≠ b) : Boxed (W.setCell ⟨b, o, none⟩ u) B t v := (((KpB.refl (fun k => k = b) W.heap.size W).set o u (.inl rfl)).block B h.lt hne).trans h
theorem hbox_other {W : World} {B b o : Nat} {L : HL} {h : House} {u : Value} (hb : HBox W B L h) (hne : B ≠ b) : HBox (W.setCell ⟨b, o, none⟩ u) B L h := hb.of (((KpB.refl (fun k => k = b) W.heap.size W).set o u (.inl rfl)).block B hb.lt hne)
theorem ChSt.setE (H : ChSt W s L h gv best m e) (e' : Int) : ChSt (W.setCell ⟨s + 1 + 1 + 1 + 1, 0, none⟩ (.int .i64 e')) s L h gv best m e' :=
  ⟨hbox_other H.b0 (by omega), boxed_other H.b1 (by omega), boxed_other H.b2 (by omega), boxed_other H.b3 (by omega), H.b4.set _⟩
theorem ChSt.setM (H : ChSt W s L h gv best m e) (m' : Int) : ChSt (W.setCell ⟨s + 1 + 1 + 1, 0, none⟩ (.int .i64 m')) s L h gv best m' e :=
  ⟨hbox_other H.b0 (by omega), boxed_other H.b1 (by omega), boxed_other H.b2 (by omega), H.b3.set _, boxed_other H.b4 (by omega)⟩
theorem ChSt.setB (H : ChSt W s L h gv best m e) (b' : Value) : ChSt (W.setCell ⟨s + 1 + 1, 0, none⟩ b') s L h gv b' m e :=
  ⟨hbox_other H.b0 (by omega), boxed_other H.b1 (by omega), H.b2.set _, boxed_other H.b3 (by omega), boxed_other H.b4 (by omega)⟩
theorem ChSt.new (w : World) (L : HL) (h : House) (gv : Value) : ChSt (((((w.alloc (.cells #[.slice L.Ak h.ks.length L.ck, .int .i64 h.fl, .slice L.Ap h.ps.length L.cp, .slice L.Ab h.bs.length L.cb] 26)).alloc (.cells #[gv] 94)).alloc (.cells #[.slice none 0 0] 24)).alloc (.cells #[.int .i64 0] 3)).alloc (.cells #[.int .i64 0] 30)) w.heap.size L h gv (.slice none 0 0) 0 0 := by
  have c0 := HBox.new w L h
  have c1 := Boxed.new (w.alloc (.cells #[.slice L.Ak h.ks.length L.ck, .int .i64 h.fl, .slice L.Ap h.ps.length L.cp, .slice L.Ab h.bs.length L.cb] 26)) 94 gv
  have c2 := Boxed.new ((w.alloc (.cells #[.slice L.Ak h.ks.length L.ck, .int .i64 h.fl, .slice L.Ap h.ps.length L.cp, .slice L.Ab h.bs.length L.cb] 26)).alloc (.cells #[gv] 94)) 24 (.slice none 0 0)
  have c3 := Boxed.new (((w.alloc (.cells #[.slice L.Ak h.ks.length L.ck, .int .i64 h.fl, .slice L.Ap h.ps.length L.cp, .slice L.Ab h.bs.length L.cb] 26)).alloc (.cells #[gv] 94)).alloc (.cells #[.slice none 0 0] 24)) 3 (.int .i64 0)
  have c4 := Boxed.new ((((w.alloc (.cells #[.slice L.Ak h.ks.length L.ck, .int .i64 h.fl, .slice L.Ap h.ps.length L.cp, .slice L.Ab h.bs.length L.cb] 26)).alloc (.cells #[gv] 94)).alloc (.cells #[.slice none 0 0] 24)).alloc (.cells #[.int .i64 0] 3)) 30 (.int .i64 0)
  simp only [World.size_alloc] at c1 c2 c3 c4
  refine ⟨?_, ((c1.alloc _).alloc _).alloc _, (c2.alloc _).alloc _, c3.alloc _, c4⟩
  exact (((c0.of (Below.heap_alloc _ _ _ (by simp))).of (Below.heap_alloc _ _ _ (by simp; omega))).of (Below.heap_alloc _ _ _ (by simp; omega))).of (Below.heap_alloc _ _ _ (by simp; omega))
end
theorem results85_of {W : World} {s : Nat} {L : HL} {h : House} {gv best : Value} {m e : Int} (H : ChSt W s L h gv best m e) {tmps : Array Value} (h6 : tmps[6]?.getD undef = .pointer (some ⟨s + 1 + 1, 0, none⟩)) (h7 : tmps[7]?.getD undef = .pointer (some ⟨s + 1 + 1 + 1, 0, none⟩)) (h8 : tmps[8]?.getD undef = .pointer (some ⟨s + 1 + 1 + 1 + 1, 0, none⟩)) :
    (results Try.f85 tmps).run Try.prog W = .ok (.tuple #[best, .int .i64 m, .int .i64 e]) W := by
  have c2 := H.b2.cell
  have c3 := H.b3.cell
  have c4 := H.b4.cell
  simp [results, Try.results85, go_sem, h6, h7, h8, c2, c3, c4]
theorem below5 (w : World) (a b c d e : Obj) : Below w.heap.size w (((((w.alloc a).alloc b).alloc c).alloc d).alloc e) :=
  (((((Below.refl _ _).alloc (Nat.le_refl _) _).alloc (by simp) _).alloc (by simp; omega) _).alloc (by simp; omega) _).alloc (by simp; omega) _
set_option maxRecDepth 100000 in
set_option maxHeartbeats 4000000 in
theorem choose_no (gf : Nat) (lb : Array Value) (f : List Cask → Int) (L : HL) (h : House) (hn : h.ks.length ≤ 1000 ∧ h.ps.length ≤ 1000 ∧ h.bs.length ≤ 1000) (is : Bool) (hno : validH h = false ∨ is = false) (w : World) (hH : HouseAt w w.heap.size L h) :
    Calls Try.prog 85 #[L.enc h, .bool is, .func (.func gf) #[] lb] w fun e w' => ChooseRet h is f w.heap.size w' e ∧ Below w.heap.size w w' := by
  have hst := ChSt.new w L h (.func (.func gf) #[] lb)
  have hbw := fun o => below5 w (.cells #[.slice L.Ak h.ks.length L.ck, .int .i64 h.fl, .slice L.Ap h.ps.length L.cp, .slice L.Ab h.bs.length L.cb] 26) (.cells #[.func (.func gf) #[] lb] 94) (.cells #[.slice none 0 0] 24) (.cells #[.int .i64 0] 3) o
  have HBW := Lib.hid (hbw (.cells #[.int .i64 0] 30))
  clear hbw
  cases hv : validH h
  · have hk : ckH h = 80 := ckH_no hv
    have HV := Lib.hid hv
    clear hv hno
    have HC := Lib.hid (fun W (hW : Below w.heap.size w W) => check_any L h hn W (hH.below hW))
    clear hH
    go_enter Try.func85, Try.ntmps85
    go_wp2_with (go_at_call 28; refine (HC.out _ HBW.out).mono ?_; rintro e w1 ⟨rfl, hb1⟩; have hs1 := hst.below hb1; have hc2 := hs1.b2.cell; have hc3 := hs1.b3.cell; have hc4 := hs1.b4.cell; have hf2 := hs1.b2.frozen; have hf3 := hs1.b3.frozen; have hf4 := hs1.b4.frozen)
    refine bodyPost_ret (results85_of (((hs1.setB (.slice none 0 0)).setM 0).setE 80) rfl rfl rfl) rfl ⟨?_, ?_⟩
    · unfold ChooseRet; rw [if_pos HV.out]
    · exact ((((HBW.out).trans (hb1.mono HBW.out.size)).setCell (by simp; omega) _).setCell (by simp; omega) _).setCell (by simp; omega) _
  · have hk : ckH h = 0 := ckH_yes hv
    obtain rfl : is = false := by
      rcases hno with hno | hno
      · rw [hno] at hv; cases hv
      · exact hno
    have HV := Lib.hid hv
    clear hv hno
    have HC := Lib.hid (fun W (hW : Below w.heap.size w W) => check_any L h hn W (hH.below hW))
    clear hH
    go_enter Try.func85, Try.ntmps85
    go_wp2_with (go_at_call 28; refine (HC.out _ HBW.out).mono ?_; rintro e w1 ⟨rfl, hb1⟩; have hs1 := hst.below hb1; have hc2 := hs1.b2.cell; have hc3 := hs1.b3.cell; have hc4 := hs1.b4.cell; have hf2 := hs1.b2.frozen; have hf3 := hs1.b3.frozen; have hf4 := hs1.b4.frozen)
    refine bodyPost_ret (results85_of (((hs1.setB (.slice none 0 0)).setM 0).setE 1) rfl rfl rfl) rfl ⟨?_, ?_⟩
    · unfold ChooseRet; rw [if_neg (by rw [HV.out]; decide), if_pos rfl]
    · exact ((((HBW.out).trans (hb1.mono HBW.out.size)).setCell (by simp; omega) _).setCell (by simp; omega) _).setCell (by simp; omega) _
end Go.Proofs.Ytgemmmdcpbajoaa
