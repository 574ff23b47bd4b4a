import Derived.Test.YtmbcpmnigggbaaaGreatShF7
import Derived.Deep.RegionHeld3
import Derived.Deep.RegionWith
import Derived.Deep.OwnRows
import Derived.Deep.DeepMust
import Derived.Test.YtmbcpmnigggbaaaGreatRZ
import Derived.Test.YtmbcpmnigggbaaaGreatFW
import Derived.Test.YtmbcpmnigggbaaaGreatO1
import Derived.Test.YtmbcpmnigggbaaaGreatShM7
import Derived.Test.YtmbcpmnigggbaaaGreatShF2
import Derived.Test.YtmbcpmnigggbaaaGreatPP
namespace Go.Proofs.YtmbcpmnigggbaaaGreat.Sh
open Go.RowKit

def keptsTo (ns : List Node) (P : Int) (k : Nat) : List Int := (List.range k).map (keptS ns P)
theorem keptsTo_succ (ns : List Node) (P : Int) (k : Nat) : keptsTo ns P (k + 1) = keptsTo ns P k ++ [keptS ns P k] := by simp [keptsTo, List.range_succ]

set_option maxRecDepth 100000 in
set_option maxHeartbeats 8000000 in
theorem keepsOf_any (A : Option Addr) (c : Nat) (ns : List Node) (p : Int) (hg : GoodC ns) (hp0 : 0 ≤ p) (hp4 : p ≤ 400) (w : World) (hN : Nodes w w.heap.size A ns) :
    Calls Tryz.prog 29 #[.agg #[.slice A ns.length c], .int .i64 p] w fun e w' => ∃ B d, e = .returned (.slice B ns.length d) ∧ IntsAt w' w'.heap.size B (keptsS ns p) ∧ Below w.heap.size w w' := by
  have EH := Lib.hid (Env.new c hN)
  have hl8 := hg.l8
  have hsz1 : w.heap.size + 1 ≤ (w.alloc (.cells #[.slice A ns.length c] 24)).heap.size := by simp
  clear hN
  go_enter Tryz.func29, Tryz.ntmps29
  go_wp2
  go_loopw [5, 6, 7, 8] (fun v i _ _ wr => ∃ k : Nat, k ≤ ns.length ∧ i = .int .i64 k ∧ Hid (Ints wr (w.heap.size + 1) v (keptsTo ns p k)) ∧ Below (w.heap.size + 1) (w.alloc (.cells #[.slice A ns.length c] 24)) wr) (fun _ i _ _ _ => ns.length - (intOf i).toNat)
  case atStart => exact ⟨0, Nat.zero_le _, rfl, Lib.hid (ints_nil _ _), Below.refl _ _⟩
  case round =>
    obtain ⟨k, hk, rfl, HV, hb⟩ := hrel
    have HE1 := Lib.hid (EH.out.next (hb.mono (by simp)))
    have q0 := HE1.out.bC.cell
    have hwr : w.heap.size + 1 ≤ wr.heap.size := Nat.le_trans hsz1 hb.size
    by_cases hlt : k < ns.length
    · have HC := Lib.hid (getsOf_is A c ns p hg hp0 hp4 k wr.drew hlt (HE1.out.next (drew_below wr)).hN)
      have E1 := Lib.hid (HE1.out.next (drew_below wr))
      have hbd := gotS_bd hg hp0 k hlt
      have hlen : (keptsTo ns p k).length ≤ 1000 := by simp [keptsTo]; omega
      go_wp2
      go_region_with (first
        | (go_at_call 54; go_must (refine HC.out.mono ?_; rintro e w2 ⟨rfl, hb2⟩; have E2 := E1.out.next hb2; have r1 := E2.bC.cell))
        | (go_at_call 53; go_must (refine (splitOf_any A c ns k (gotS ns p k) hg hbd.1 (by omega) w2 E2.hN).mono ?_; rintro e w3 ⟨B, d, rfl, hI, hb3⟩; have E3 := E2.next hb3)))
      all_goals
        have hbr3 : Below wr.heap.size wr w3 := (drew_below wr).trans ((hb2.trans (hb3.mono hb2.size)).mono (Nat.le_refl _))
        clear q0 r1 E2 hI
        go_wp2_with (at_builtin; go_must (refine wpl_app rfl (.tmp 26) (.tmp 28) rfl (w.heap.size + 1) (w.heap.size + 1) _ (keptsTo ns p k) (keptS ns p k) rfl (Ints.below_ HV.out (hbr3.alloc hbr3.size _) (Nat.le_refl _)) ⟨w3.heap.size, 0, none⟩ 1 rfl (Boxed.cell (Boxed.new w3 3 (.int .i64 (keptS ns p k)))) hlen (by have := hbr3.size; simp; omega) (Nat.le_refl _) ?_; intro v' w4 hown4 hb7))
        go_roundw
        case rel => exact ⟨k + 1, by omega, by go_num, Lib.hid (by rw [keptsTo_succ]; exact hown4), (hb.trans (hbr3.mono hwr)).trans (((Below.refl _ w3).alloc (Nat.le_trans hwr hbr3.size) _).trans hb7)⟩
        case measure => simp [intOf]; omega
    · obtain rfl : k = ns.length := by omega
      obtain ⟨A3, c3, rfl, _, hI3⟩ := Ints.lay HV.out
      have HI3 := Lib.hid hI3
      clear hI3
      go_wp2
      go_ret
      exact ⟨A3, c3, by simp [keptsTo], HI3.out, HE1.out.hb⟩
open Go.RowKit

end Go.Proofs.YtmbcpmnigggbaaaGreat.Sh
namespace Go.Proofs.YtmbcpmnigggbaaaGreat
open Go.RowKit
/-! Sold of the program, 9, and of the specification, 10. -/
theorem paid_small {f : Fair} (h : FOK f) : 0 ≤ paidTo f.q (rdF f) f.nb.toNat ∧ paidTo f.q (rdF f) f.nb.toNat ≤ 396 := by
  have h1 := paid_le h
  have h2 : mW f = bringsL f.q (wL f) := mostV_win h.ql h.pos'
  have h3 := brings_le h.pay (wL f)
  have h4 := sale_buyers (n := f.nb.toNat) (wL_win h).sale fun b hb => by
    have := h.who b hb
    have := h.n0
    omega
  have h5 := h.n1
  omega
theorem Sh.ck_valid {ns : List Sh.Node} (hk : Sh.ckE ns = 0) : Sh.validB ns = true := by
  cases h : Sh.validB ns
  · rw [Sh.ckE_no h] at hk
    exact absurd hk (by decide)
  · rfl
theorem Sh.pence_zero {ns : List Sh.Node} {p : Int} (hk : Sh.ckE ns = 0) (h0 : 0 ≤ p) (h4 : p ≤ 400) : Sh.penceE ns p = 0 := by
  have hv := Sh.ck_valid hk
  have hi : Sh.inR p 0 400 = true := Sh.inR_true.2 ⟨h0, h4⟩
  simp [Sh.penceE, Sh.askE, hv, hi]
def soldRet (ns : List Sh.Node) (f : Fair) : List Int × Int := if Sh.ckE ns = 0 then (if (paidRet f).2 = 0 then (Sh.keptsS ns (paidRet f).1, 0) else ([], (paidRet f).2)) else ([], Sh.ckE ns)
def SoldEnd (r : List Int × Int) (w' : World) (e : Ending) : Prop := ∃ A c, e = .returned (.tuple #[.slice A r.1.length c, .int .i64 r.2]) ∧ IntsAt w' w'.heap.size A r.1
structure SIn (W : World) (b : Nat) (A : Option Addr) (c : Nat) (ns : List Sh.Node) (F : FL) (f : Fair) : Prop where
  N : Sh.Nodes W W.heap.size A ns
  bx : W.heap[b]? = some (.cells #[.slice A ns.length c] 24)
  H : FairAt W W.heap.size F f
  x : FBox W (b + 1) F f
theorem SIn.next {W W' : World} {b : Nat} {A : Option Addr} {c : Nat} {ns : List Sh.Node} {F : FL} {f : Fair} (h : SIn W b A c ns F f) (hb : Below W.heap.size W W') : SIn W' b A c ns F f :=
  ⟨Sh.Nodes.lt h.N hb, (hb.block _ (heap_lt h.bx)).trans h.bx, h.H.below hb, h.x.of (hb.block _ h.x.lt)⟩
set_option maxRecDepth 100000 in
set_option maxHeartbeats 4000000 in
theorem Sold_any (A : Option Addr) (c : Nat) (ns : List Sh.Node) (hn : ns.length ≤ 1000) (F : FL) (f : Fair) (hfn : FN f) (w : World) (hN : Sh.Nodes w w.heap.size A ns) (hF : FairAt w w.heap.size F f) :
    Calls Tryz.prog 9 #[.agg #[.slice A ns.length c], F.enc f] w fun e w' => SoldEnd (soldRet ns f) w' e ∧ Below w.heap.size w w' := by
  obtain ⟨W0, hW0⟩ : ∃ W0, (w.alloc (.cells #[.slice A ns.length c] 24)).alloc (.cells #[.slice F.L.Ak f.h.ks.length F.L.ck, .int .i64 f.h.fl, .slice F.L.Ap f.h.ps.length F.L.cp, .slice F.L.Ab f.h.bs.length F.L.cb, .slice F.Ap f.pk.length F.cp, .int .i64 f.day, .int .i64 f.nb, .slice F.Aq f.q.length F.cq] 32) = W0 := ⟨_, rfl⟩
  have hbw : Below w.heap.size w W0 := by rw [← hW0]; exact hb0to (al_below _ _) (al_below _ _)
  have hx0 : FBox W0 (w.heap.size + 1) F f := by rw [← hW0]; exact heap_new2 _ _ _
  have hy0 : W0.heap[w.heap.size]? = some (.cells #[.slice A ns.length c] 24) := by rw [← hW0]; exact heap_keep (heap_new1 _ _)
  have HW0 := Lib.hid hW0
  have HBW := Lib.hid hbw
  have M := Lib.hid (SIn.mk (Sh.Nodes.lt hN hbw) hy0 (hF.below hbw) hx0)
  have B := Lib.hid (Below.refl W0.heap.size W0)
  obtain ⟨r0, r1, r2, r3, r4, r5, r6, r7⟩ := hx0.cells
  have k0 := cell_of_heap (o := 0) hy0 rfl
  clear hW0 hbw hx0 hy0 hN hF
  have HC := Lib.hid (fun W hW => Sh.check_any A c ns hn W hW)
  have HP := Lib.hid (fun W hW => Paid_any F f hfn W hW)
  by_cases hk : Sh.ckE ns = 0
  · rw [hk] at HC
    by_cases ha : askF f true = 0
    · obtain ⟨p, hpe⟩ : ∃ p, p = paidTo f.q (rdF f) f.nb.toNat := ⟨_, rfl⟩
      have hq : paidRet f = (p, 0) := by rw [hpe]; exact numRF_ok ha
      have hp : 0 ≤ p ∧ p ≤ 400 := by
        have h := paid_small (FOK.of (askF_ok ha).1)
        rw [← hpe] at h
        omega
      have HQ := Lib.hid (show soldRet ns f = (Sh.keptsS ns p, 0) by unfold soldRet; rw [hq, if_pos hk, if_pos rfl])
      have HL := Lib.hid (show (Sh.keptsS ns p).length = ns.length by simp [Sh.keptsS])
      have HK := Lib.hid (fun W hW => Sh.keepsAll_ok A c ns p hn W hW (Sh.pence_zero hk hp.1 hp.2))
      rw [hq] at HP
      clear hk ha hpe hq hp hfn
      obtain ⟨L, Ap, cp, Aq, cq⟩ := F
      go_enter Tryz.func9, Tryz.ntmps9
      go_upto_region 1 with (fail)
      have e := HW0.out
      rw [e]
      clear e
      go_wp2_with (first
        | (go_at_call 25; refine (HC.out _ M.out.N).mono ?_; rintro e wn ⟨rfl, hb⟩; have MN := Lib.hid (M.out.next hb); have BN := Lib.hid (hb0to B.out hb); have M := MN; have B := BN; clear MN BN; skip; obtain ⟨r0, r1, r2, r3, r4, r5, r6, r7⟩ := M.out.x.cells; have k0 := cell_of_heap (o := 0) M.out.bx rfl; clear hb)
        | (go_at_call 26; refine (HP.out _ M.out.H).mono ?_; rintro e wn ⟨rfl, hb⟩; have MN := Lib.hid (M.out.next hb); have BN := Lib.hid (hb0to B.out hb); have M := MN; have B := BN; clear MN BN; skip; obtain ⟨r0, r1, r2, r3, r4, r5, r6, r7⟩ := M.out.x.cells; have k0 := cell_of_heap (o := 0) M.out.bx rfl; clear hb)
        | (go_at_call 17; refine (HK.out _ M.out.N).mono ?_; rintro e wn ⟨b9, rfl, _, hrow, hb⟩; have BN := Lib.hid (hb0to B.out hb); have HI := Lib.hid (Sh.row_ints hrow); clear hb hrow))
      go_ret2
      refine ⟨?_, hb0to HBW.out BN.out⟩
      rw [HQ.out]
      exact ⟨some ⟨b9, 0, none⟩, ns.length, by rw [HL.out]; rfl, HI.out⟩
    · obtain ⟨er, her⟩ : ∃ x, x = askF f true := ⟨_, rfl⟩
      have hq : paidRet f = (0, er) := by rw [her]; exact numRF_no rfl ha
      rw [← her] at ha
      have HQ := Lib.hid (show soldRet ns f = ([], er) by unfold soldRet; rw [hq, if_pos hk, if_neg ha])
      have hd : (er != 0) = true := bne_iff_ne.2 ha
      rw [hq] at HP
      clear hk ha her hq hfn
      obtain ⟨L, Ap, cp, Aq, cq⟩ := F
      go_enter Tryz.func9, Tryz.ntmps9
      go_upto_region 1 with (fail)
      have e := HW0.out
      rw [e]
      clear e
      go_wp2_with (first
        | (go_at_call 25; refine (HC.out _ M.out.N).mono ?_; rintro e wn ⟨rfl, hb⟩; have MN := Lib.hid (M.out.next hb); have BN := Lib.hid (hb0to B.out hb); have M := MN; have B := BN; clear MN BN; skip; obtain ⟨r0, r1, r2, r3, r4, r5, r6, r7⟩ := M.out.x.cells; have k0 := cell_of_heap (o := 0) M.out.bx rfl; clear hb)
        | (go_at_call 26; refine (HP.out _ M.out.H).mono ?_; rintro e wn ⟨rfl, hb⟩; have MN := Lib.hid (M.out.next hb); have BN := Lib.hid (hb0to B.out hb); have M := MN; have B := BN; clear MN BN; skip; obtain ⟨r0, r1, r2, r3, r4, r5, r6, r7⟩ := M.out.x.cells; have k0 := cell_of_heap (o := 0) M.out.bx rfl; clear hb))
      go_ret2
      exact ⟨by rw [HQ.out]; exact ⟨none, 0, rfl, .inl rfl⟩, hb0to HBW.out B.out⟩
  · obtain ⟨er, her⟩ : ∃ x, x = Sh.ckE ns := ⟨_, rfl⟩
    rw [← her] at hk HC
    have HQ := Lib.hid (show soldRet ns f = ([], er) by unfold soldRet; rw [← her, if_neg hk])
    have hd : (er != 0) = true := bne_iff_ne.2 hk
    clear hk her hfn
    obtain ⟨L, Ap, cp, Aq, cq⟩ := F
    go_enter Tryz.func9, Tryz.ntmps9
    go_upto_region 1 with (fail)
    have e := HW0.out
    rw [e]
    clear e
    go_wp2_with (go_at_call 25; refine (HC.out _ M.out.N).mono ?_; rintro e wn ⟨rfl, hb⟩; have MN := Lib.hid (M.out.next hb); have BN := Lib.hid (hb0to B.out hb); have M := MN; have B := BN; clear MN BN; skip; obtain ⟨r0, r1, r2, r3, r4, r5, r6, r7⟩ := M.out.x.cells; have k0 := cell_of_heap (o := 0) M.out.bx rfl; clear hb)
    go_ret2
    exact ⟨by rw [HQ.out]; exact ⟨none, 0, rfl, .inl rfl⟩, hb0to HBW.out B.out⟩
set_option maxRecDepth 100000 in
set_option maxHeartbeats 4000000 in
theorem rSold_any (A : Option Addr) (c : Nat) (ns : List Sh.Node) (hn : ns.length ≤ 1000) (F : FL) (f : Fair) (hfn : FN f) (hok : FLOK F f) (w : World) (hN : Sh.Nodes w w.heap.size A ns) (hF : FairAt w w.heap.size F f) :
    Calls Tryz.prog 10 #[.agg #[.slice A ns.length c], F.enc f] w fun e w' => SoldEnd (soldRet ns f) w' e ∧ Below w.heap.size w w' := by
  obtain ⟨W0, hW0⟩ : ∃ W0, (w.alloc (.cells #[.slice A ns.length c] 24)).alloc (.cells #[.slice F.L.Ak f.h.ks.length F.L.ck, .int .i64 f.h.fl, .slice F.L.Ap f.h.ps.length F.L.cp, .slice F.L.Ab f.h.bs.length F.L.cb, .slice F.Ap f.pk.length F.cp, .int .i64 f.day, .int .i64 f.nb, .slice F.Aq f.q.length F.cq] 32) = W0 := ⟨_, rfl⟩
  have hbw : Below w.heap.size w W0 := by rw [← hW0]; exact hb0to (al_below _ _) (al_below _ _)
  have hx0 : FBox W0 (w.heap.size + 1) F f := by rw [← hW0]; exact heap_new2 _ _ _
  have hy0 : W0.heap[w.heap.size]? = some (.cells #[.slice A ns.length c] 24) := by rw [← hW0]; exact heap_keep (heap_new1 _ _)
  have HW0 := Lib.hid hW0
  have HBW := Lib.hid hbw
  have M := Lib.hid (SIn.mk (Sh.Nodes.lt hN hbw) hy0 (hF.below hbw) hx0)
  have B := Lib.hid (Below.refl W0.heap.size W0)
  obtain ⟨r0, r1, r2, r3, r4, r5, r6, r7⟩ := hx0.cells
  have k0 := cell_of_heap (o := 0) hy0 rfl
  clear hW0 hbw hx0 hy0 hN hF
  have HC := Lib.hid (fun W hW => Sh.refCheck_any A c ns hn W hW)
  have HP := Lib.hid (fun W hW => rPaid_any F f hfn hok W hW)
  by_cases hk : Sh.ckE ns = 0
  · rw [hk] at HC
    by_cases ha : askF f true = 0
    · obtain ⟨p, hpe⟩ : ∃ p, p = paidTo f.q (rdF f) f.nb.toNat := ⟨_, rfl⟩
      have hq : paidRet f = (p, 0) := by rw [hpe]; exact numRF_ok ha
      have hp : 0 ≤ p ∧ p ≤ 400 := by
        have h := paid_small (FOK.of (askF_ok ha).1)
        rw [← hpe] at h
        omega
      have HQ := Lib.hid (show soldRet ns f = (Sh.keptsS ns p, 0) by unfold soldRet; rw [hq, if_pos hk, if_pos rfl])
      have HL := Lib.hid (show (Sh.keptsS ns p).length = ns.length by simp [Sh.keptsS])
      have HK := Lib.hid (fun W hW => Sh.keepsOf_any A c ns p (Sh.good_of (Sh.ck_valid hk)) hp.1 hp.2 W hW)
      rw [hq] at HP
      clear hk ha hpe hq hp hok hfn
      obtain ⟨L, Ap, cp, Aq, cq⟩ := F
      go_enter Tryz.func10, Tryz.ntmps10
      go_upto_region 1 with (fail)
      have e := HW0.out
      rw [e]
      clear e
      go_wp2_with (first
        | (go_at_call 27; refine (HC.out _ M.out.N).mono ?_; rintro e wn ⟨rfl, hb⟩; have MN := Lib.hid (M.out.next hb); have BN := Lib.hid (hb0to B.out hb); have M := MN; have B := BN; clear MN BN; skip; obtain ⟨r0, r1, r2, r3, r4, r5, r6, r7⟩ := M.out.x.cells; have k0 := cell_of_heap (o := 0) M.out.bx rfl; clear hb)
        | (go_at_call 28; refine (HP.out _ M.out.H).mono ?_; rintro e wn ⟨rfl, hb⟩; have MN := Lib.hid (M.out.next hb); have BN := Lib.hid (hb0to B.out hb); have M := MN; have B := BN; clear MN BN; skip; obtain ⟨r0, r1, r2, r3, r4, r5, r6, r7⟩ := M.out.x.cells; have k0 := cell_of_heap (o := 0) M.out.bx rfl; clear hb)
        | (go_at_call 29; refine (HK.out _ M.out.N).mono ?_; rintro e wn ⟨B9, d9, rfl, hi, hb⟩; have BN := Lib.hid (hb0to B.out hb); have HI := Lib.hid hi; clear hb hi))
      go_ret2
      refine ⟨?_, hb0to HBW.out BN.out⟩
      rw [HQ.out]
      exact ⟨B9, d9, by rw [HL.out]; rfl, HI.out⟩
    · obtain ⟨er, her⟩ : ∃ x, x = askF f true := ⟨_, rfl⟩
      have hq : paidRet f = (0, er) := by rw [her]; exact numRF_no rfl ha
      rw [← her] at ha
      have HQ := Lib.hid (show soldRet ns f = ([], er) by unfold soldRet; rw [hq, if_pos hk, if_neg ha])
      have hd : (er != 0) = true := bne_iff_ne.2 ha
      rw [hq] at HP
      clear hk ha her hq hok hfn
      obtain ⟨L, Ap, cp, Aq, cq⟩ := F
      go_enter Tryz.func10, Tryz.ntmps10
      go_upto_region 1 with (fail)
      have e := HW0.out
      rw [e]
      clear e
      go_wp2_with (first
        | (go_at_call 27; refine (HC.out _ M.out.N).mono ?_; rintro e wn ⟨rfl, hb⟩; have MN := Lib.hid (M.out.next hb); have BN := Lib.hid (hb0to B.out hb); have M := MN; have B := BN; clear MN BN; skip; obtain ⟨r0, r1, r2, r3, r4, r5, r6, r7⟩ := M.out.x.cells; have k0 := cell_of_heap (o := 0) M.out.bx rfl; clear hb)
        | (go_at_call 28; refine (HP.out _ M.out.H).mono ?_; rintro e wn ⟨rfl, hb⟩; have MN := Lib.hid (M.out.next hb); have BN := Lib.hid (hb0to B.out hb); have M := MN; have B := BN; clear MN BN; skip; obtain ⟨r0, r1, r2, r3, r4, r5, r6, r7⟩ := M.out.x.cells; have k0 := cell_of_heap (o := 0) M.out.bx rfl; clear hb))
      go_ret2
      exact ⟨by rw [HQ.out]; exact ⟨none, 0, rfl, .inl rfl⟩, hb0to HBW.out B.out⟩
  · obtain ⟨er, her⟩ : ∃ x, x = Sh.ckE ns := ⟨_, rfl⟩
    rw [← her] at hk HC
    have HQ := Lib.hid (show soldRet ns f = ([], er) by unfold soldRet; rw [← her, if_neg hk])
    have hd : (er != 0) = true := bne_iff_ne.2 hk
    clear hk her hok hfn
    obtain ⟨L, Ap, cp, Aq, cq⟩ := F
    go_enter Tryz.func10, Tryz.ntmps10
    go_upto_region 1 with (fail)
    have e := HW0.out
    rw [e]
    clear e
    go_wp2_with (go_at_call 27; refine (HC.out _ M.out.N).mono ?_; rintro e wn ⟨rfl, hb⟩; have MN := Lib.hid (M.out.next hb); have BN := Lib.hid (hb0to B.out hb); have M := MN; have B := BN; clear MN BN; skip; obtain ⟨r0, r1, r2, r3, r4, r5, r6, r7⟩ := M.out.x.cells; have k0 := cell_of_heap (o := 0) M.out.bx rfl; clear hb)
    go_ret2
    exact ⟨by rw [HQ.out]; exact ⟨none, 0, rfl, .inl rfl⟩, hb0to HBW.out B.out⟩

end Go.Proofs.YtmbcpmnigggbaaaGreat
namespace Go.Proofs.YtmbcpmnigggbaaaGreat
open Go.RowKit
theorem Sh.own_mono {W : World} {t : TypeId} {base base' : Nat} {v : Value} {ns : List Sh.Node} (h : Sh.OwnsN W t base v ns) (hb : base' ≤ base) : Sh.OwnsN W t base' v ns := by
  refine ⟨h.1, ?_⟩
  rcases h.2 with h3 | ⟨g, cap, cur, e3, hb2, h4⟩
  · exact .inl h3
  · exact .inr ⟨g, cap, cur, e3, Nat.le_trans hb hb2, h4⟩
end Go.Proofs.YtmbcpmnigggbaaaGreat
namespace Go.Proofs.YtmbcpmnigggbaaaGreat.Sh
open Go.RowKit
set_option maxRecDepth 100000 in
set_option maxHeartbeats 4000000 in
theorem copy_own (A : Option Addr) (c : Nat) (ns : List Node) (hA : A = none → c = 0 ∧ ns = []) (hn : ns.length ≤ 1000) (w : World) (hN : Nodes w w.heap.size A ns) :
    Calls Tryz.prog 7 #[.agg #[.slice A ns.length c]] w fun e w' => ∃ A' c', e = .returned (.agg #[.slice A' ns.length c']) ∧ OwnsN w' 69 w.heap.size (.slice A' ns.length c') ns ∧ Below w.heap.size w w' := by
  obtain ⟨i0, hi, hz0, hz1, hz2⟩ := info_parts info46
  obtain ⟨W0, hW0⟩ : ∃ W0, (w.alloc (.cells #[.slice A ns.length c] 24)).alloc (.cells #[.slice none 0 0] 24) = W0 := ⟨_, rfl⟩
  have b2 : Boxed W0 (w.heap.size + 1) 24 (.slice none 0 0) := by
    have := Boxed.new (w.alloc (.cells #[.slice A ns.length c] 24)) 24 (.slice none 0 0)
    rw [← hW0]; simpa only [World.size_alloc] using this
  have hB0 : Below w.heap.size w W0 := by rw [← hW0]; exact ((Below.refl _ w).alloc (Nat.le_refl _) _).alloc (by simp) _
  have b1 : Boxed W0 w.heap.size 24 (.slice A ns.length c) := by rw [← hW0]; exact (Boxed.new _ _ _).alloc _
  have hsz : W0.heap.size = w.heap.size + 2 := by rw [← hW0]; simp
  have ow := ownsN_made W0 69 W0.heap.size (Nat.le_refl _)
  have HN := Lib.hid (Nodes.alloc (Nodes.lt hN hB0) (.cells #[] 69))
  have HA := Lib.hid hA
  have m1 := (b1.alloc (.cells #[] 69)).cell
  have b2a := b2.alloc (.cells #[] 69)
  clear hN hA
  have hsz1 : w.heap.size + 2 ≤ W0.heap.size := by omega
  have hsz2 : W0.heap.size ≤ w.heap.size + 2 := by omega
  have W0S := Lib.hid hsz
  clear hsz
  go_enter Tryz.func7, Tryz.ntmps7
  go_wp2_with (at_builtin; go_must (refine wpl_copy rfl _ _ 22 69 Tryz.underlying22 hi hz0 hz1 hz2 rfl W0.heap.size _ rfl ow _ c ns HA.out rfl HN.out hn (by simp) ?_; intro v' w1 hown hb1; obtain ⟨A', c', rfl, hA', hN'⟩ := OwnsN.lay hown; have b3 : Boxed w1 (w.heap.size + 1) 24 (.slice none 0 0) := (hb1.block _ b2.lt).trans b2a; have m3 := b3.cell; have m4 := b3.frozen))
  have hBw : Below w.heap.size w w1 := hB0.trans ((((Below.refl _ W0).alloc (Nat.le_refl _) _).trans hb1).mono hB0.size)
  have z := (b3.set (.slice A' ns.length c')).cell
  refine bodyPost_ret (v := .agg #[.slice A' ns.length c']) (by simp [results, Tryz.results7, go_sem, z]) rfl ⟨A', c', rfl, ?_, hBw.setCell (p := ⟨w.heap.size + 1, 0, none⟩) (by simp) _⟩
  exact row_keepT (own_mono hown (by omega)) (KeepT.set (arr := #[.slice none 0 0]) (t' := 24) b3 (by decide))
end Go.Proofs.YtmbcpmnigggbaaaGreat.Sh
namespace Go.Proofs.YtmbcpmnigggbaaaGreat
open Go.RowKit
theorem set8_same {W : World} {b : Nat} {x0 x1 x2 x3 x4 x5 x6 x7 : Value} (h : W.heap[b]? = some (.cells #[.slice none 0 0, .int .i64 0, .slice none 0 0, .slice none 0 0, .slice none 0 0, .int .i64 0, .int .i64 0, .slice none 0 0] 32 (0, 0))) : ((((((((W.setCell ⟨b, 0, none⟩ x0).setCell ⟨b, 1, none⟩ x1).setCell ⟨b, 2, none⟩ x2).setCell ⟨b, 3, none⟩ x3).setCell ⟨b, 4, none⟩ x4).setCell ⟨b, 5, none⟩ x5).setCell ⟨b, 6, none⟩ x6).setCell ⟨b, 7, none⟩ x7).heap[b]? = some (.cells #[x0, x1, x2, x3, x4, x5, x6, x7] 32 (0, 0)) := set8_heap h _ _ _ _ _ _ _ _
theorem set8_other {W : World} {b z : Nat} {o : Obj} {x0 x1 x2 x3 x4 x5 x6 x7 : Value} (h : W.heap[z]? = some o) (hn : ¬ z = b) : ((((((((W.setCell ⟨b, 0, none⟩ x0).setCell ⟨b, 1, none⟩ x1).setCell ⟨b, 2, none⟩ x2).setCell ⟨b, 3, none⟩ x3).setCell ⟨b, 4, none⟩ x4).setCell ⟨b, 5, none⟩ x5).setCell ⟨b, 6, none⟩ x6).setCell ⟨b, 7, none⟩ x7).heap[z]? = some o := by
  have hl := heap_lt h
  have s (W : World) (o : Nat) (u : Value) : (W.setCell ⟨b, o, none⟩ u).heap.size = W.heap.size := World.size_setCell _ _ _
  refine (set_other_heap (by simp only [s]; exact hl) hn).trans ((set_other_heap (by simp only [s]; exact hl) hn).trans ((set_other_heap (by simp only [s]; exact hl) hn).trans ((set_other_heap (by simp only [s]; exact hl) hn).trans ((set_other_heap (by simp only [s]; exact hl) hn).trans ((set_other_heap (by simp only [s]; exact hl) hn).trans ((set_other_heap (by simp only [s]; exact hl) hn).trans ((set_other_heap hl hn).trans h)))))))
theorem set8_new {W : World} {b : Nat} {o : Obj} {x0 x1 x2 x3 x4 x5 x6 x7 : Value} : (((((((((W.setCell ⟨b, 0, none⟩ x0).setCell ⟨b, 1, none⟩ x1).setCell ⟨b, 2, none⟩ x2).setCell ⟨b, 3, none⟩ x3).setCell ⟨b, 4, none⟩ x4).setCell ⟨b, 5, none⟩ x5).setCell ⟨b, 6, none⟩ x6).setCell ⟨b, 7, none⟩ x7).alloc o).heap[W.heap.size]? = some o := by
  have h := heap_new1 ((((((((W.setCell ⟨b, 0, none⟩ x0).setCell ⟨b, 1, none⟩ x1).setCell ⟨b, 2, none⟩ x2).setCell ⟨b, 3, none⟩ x3).setCell ⟨b, 4, none⟩ x4).setCell ⟨b, 5, none⟩ x5).setCell ⟨b, 6, none⟩ x6).setCell ⟨b, 7, none⟩ x7) o
  simp only [World.size_setCell] at h
  exact h
theorem below_s8 {n : Nat} {w W : World} (h : Below n w W) {z : Nat} (hz : n ≤ z) (x0 x1 x2 x3 x4 x5 x6 x7 : Value) : Below n w ((((((((W.setCell ⟨z, 0, none⟩ x0).setCell ⟨z, 1, none⟩ x1).setCell ⟨z, 2, none⟩ x2).setCell ⟨z, 3, none⟩ x3).setCell ⟨z, 4, none⟩ x4).setCell ⟨z, 5, none⟩ x5).setCell ⟨z, 6, none⟩ x6).setCell ⟨z, 7, none⟩ x7) := below_set8 h hz _ _ _ _ _ _ _ _
theorem chainB {w X W : World} (_ : Below X.heap.size X W) (h : Below w.heap.size w X) : Below w.heap.size w X := h
def K2 (W W' : World) : Prop := ∀ t : TypeId, t ≠ 24 → t ≠ 32 → KeepT t W W'
theorem K2.refl (W : World) : K2 W W := fun _ _ _ _ _ e => e
theorem K2.drew {W W' : World} (h : K2 W W') : K2 W W'.drew := h
theorem K2.alloc {W W' : World} (h : K2 W W') (o : Obj) : K2 W (W'.alloc o) := fun t h1 h2 => (h t h1 h2).trans (.below (al_below _ _))
theorem K2.set8z {W W' : World} (h : K2 W W') {z : Nat} {x0 x1 x2 x3 x4 x5 x6 x7 : Value} (hz : W'.heap[z]? = some (Obj.cells #[.slice none 0 0, .int .i64 0, .slice none 0 0, .slice none 0 0, .slice none 0 0, .int .i64 0, .int .i64 0, .slice none 0 0] 32)) : K2 W ((((((((W'.setCell ⟨z, 0, none⟩ x0).setCell ⟨z, 1, none⟩ x1).setCell ⟨z, 2, none⟩ x2).setCell ⟨z, 3, none⟩ x3).setCell ⟨z, 4, none⟩ x4).setCell ⟨z, 5, none⟩ x5).setCell ⟨z, 6, none⟩ x6).setCell ⟨z, 7, none⟩ x7) := fun t h1 h2 => (h t h1 h2).trans (keepT_set8 hz (fun e => h2 e.symm) _ _ _ _ _ _ _ _)
theorem K2.set1z {W W' : World} (h : K2 W W') {z : Nat} {x : Value} (hz : W'.heap[z]? = some (Obj.cells #[.slice none 0 0] 24)) : K2 W (W'.setCell ⟨z, 0, none⟩ x) := fun t h1 h2 => (h t h1 h2).trans (KeepT.set hz (fun e => h1 e.symm))
theorem set1_same {W : World} {z : Nat} {x : Value} (h : W.heap[z]? = some (Obj.cells #[.slice none 0 0] 24)) : (W.setCell ⟨z, 0, none⟩ x).heap[z]? = some (.cells #[x] 24 (0, 0)) := by
  rw [heap_set (o := 0) x h]; simp
theorem set1_other {W : World} {z k o' : Nat} {o : Obj} {x : Value} (h : W.heap[k]? = some o) (hn : ¬ k = z) : (W.setCell ⟨z, o', none⟩ x).heap[k]? = some o := (set_other_heap (heap_lt h) hn).trans h
theorem set1_new {W : World} {z o' : Nat} {x : Value} {o : Obj} : ((W.setCell ⟨z, o', none⟩ x).alloc o).heap[W.heap.size]? = some o := by
  have h := heap_new1 (W.setCell ⟨z, o', none⟩ x) o
  simpa only [World.size_setCell] using h
theorem below_s1 {n : Nat} {w W : World} (h : Below n w W) {z : Nat} (hz : n ≤ z) (x : Value) : Below n w (W.setCell ⟨z, 0, none⟩ x) := h.setCell (p := ⟨z, 0, none⟩) hz x
theorem chainK2 {w X W : World} (_ : Below X.heap.size X W) (h : K2 w X) : K2 w X := h
theorem Sh.own_of {W W' : World} (h : K2 W W') {n : Nat} {v : Value} {ns : List Sh.Node} (H : Sh.OwnsN W 69 n v ns) : Sh.OwnsN W' 69 n v ns := row_keepT H (h _ (by decide) (by decide))
theorem Sh.own_belowK {W W' : World} {n : Nat} {v : Value} {ns : List Sh.Node} (H : Sh.OwnsN W 69 n v ns) (hb : Below W.heap.size W W') : Sh.OwnsN W' 69 n v ns := row_keepT H (.below hb)
/-- A custom and a fair, each copied into a variable of its own. -/
structure Two2 (W : World) (ns : List Sh.Node) (f : Fair) (z1 z2 : Nat) (A5 : Option Addr) (k5 : Nat) (G : FL) (wx : World) : Prop where
  y1 : wx.heap[z1]? = some (Obj.cells #[.slice A5 ns.length k5] 24)
  y2 : FBox wx z2 G f
  o : Sh.OwnsN wx 69 W.heap.size (.slice A5 ns.length k5) ns
  c : CopF wx W.heap.size G f
  q : OwnsQ InnOwn wx W.heap.size (.slice G.Aq f.q.length G.cq) f.q
  l1 : W.heap.size ≤ z1
  l2 : W.heap.size ≤ z2
  B : Below W.heap.size W wx
theorem Two2.of {W w8 wx : World} {ns : List Sh.Node} {f : Fair} {z1 z2 : Nat} {A5 : Option Addr} {k5 : Nat} {G : FL} (ho : Sh.OwnsN w8 69 W.heap.size (.slice A5 ns.length k5) ns) (hc : CopF w8 W.heap.size G f) (hq : OwnsQ InnOwn w8 W.heap.size (.slice G.Aq f.q.length G.cq) f.q) (hk : K2 w8 wx) (h1 : wx.heap[z1]? = some (Obj.cells #[.slice A5 ns.length k5] 24)) (h2 : FBox wx z2 G f) (l1 : W.heap.size ≤ z1) (l2 : W.heap.size ≤ z2) (hb : Below W.heap.size W wx) : Two2 W ns f z1 z2 A5 k5 G wx :=
  ⟨h1, h2, Sh.own_of hk ho, hc.keepT (hk _ (by decide) (by decide)) (hk _ (by decide) (by decide)) (hk _ (by decide) (by decide)), hq.keepO (hk _ (by decide) (by decide)) (hk _ (by decide) (by decide)), l1, l2, hb⟩
def NewCF (W : World) (ns : List Sh.Node) (f : Fair) (s1 s2 : Value) (wx : World) : Prop := ∃ z1 z2 A5 k5 G, s1 = .pointer (some ⟨z1, 0, none⟩) ∧ s2 = .pointer (some ⟨z2, 0, none⟩) ∧ Two2 W ns f z1 z2 A5 k5 G wx
/-- The law's memory behind the copies. -/
structure OIn (W : World) (b : Nat) (A : Option Addr) (c : Nat) (ns : List Sh.Node) (F : FL) (f : Fair) (z1 z2 : Nat) (A5 : Option Addr) (k5 : Nat) (G : FL) : Prop where
  M : SIn W b A c ns F f
  by_ : W.heap[z1]? = some (Obj.cells #[.slice A5 ns.length k5] 24)
  y : FBox W z2 G f
  N : Sh.Nodes W W.heap.size A5 ns
  H : FairAt W W.heap.size G f
theorem OIn.next {W W' : World} {b : Nat} {A : Option Addr} {c : Nat} {ns : List Sh.Node} {F : FL} {f : Fair} {z1 z2 : Nat} {A5 : Option Addr} {k5 : Nat} {G : FL} (h : OIn W b A c ns F f z1 z2 A5 k5 G) (hb : Below W.heap.size W W') : OIn W' b A c ns F f z1 z2 A5 k5 G :=
  ⟨h.M.next hb, (hb.block _ (heap_lt h.by_)).trans h.by_, h.y.of (hb.block _ h.y.lt), Sh.Nodes.lt h.N hb, h.H.below hb⟩
theorem OIn.new {W wx : World} {b : Nat} {A : Option Addr} {c : Nat} {ns : List Sh.Node} {F : FL} {f : Fair} {z1 z2 : Nat} {A5 : Option Addr} {k5 : Nat} {G : FL} (M : SIn W b A c ns F f) (T : Two2 W ns f z1 z2 A5 k5 G wx) : OIn wx b A c ns F f z1 z2 A5 k5 G := by
  obtain ⟨A', c', e, -, hN⟩ := Sh.OwnsN.lay T.o
  injection e with e1 e2 e3
  subst e1
  exact ⟨M.next T.B, T.y1, T.y2, hN, (CopRet.fair T.c T.q).1⟩
theorem cells9 {w' : World} {b : Nat} {A : Option Addr} {c : Nat} {ns : List Sh.Node} {L : HL} {Ap Aq : Option Addr} {cp cq : Nat} {f : Fair} (h : SIn w' b A c ns ⟨L, Ap, cp, Aq, cq⟩ f) : w'.cell? ⟨b + 1, 0, none⟩ = some (.slice L.Ak f.h.ks.length L.ck) ∧ w'.cell? ⟨b + 1, 1, none⟩ = some (.int .i64 f.h.fl) ∧ w'.cell? ⟨b + 1, 2, none⟩ = some (.slice L.Ap f.h.ps.length L.cp) ∧ w'.cell? ⟨b + 1, 3, none⟩ = some (.slice L.Ab f.h.bs.length L.cb) ∧ w'.cell? ⟨b + 1, 4, none⟩ = some (.slice Ap f.pk.length cp) ∧ w'.cell? ⟨b + 1, 5, none⟩ = some (.int .i64 f.day) ∧ w'.cell? ⟨b + 1, 6, none⟩ = some (.int .i64 f.nb) ∧ w'.cell? ⟨b + 1, 7, none⟩ = some (.slice Aq f.q.length cq) ∧ w'.cell? ⟨b, 0, none⟩ = some (.slice A ns.length c) := by
  obtain ⟨r0, r1, r2, r3, r4, r5, r6, r7⟩ := h.x.cells
  exact ⟨r0, r1, r2, r3, r4, r5, r6, r7, cell_of_heap (o := 0) h.bx rfl⟩
/-- What holds in the region of the two copies, whatever of it has come up. -/
structure JC (W : World) (ns : List Sh.Node) (f : Fair) (b1 b2 b3 b4 : Bool) (x1 x2 x3 x4 : Value) (w : World) : Prop where
  B : Below W.heap.size W w
  c : b1 = true → ∃ A5 k5, x1 = .agg #[.slice A5 ns.length k5] ∧ Sh.OwnsN w 69 W.heap.size (.slice A5 ns.length k5) ns
  p : b2 = true → ∃ G : FL, x2 = G.enc f ∧ CopF w W.heap.size G f ∧ OwnsQ InnOwn w W.heap.size (.slice G.Aq f.q.length G.cq) f.q
  z : b3 = true → ∃ z, x3 = .pointer (some ⟨z, 0, none⟩) ∧ W.heap.size ≤ z ∧ w.heap[z]? = some (Obj.cells #[.slice none 0 0] 24)
  y : b4 = true → ∃ z, x4 = .pointer (some ⟨z, 0, none⟩) ∧ W.heap.size ≤ z ∧ w.heap[z]? = some (Obj.cells #[.slice none 0 0, .int .i64 0, .slice none 0 0, .slice none 0 0, .slice none 0 0, .int .i64 0, .int .i64 0, .slice none 0 0] 32)
theorem JC.next {W : World} {ns : List Sh.Node} {f : Fair} {b1 b2 b3 b4 : Bool} {x1 x2 x3 x4 : Value} {w w' : World} (h : JC W ns f b1 b2 b3 b4 x1 x2 x3 x4 w) (hb : Below w.heap.size w w') : JC W ns f b1 b2 b3 b4 x1 x2 x3 x4 w' where
  B := hb0to h.B hb
  c := fun e => by
    obtain ⟨A5, k5, e1, ho⟩ := h.c e
    exact ⟨A5, k5, e1, Sh.own_belowK ho hb⟩
  p := fun e => by
    obtain ⟨G, e1, hc, hq⟩ := h.p e
    exact ⟨G, e1, hc.below hb, hq.belowO hb⟩
  z := fun e => by
    obtain ⟨z, e1, hz, h1⟩ := h.z e
    exact ⟨z, e1, hz, (hb.block _ (heap_lt h1)).trans h1⟩
  y := fun e => by
    obtain ⟨z, e1, hz, h1⟩ := h.y e
    exact ⟨z, e1, hz, (hb.block _ (heap_lt h1)).trans h1⟩
theorem JC.size {W : World} {ns : List Sh.Node} {f : Fair} {b1 b2 b3 b4 : Bool} {x1 x2 x3 x4 : Value} {w : World} (h : JC W ns f b1 b2 b3 b4 x1 x2 x3 x4 w) : W.heap.size ≤ w.heap.size := h.B.size

end Go.Proofs.YtmbcpmnigggbaaaGreat
