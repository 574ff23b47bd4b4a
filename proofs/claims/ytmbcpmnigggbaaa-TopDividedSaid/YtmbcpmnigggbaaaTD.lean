import Derived.Test.YtmbcpmnigggbaaaTA
namespace Go.Proofs.Ytmbcpmnigggbaaa
open Go.RowKit
theorem most_small {f : Fair} (h : FOK f) : mW f ≤ 396 := by
  have h2 : mW f = bringsL f.q (wL f) := mostV_win h.ql h.pos'
  have h3 := brings_le h.pay (wL f)
  have h4 := sale_buyers (n := f.nb.toNat) (wL_win h).sale fun b hb => by
    have := h.who b hb
    have := h.n0
    omega
  have h5 := h.n1
  omega
theorem pay99 {f : Fair} (h : FOK f) (v : Int) : 0 ≤ payV f.q (rdF f) v ∧ payV f.q (rdF f) v ≤ 99 := by
  have h1 := pay_bound h v
  rcases own_won (wL_win h).sale v with ⟨_, h0⟩ | ⟨i, b, hi, hb, _, h0⟩
  · omega
  · have := h.pay b (List.mem_of_getElem? hb)
    omega
theorem Sh.got_le {ns : List Sh.Node} (hg : Sh.GoodC ns) {m : Nat} (hm : m < ns.length) (hf : Sh.isFirstB ns m = true) {p : Int} (hp : 0 ≤ p) : ∀ d : Nat, Sh.gotS ns p m ≤ Sh.gotS ns (p + d) m
  | 0 => by simp
  | d + 1 => by
    have h1 := Sh.got_le hg hm hf hp d
    have h2 := Sh.first_mono hg (p := p + d) (by omega) m hm hf
    have e : p + ((d + 1 : Nat) : Int) = p + d + 1 := by omega
    rw [e]
    omega
theorem Sh.got_mono {ns : List Sh.Node} (hg : Sh.GoodC ns) {m : Nat} (hm : m < ns.length) (hf : Sh.isFirstB ns m = true) {p q : Int} (hp : 0 ≤ p) (hq : p ≤ q) : Sh.gotS ns p m ≤ Sh.gotS ns q m := by
  obtain ⟨d, hd⟩ := Int.eq_ofNat_of_zero_le (show 0 ≤ q - p by omega)
  have := Sh.got_le hg hm hf hp d
  rwa [show p + (d : Int) = q by omega] at this
theorem ask_valid {f : Fair} (hv : validF f = true) : askF f true = 0 := by simp [askF, hv]
theorem paid_to {f : Fair} (h : FOK f) : ∀ k : Nat, 0 ≤ paidTo f.q (rdF f) k ∧ paidTo f.q (rdF f) k ≤ 99 * (k : Int)
  | 0 => by simp [paidTo]
  | k + 1 => by
    have h1 := paid_to h k
    have h2 := pay99 h k
    have e : paidTo f.q (rdF f) (k + 1) = paidTo f.q (rdF f) k + payV f.q (rdF f) k := rfl
    omega
structure TIn (W : World) (b : Nat) (A : Option Addr) (c : Nat) (ns : List Sh.Node) (F : FL) (f : Fair) : Prop where
  N : Sh.Nodes W W.heap.size A ns
  bx : W.heap[b + 1]? = some (.cells #[.slice A ns.length c] 76)
  H : FairAt W W.heap.size F f
  x : FBox W b F f
theorem TIn.next {W W' : World} {b : Nat} {A : Option Addr} {c : Nat} {ns : List Sh.Node} {F : FL} {f : Fair} (h : TIn W b A c ns F f) (hb : Below W.heap.size W W') : TIn W' b A c ns F f :=
  ⟨Sh.Nodes.lt h.N hb, (hb.block _ (heap_lt h.bx)).trans h.bx, h.H.below hb, h.x.of (hb.block _ h.x.lt)⟩
set_option maxRecDepth 100000 in
set_option maxHeartbeats 4000000 in
theorem top_law (F : FL) (f : Fair) (hok : FLOK F f) (A : Option Addr) (c : Nat) (ns : List Sh.Node) (hn : ns.length ≤ 9223372036854775807) (node : Int) (w : World) (hF : FairAt w w.heap.size F f) (hN : Sh.Nodes w w.heap.size A ns) :
    Calls Try.prog 7 #[F.enc f, .agg #[.slice A ns.length c], .int .i64 node] w fun e w' => e = .returned (.bool true) ∧ Below w.heap.size w w' := by
  obtain ⟨W0, hW0⟩ : ∃ W0, (w.alloc (.cells #[.slice F.L.Ak f.h.ks.length F.L.ck, .int .i64 f.h.fl, .slice F.L.Ap f.h.ps.length F.L.cp, .slice F.L.Ab f.h.bs.length F.L.cb, .slice F.Ap f.pk.length F.cp, .int .i64 f.day, .int .i64 f.nb, .slice F.Aq f.q.length F.cq] 62)).alloc (.cells #[.slice A ns.length c] 76) = W0 := ⟨_, rfl⟩
  have hbw : Below w.heap.size w W0 := by rw [← hW0]; exact hb0to (al_below _ _) (al_below _ _)
  have hx0 : FBox W0 w.heap.size F f := by rw [← hW0]; exact (FBox.new w F f).of (Below.heap_alloc _ _ _ (by simp))
  have hy0 : W0.heap[w.heap.size + 1]? = some (.cells #[.slice A ns.length c] 76) := by rw [← hW0]; exact heap_new2 _ _ _
  have HW0 := Lib.hid hW0
  have HBW := Lib.hid hbw
  have M := Lib.hid (TIn.mk (Sh.Nodes.lt hN hbw) hy0 (hF.below hbw) hx0)
  have B := Lib.hid (Below.refl W0.heap.size W0)
  obtain ⟨r0, r1, r2, r3, r4, r5, r6, r7⟩ := hx0.cells
  have k0 := cell_of_heap (o := 0) hy0 rfl
  clear hW0 hbw hx0 hy0 hN hF
  have HF5 := Lib.hid (fun W hW => farF_any F f W hW)
  cases hh : farF f
  · rw [hh] at HF5
    have hfn := hugeF_fn (farF_no hh).1
    have H32 := Lib.hid (fun W hW => rcheckF_any F f hfn W hW)
    cases hv : validF f
    · rw [ckF_no hv] at H32
      clear hok hn hh hv hfn
      obtain ⟨L, Ap, cp, Aq, cq⟩ := F
      go_enter Try.func7, Try.ntmps7
      go_upto_region 1 with (fail)
      have e := HW0.out
      rw [e]
      clear e
      go_wp2_with (first
        | (go_at_call 37; refine (HF5.out _ M.out.H).mono ?_; rintro e wn ⟨rfl, hb⟩; have MN := Lib.hid (M.out.next hb); have BN := Lib.hid (hb0to B.out hb); have M := MN; have B := BN; clear MN BN; skip; obtain ⟨r0, r1, r2, r3, r4, r5, r6, r7⟩ := M.out.x.cells; have k0 := cell_of_heap (o := 0) M.out.bx rfl; clear hb)
        | (go_at_call 32; refine (H32.out _ M.out.H).mono ?_; rintro e wn ⟨rfl, hb⟩; have MN := Lib.hid (M.out.next hb); have BN := Lib.hid (hb0to B.out hb); have M := MN; have B := BN; clear MN BN; skip; obtain ⟨r0, r1, r2, r3, r4, r5, r6, r7⟩ := M.out.x.cells; have k0 := cell_of_heap (o := 0) M.out.bx rfl; clear hb)
        | (go_at_call 47; refine (divided_any _).mono ?_; rintro e wn ⟨rfl, hb⟩; have MN := Lib.hid (M.out.next hb); have BN := Lib.hid (hb0to B.out hb); have M := MN; have B := BN; clear MN BN; skip; obtain ⟨r0, r1, r2, r3, r4, r5, r6, r7⟩ := M.out.x.cells; have k0 := cell_of_heap (o := 0) M.out.bx rfl; clear hb))
      go_ret
      exact ⟨rfl, hb0to HBW.out B.out⟩
    · rw [ckF_yes hv] at H32
      by_cases h40 : 40 < ns.length
      · have H45 := Lib.hid (fun W => Sh.far_big A ns.length c W hn true (by simpa using h40))
        clear hok hn hh hv hfn h40
        obtain ⟨L, Ap, cp, Aq, cq⟩ := F
        go_enter Try.func7, Try.ntmps7
        go_upto_region 1 with (fail)
        have e := HW0.out
        rw [e]
        clear e
        go_wp2_with (first
          | (go_at_call 37; refine (HF5.out _ M.out.H).mono ?_; rintro e wn ⟨rfl, hb⟩; have MN := Lib.hid (M.out.next hb); have BN := Lib.hid (hb0to B.out hb); have M := MN; have B := BN; clear MN BN; skip; obtain ⟨r0, r1, r2, r3, r4, r5, r6, r7⟩ := M.out.x.cells; have k0 := cell_of_heap (o := 0) M.out.bx rfl; clear hb)
          | (go_at_call 32; refine (H32.out _ M.out.H).mono ?_; rintro e wn ⟨rfl, hb⟩; have MN := Lib.hid (M.out.next hb); have BN := Lib.hid (hb0to B.out hb); have M := MN; have B := BN; clear MN BN; skip; obtain ⟨r0, r1, r2, r3, r4, r5, r6, r7⟩ := M.out.x.cells; have k0 := cell_of_heap (o := 0) M.out.bx rfl; clear hb)
          | (go_at_call 45; refine (H45.out _).mono ?_; rintro e wn ⟨rfl, hb⟩; have MN := Lib.hid (M.out.next hb); have BN := Lib.hid (hb0to B.out hb); have M := MN; have B := BN; clear MN BN; skip; obtain ⟨r0, r1, r2, r3, r4, r5, r6, r7⟩ := M.out.x.cells; have k0 := cell_of_heap (o := 0) M.out.bx rfl; clear hb)
          | (go_at_call 47; refine (divided_any _).mono ?_; rintro e wn ⟨rfl, hb⟩; have MN := Lib.hid (M.out.next hb); have BN := Lib.hid (hb0to B.out hb); have M := MN; have B := BN; clear MN BN; skip; obtain ⟨r0, r1, r2, r3, r4, r5, r6, r7⟩ := M.out.x.cells; have k0 := cell_of_heap (o := 0) M.out.bx rfl; clear hb))
        go_ret
        exact ⟨rfl, hb0to HBW.out B.out⟩
      · have H45 := Lib.hid (fun W => Sh.far_big A ns.length c W hn false (by simpa using h40))
        have hn4 : ns.length ≤ 1000 := by omega
        have H46 := Lib.hid (fun W hN => Sh.refCheck_any A c ns hn4 W hN)
        cases hc : Sh.validB ns
        · obtain ⟨er, her⟩ : ∃ er, Sh.ckE ns = er := ⟨_, rfl⟩
          have hd : (er != 0) = true := by
            rw [← her, Sh.ckE_no hc]
            decide
          rw [her] at H46
          clear hok hn hh hv hfn h40 hc her hn4
          obtain ⟨L, Ap, cp, Aq, cq⟩ := F
          go_enter Try.func7, Try.ntmps7
          go_upto_region 1 with (fail)
          have e := HW0.out
          rw [e]
          clear e
          go_wp2_with (first
            | (go_at_call 37; refine (HF5.out _ M.out.H).mono ?_; rintro e wn ⟨rfl, hb⟩; have MN := Lib.hid (M.out.next hb); have BN := Lib.hid (hb0to B.out hb); have M := MN; have B := BN; clear MN BN; skip; obtain ⟨r0, r1, r2, r3, r4, r5, r6, r7⟩ := M.out.x.cells; have k0 := cell_of_heap (o := 0) M.out.bx rfl; clear hb)
            | (go_at_call 32; refine (H32.out _ M.out.H).mono ?_; rintro e wn ⟨rfl, hb⟩; have MN := Lib.hid (M.out.next hb); have BN := Lib.hid (hb0to B.out hb); have M := MN; have B := BN; clear MN BN; skip; obtain ⟨r0, r1, r2, r3, r4, r5, r6, r7⟩ := M.out.x.cells; have k0 := cell_of_heap (o := 0) M.out.bx rfl; clear hb)
            | (go_at_call 45; refine (H45.out _).mono ?_; rintro e wn ⟨rfl, hb⟩; have MN := Lib.hid (M.out.next hb); have BN := Lib.hid (hb0to B.out hb); have M := MN; have B := BN; clear MN BN; skip; obtain ⟨r0, r1, r2, r3, r4, r5, r6, r7⟩ := M.out.x.cells; have k0 := cell_of_heap (o := 0) M.out.bx rfl; clear hb)
            | (go_at_call 46; refine (H46.out _ M.out.N).mono ?_; rintro e wn ⟨rfl, hb⟩; have MN := Lib.hid (M.out.next hb); have BN := Lib.hid (hb0to B.out hb); have M := MN; have B := BN; clear MN BN; skip; obtain ⟨r0, r1, r2, r3, r4, r5, r6, r7⟩ := M.out.x.cells; have k0 := cell_of_heap (o := 0) M.out.bx rfl; clear hb)
            | (go_at_call 47; refine (divided_any _).mono ?_; rintro e wn ⟨rfl, hb⟩; have MN := Lib.hid (M.out.next hb); have BN := Lib.hid (hb0to B.out hb); have M := MN; have B := BN; clear MN BN; skip; obtain ⟨r0, r1, r2, r3, r4, r5, r6, r7⟩ := M.out.x.cells; have k0 := cell_of_heap (o := 0) M.out.bx rfl; clear hb))
          go_ret
          exact ⟨rfl, hb0to HBW.out B.out⟩
        · have hk := Sh.ckE_yes hc
          rw [hk] at H46
          have hf := FOK.of hv
          have hg := Sh.good_of hc
          have hnb0 := hf.n0
          have hnb1 := hf.n1
          obtain ⟨nb, hnb⟩ := Int.eq_ofNat_of_zero_le hnb0
          have htn : f.nb.toNat = nb := by omega
          have HC8 := Lib.hid (fun W hW => copy_line F f hfn hok W hW)
          have H48 := Lib.hid (fun G (k : Nat) W hG => Pays_any G f hfn k W hG)
          have H33 := Lib.hid (fun G W hG => Most_any G f hfn W hG)
          have e33 : mostRet f = (mW f, 0) := numRF_ok (ask_valid hv)
          have e48 : ∀ k : Nat, k < nb → payRet f k = (payV f.q (rdF f) k, 0) := fun k hk => numRF_ok (by
            have : isBuyer f k = true := inR_true.2 (by omega)
            rw [this]; exact ask_valid hv)
          have HE := Lib.hid e48
          obtain ⟨n, hpp⟩ : ∃ n, paidTo f.q (rdF f) nb = n := ⟨_, rfl⟩
          have hq : paidRet f = (n, 0) := by
            unfold paidRet
            rw [htn, hpp]
            exact numRF_ok (ask_valid hv)
          have hpl := paid_le hf
          have hms := most_small hf
          rw [htn, hpp] at hpl
          rw [e33] at H33
          obtain ⟨mo, hmo⟩ : ∃ mo, mW f = mo := ⟨_, rfl⟩
          rw [hmo] at H33 hpl hms
          have hp : 0 ≤ n ∧ n ≤ 400 := by omega
          have hmp : 0 ≤ mo ∧ mo ≤ 400 := by omega
          have H41 := Lib.hid (fun G W hN hG => Sold_ok A c ns hn4 hk G f hfn hq W hN hG)
          have HP9 := Lib.hid (fun v => pay99 hf v)
          have HPL := Lib.hid (fun k => paid_to hf k)
          have HPP := Lib.hid hpp
          have HBD := Lib.hid (fun k (hk : k < ns.length) => Sh.kept_bd hg hp.1 hk)
          have H49 := Lib.hid (fun A7 c7 W hI => SumK A7 c7 ns hg hp W hI)
          have HPN := Lib.hid (fun m hm W hN => part_any A c ns hn4 hk m hm hp W hN)
          have HPM := Lib.hid (fun m hm W hN => part_any A c ns hn4 hk m hm hmp W hN)
          have HMO := Lib.hid (fun m hm hfi => Sh.got_mono hg (m := m) hm hfi hp.1 hpl.2)
          have H51 := Lib.hid (fun m hm W hN b hb => Sh.isFirst_is A c ns m hg hm W hN b hb)
          have h1 := hg.l1
          have h8 := hg.l8
          have hp0 := hp.1
          have hp4 := hp.2
          have q1 : decide (mo < n) = false := decide_eq_false (by omega)
          have q2 : decide (400 < mo) = false := decide_eq_false (by omega)
          have hnb4 : nb ≤ 4 := by omega
          have HNB := Lib.hid hnb
          clear hn hh hv hfn h40 hc hk hok hf hg hnb0 hnb1 htn e33 e48 hpp hq hpl hms hmo hp hmp hnb
          obtain ⟨L, Ap, cp, Aq, cq⟩ := F
          go_enter Try.func7, Try.ntmps7
          go_upto_region 1 with (fail)
          have e := HW0.out
          rw [e]
          clear e
          go_upto_region 3 with (first
            | (go_at_call 37; refine (HF5.out _ M.out.H).mono ?_; rintro e wn ⟨rfl, hb⟩; have MN := Lib.hid (M.out.next hb); have BN := Lib.hid (hb0to B.out hb); have M := MN; have B := BN; clear MN BN; skip; obtain ⟨r0, r1, r2, r3, r4, r5, r6, r7⟩ := M.out.x.cells; have k0 := cell_of_heap (o := 0) M.out.bx rfl; clear hb)
            | (go_at_call 32; refine (H32.out _ M.out.H).mono ?_; rintro e wn ⟨rfl, hb⟩; have MN := Lib.hid (M.out.next hb); have BN := Lib.hid (hb0to B.out hb); have M := MN; have B := BN; clear MN BN; skip; obtain ⟨r0, r1, r2, r3, r4, r5, r6, r7⟩ := M.out.x.cells; have k0 := cell_of_heap (o := 0) M.out.bx rfl; clear hb)
            | (go_at_call 45; refine (H45.out _).mono ?_; rintro e wn ⟨rfl, hb⟩; have MN := Lib.hid (M.out.next hb); have BN := Lib.hid (hb0to B.out hb); have M := MN; have B := BN; clear MN BN; skip; obtain ⟨r0, r1, r2, r3, r4, r5, r6, r7⟩ := M.out.x.cells; have k0 := cell_of_heap (o := 0) M.out.bx rfl; clear hb)
            | (go_at_call 46; refine (H46.out _ M.out.N).mono ?_; rintro e wn ⟨rfl, hb⟩; have MN := Lib.hid (M.out.next hb); have BN := Lib.hid (hb0to B.out hb); have M := MN; have B := BN; clear MN BN; skip; obtain ⟨r0, r1, r2, r3, r4, r5, r6, r7⟩ := M.out.x.cells; have k0 := cell_of_heap (o := 0) M.out.bx rfl; clear hb))
          clear HF5 H32 H45 H46
          go_wp2
          go_loopw [8, 7] (fun i x wr => ∃ k : Nat, k ≤ nb ∧ i = .int .i64 k ∧ (∃ y : Int, x = .int .i64 y ∧ Hid (y = paidTo f.q (rdF f) k)) ∧ Hid (TIn wr w.heap.size A c ns ⟨L, Ap, cp, Aq, cq⟩ f) ∧ Hid (Below W0.heap.size W0 wr)) (fun i _ _ => nb - (intOf i).toNat)
          case atStart => exact ⟨0, Nat.zero_le _, rfl, ⟨0, rfl, Lib.hid rfl⟩, M, B⟩
          case round =>
            obtain ⟨k, hk, rfl, ⟨y, rfl, hy⟩, M, B⟩ := hrel
            obtain ⟨r0, r1, r2, r3, r4, r5, r6, r7⟩ := M.out.x.cells; have k0 := cell_of_heap (o := 0) M.out.bx rfl
            by_cases hlt : k < nb
            · have hkd : decide ((k : Int) < f.nb) = true := decide_eq_true (by have := HNB.out; omega)
              have X48 := Lib.hid (fun G W hG => H48.out G k W hG)
              rw [HE.out k hlt] at X48
              have hpv := HP9.out k
              have hpt := HPL.out k
              have HPK : Hid (paidTo f.q (rdF f) (k + 1) = paidTo f.q (rdF f) k + payV f.q (rdF f) k) := Lib.hid rfl
              generalize payV f.q (rdF f) (k : Int) = pv at X48 hpv HPK
              have hyv := hy.out
              have hyb : 0 ≤ y ∧ y ≤ 4000 := by omega
              have d1 : decide (pv < 0) = false := decide_eq_false (by omega)
              have d2 : decide (99 < pv) = false := decide_eq_false (by omega)
              have HN1 := Lib.hid (show y + pv = paidTo f.q (rdF f) (k + 1) by rw [HPK.out]; omega)
              have T1 := Lib.hid True.intro
              clear hpt hyv
              go_wp2_with (first
                | (have tk := T1.out; clear T1 tk; go_at_call 40; refine (HC8.out _ M.out.H).mono ?_; rintro e wn ⟨⟨⟨⟨j1, j2, j3, j4, j5, j6⟩, j7, j8, j9, j10⟩, rfl, hcf, hq⟩, hb⟩; have MN := Lib.hid (M.out.next hb); have BN := Lib.hid (hb0to B.out hb); have M := MN; have B := BN; clear MN BN; have CF := Lib.hid (CopRet.fair hcf hq).1; clear hcf hq; obtain ⟨r0, r1, r2, r3, r4, r5, r6, r7⟩ := M.out.x.cells; have k0 := cell_of_heap (o := 0) M.out.bx rfl; clear hb)
                | (go_at_call 48; refine (X48.out ⟨⟨j1, j2, j3, j4, j5, j6⟩, j7, j8, j9, j10⟩ _ CF.out).mono ?_; rintro e wn ⟨rfl, hb⟩; have MN := Lib.hid (M.out.next hb); have BN := Lib.hid (hb0to B.out hb); have M := MN; have B := BN; clear MN BN; clear CF; obtain ⟨r0, r1, r2, r3, r4, r5, r6, r7⟩ := M.out.x.cells; have k0 := cell_of_heap (o := 0) M.out.bx rfl; clear hb))
              go_roundw
              case rel => exact ⟨k + 1, by omega, by go_num, ⟨y + pv, by go_num, HN1⟩, M, B⟩
              case measure => simp [intOf]; omega
            · obtain rfl : k = nb := by omega
              have hkd : decide ((k : Int) < f.nb) = false := decide_eq_false (by have := HNB.out; omega)
              obtain rfl : y = n := hy.out.trans HPP.out
              go_upto_region 11 with (fail)
              go_region_held3 (fun w' => w'.cell? ⟨w.heap.size, 0, none⟩ = some (.slice L.Ak f.h.ks.length L.ck) ∧ w'.cell? ⟨w.heap.size, 1, none⟩ = some (.int .i64 f.h.fl) ∧ w'.cell? ⟨w.heap.size, 2, none⟩ = some (.slice L.Ap f.h.ps.length L.cp) ∧ w'.cell? ⟨w.heap.size, 3, none⟩ = some (.slice L.Ab f.h.bs.length L.cb) ∧ w'.cell? ⟨w.heap.size, 4, none⟩ = some (.slice Ap f.pk.length cp) ∧ w'.cell? ⟨w.heap.size, 5, none⟩ = some (.int .i64 f.day) ∧ w'.cell? ⟨w.heap.size, 6, none⟩ = some (.int .i64 f.nb) ∧ w'.cell? ⟨w.heap.size, 7, none⟩ = some (.slice Aq f.q.length cq) ∧ w'.cell? ⟨w.heap.size + 1, 0, none⟩ = some (.slice A ns.length c)) (first | go_keep) (first
                | (go_at_call 41; refine (H41.out ⟨⟨j1, j2, j3, j4, j5, j6⟩, j7, j8, j9, j10⟩ _ M5.out.N CF5.out).mono ?_; rintro e w6 ⟨⟨A7, c7, rfl, hv7⟩, hb⟩; have M6 := Lib.hid (M5.out.next hb); have B6 := Lib.hid (hb0to B5.out hb); have V6 := Lib.hid hv7; clear hv7; obtain ⟨r0, r1, r2, r3, r4, r5, r6, r7⟩ := M6.out.x.cells; have k0 := cell_of_heap (o := 0) M6.out.bx rfl; clear hb)
                | (go_at_call 40; refine (HC8.out _ (M.out.H.below (drew_below _))).mono ?_; rintro e w5 ⟨⟨⟨⟨j1, j2, j3, j4, j5, j6⟩, j7, j8, j9, j10⟩, rfl, hcf, hq⟩, hb⟩; have hbX := hb0to (drew_below wr) hb; have M5 := Lib.hid (M.out.next hbX); have B5 := Lib.hid (hb0to B.out hbX); have CF5 := Lib.hid (CopRet.fair hcf hq).1; obtain ⟨r0, r1, r2, r3, r4, r5, r6, r7⟩ := M5.out.x.cells; have k0 := cell_of_heap (o := 0) M5.out.bx rfl; clear hcf hq hb hbX))
              go_wp2
              go_loopw [13] (fun i wr => ∃ k : Nat, k ≤ ns.length ∧ i = .int .i64 k ∧ w6 = wr) (fun i _ => ns.length - (intOf i).toNat)
              case atStart => exact ⟨0, Nat.zero_le _, rfl, rfl⟩
              case round =>
                obtain ⟨j, hj, rfl, rfl⟩ := hrel
                by_cases hlj : j < ns.length
                · obtain ⟨b1, o1, rfl, _, d1⟩ := IntsAt.at_ V6.out (Sh.kepts_at hlj)
                  have H28 := Lib.hid (fun W => Sh.within1_is (Sh.keptS ns y j) 0 y W true (Sh.inR_true.2 (HBD.out j hlj)))
                  generalize Sh.keptS ns y j = v at d1 H28
                  go_wp2_with (go_at_call 28; refine (H28.out _).mono ?_; rintro e w' ⟨rfl, rfl⟩)
                  go_roundw
                  case rel => exact ⟨j + 1, by omega, by go_num, by trivial⟩
                  case measure => simp [intOf]; omega
                · obtain rfl : j = ns.length := by omega
                  have M := M6
                  have B := B6
                  have V := V6
                  have T2 := Lib.hid True.intro
                  have T52 := Lib.hid True.intro
                  go_upto_region 22 with (first
                    | (have tk := T2.out; clear T2 tk; go_at_call 40; refine (HC8.out _ M.out.H).mono ?_; rintro e wn ⟨⟨⟨⟨j1, j2, j3, j4, j5, j6⟩, j7, j8, j9, j10⟩, rfl, hcf, hq⟩, hb⟩; have MN := Lib.hid (M.out.next hb); have BN := Lib.hid (hb0to B.out hb); have M := MN; have B := BN; clear MN BN; have CF := Lib.hid (CopRet.fair hcf hq).1; have VN := Lib.hid (ints_later V.out hb); have V := VN; clear hcf hq VN; obtain ⟨r0, r1, r2, r3, r4, r5, r6, r7⟩ := M.out.x.cells; have k0 := cell_of_heap (o := 0) M.out.bx rfl; clear hb)
                    | (go_at_call 33; refine (H33.out ⟨⟨j1, j2, j3, j4, j5, j6⟩, j7, j8, j9, j10⟩ _ CF.out).mono ?_; rintro e wn ⟨rfl, hb⟩; have MN := Lib.hid (M.out.next hb); have BN := Lib.hid (hb0to B.out hb); have M := MN; have B := BN; clear MN BN; have VN := Lib.hid (ints_later V.out hb); have V := VN; clear CF VN; obtain ⟨r0, r1, r2, r3, r4, r5, r6, r7⟩ := M.out.x.cells; have k0 := cell_of_heap (o := 0) M.out.bx rfl; clear hb)
                    | (go_at_call 49; refine (H49.out A7 c7 _ V.out).mono ?_; rintro e w' ⟨rfl, rfl⟩))
                  cases hin : Sh.inR node 0 (ns.length - 1)
                  · have H50 := Lib.hid (fun W => Sh.refIsNode_is A ns.length c node W hn4 false hin)
                    clear hin
                    go_wp2_with (first
                      | (go_at_call 50; refine (H50.out _).mono ?_; rintro e wn ⟨rfl, hb⟩; have MN := Lib.hid (M.out.next hb); have BN := Lib.hid (hb0to B.out hb); have M := MN; have B := BN; clear MN BN; skip; obtain ⟨r0, r1, r2, r3, r4, r5, r6, r7⟩ := M.out.x.cells; have k0 := cell_of_heap (o := 0) M.out.bx rfl; clear hb)
                      | (go_at_call 47; refine (divided_any _).mono ?_; rintro e wn ⟨rfl, hb⟩; have MN := Lib.hid (M.out.next hb); have BN := Lib.hid (hb0to B.out hb); have M := MN; have B := BN; clear MN BN; skip; obtain ⟨r0, r1, r2, r3, r4, r5, r6, r7⟩ := M.out.x.cells; have k0 := cell_of_heap (o := 0) M.out.bx rfl; clear hb))
                    go_ret
                    exact ⟨rfl, hb0to HBW.out B.out⟩
                  · obtain ⟨m, hm0⟩ := Int.eq_ofNat_of_zero_le (Sh.inR_true.1 hin).1
                    have hm : m < ns.length := by have := Sh.inR_true.1 hin; omega
                    have H50 := Lib.hid (fun W => Sh.refIsNode_is A ns.length c node W hn4 true hin)
                    rw [hm0] at H50
                    subst hm0
                    cases hfi : Sh.isFirstB ns m
                    · have X51 := Lib.hid (fun W hN => H51.out m hm W hN false hfi)
                      clear hin hfi
                      go_wp2_with (first
                        | (go_at_call 50; refine (H50.out _).mono ?_; rintro e wn ⟨rfl, hb⟩; have MN := Lib.hid (M.out.next hb); have BN := Lib.hid (hb0to B.out hb); have M := MN; have B := BN; clear MN BN; skip; obtain ⟨r0, r1, r2, r3, r4, r5, r6, r7⟩ := M.out.x.cells; have k0 := cell_of_heap (o := 0) M.out.bx rfl; clear hb)
                        | (go_at_call 51; refine (X51.out _ M.out.N).mono ?_; rintro e wn ⟨rfl, hb⟩; have MN := Lib.hid (M.out.next hb); have BN := Lib.hid (hb0to B.out hb); have M := MN; have B := BN; clear MN BN; skip; obtain ⟨r0, r1, r2, r3, r4, r5, r6, r7⟩ := M.out.x.cells; have k0 := cell_of_heap (o := 0) M.out.bx rfl; clear hb)
                        | (go_at_call 47; refine (divided_any _).mono ?_; rintro e wn ⟨rfl, hb⟩; have MN := Lib.hid (M.out.next hb); have BN := Lib.hid (hb0to B.out hb); have M := MN; have B := BN; clear MN BN; skip; obtain ⟨r0, r1, r2, r3, r4, r5, r6, r7⟩ := M.out.x.cells; have k0 := cell_of_heap (o := 0) M.out.bx rfl; clear hb))
                      go_ret
                      exact ⟨rfl, hb0to HBW.out B.out⟩
                    · have X51 := Lib.hid (fun W hN => H51.out m hm W hN true hfi)
                      have XN := Lib.hid (fun W hN => HPN.out m hm W hN)
                      have XM := Lib.hid (fun W hN => HPM.out m hm W hN)
                      have q3 : decide (Sh.gotS ns y m ≤ Sh.gotS ns mo m) = true := decide_eq_true (HMO.out m hm hfi)
                      clear hin hfi
                      generalize Sh.gotS ns y m = g1 at XN q3
                      generalize Sh.gotS ns mo m = g2 at XM q3
                      go_wp2_with (first
                        | (go_at_call 50; refine (H50.out _).mono ?_; rintro e wn ⟨rfl, hb⟩; have MN := Lib.hid (M.out.next hb); have BN := Lib.hid (hb0to B.out hb); have M := MN; have B := BN; clear MN BN; skip; obtain ⟨r0, r1, r2, r3, r4, r5, r6, r7⟩ := M.out.x.cells; have k0 := cell_of_heap (o := 0) M.out.bx rfl; clear hb)
                        | (go_at_call 51; refine (X51.out _ M.out.N).mono ?_; rintro e wn ⟨rfl, hb⟩; have MN := Lib.hid (M.out.next hb); have BN := Lib.hid (hb0to B.out hb); have M := MN; have B := BN; clear MN BN; skip; obtain ⟨r0, r1, r2, r3, r4, r5, r6, r7⟩ := M.out.x.cells; have k0 := cell_of_heap (o := 0) M.out.bx rfl; clear hb)
                        | (have tk := T52.out; clear T52 tk; go_at_call 52; refine (XN.out _ M.out.N).mono ?_; rintro e wn ⟨rfl, hb⟩; have MN := Lib.hid (M.out.next hb); have BN := Lib.hid (hb0to B.out hb); have M := MN; have B := BN; clear MN BN; skip; obtain ⟨r0, r1, r2, r3, r4, r5, r6, r7⟩ := M.out.x.cells; have k0 := cell_of_heap (o := 0) M.out.bx rfl; clear hb)
                        | (go_at_call 52; refine (XM.out _ M.out.N).mono ?_; rintro e wn ⟨rfl, hb⟩; have MN := Lib.hid (M.out.next hb); have BN := Lib.hid (hb0to B.out hb); have M := MN; have B := BN; clear MN BN; skip; obtain ⟨r0, r1, r2, r3, r4, r5, r6, r7⟩ := M.out.x.cells; have k0 := cell_of_heap (o := 0) M.out.bx rfl; clear hb)
                        | (go_at_call 47; refine (divided_any _).mono ?_; rintro e wn ⟨rfl, hb⟩; have MN := Lib.hid (M.out.next hb); have BN := Lib.hid (hb0to B.out hb); have M := MN; have B := BN; clear MN BN; skip; obtain ⟨r0, r1, r2, r3, r4, r5, r6, r7⟩ := M.out.x.cells; have k0 := cell_of_heap (o := 0) M.out.bx rfl; clear hb))
                      go_ret
                      exact ⟨rfl, hb0to HBW.out B.out⟩
  · rw [hh] at HF5
    clear hok hn hh
    obtain ⟨L, Ap, cp, Aq, cq⟩ := F
    go_enter Try.func7, Try.ntmps7
    go_upto_region 1 with (fail)
    have e := HW0.out
    rw [e]
    clear e
    go_wp2_with (first
      | (go_at_call 37; refine (HF5.out _ M.out.H).mono ?_; rintro e wn ⟨rfl, hb⟩; have MN := Lib.hid (M.out.next hb); have BN := Lib.hid (hb0to B.out hb); have M := MN; have B := BN; clear MN BN; skip; obtain ⟨r0, r1, r2, r3, r4, r5, r6, r7⟩ := M.out.x.cells; have k0 := cell_of_heap (o := 0) M.out.bx rfl; clear hb)
      | (go_at_call 47; refine (divided_any _).mono ?_; rintro e wn ⟨rfl, hb⟩; have MN := Lib.hid (M.out.next hb); have BN := Lib.hid (hb0to B.out hb); have M := MN; have B := BN; clear MN BN; skip; obtain ⟨r0, r1, r2, r3, r4, r5, r6, r7⟩ := M.out.x.cells; have k0 := cell_of_heap (o := 0) M.out.bx rfl; clear hb))
    go_ret
    exact ⟨rfl, hb0to HBW.out B.out⟩

end Go.Proofs.Ytmbcpmnigggbaaa
