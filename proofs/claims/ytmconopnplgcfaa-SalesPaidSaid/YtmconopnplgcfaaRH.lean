import Derived.Test.YtmconopnplgcfaaRG
namespace Go.Proofs.Ytmconopnplgcfaa
open Go.RowKit

/-! The specification's sales 84. -/
theorem run_appR1 {w : World} (ty st : TypeId) (hst : Try.prog.underlying st = some (.slice 24)) (n₀ lo base : Nat) (v : Value) (rs : List (List Int)) (hown : OwnsR w lo base v rs)
    (ad : Addr) (c : Nat) (A' : Option Addr) (c' : Nat) (r : List Int) (hc : w.cell? ad = some (.slice A' r.length c')) (hA' : A' = none → c' = 0 ∧ r = []) (lo2 hi2 : Nat) (hI : IntsIn w lo2 hi2 A' r) (hlo2 : lo ≤ lo2) (hhi : hi2 ≤ w.heap.size) (hab : ∀ k, v.ownBlock = some k → k < lo2 ∨ hi2 ≤ k) (hl : rs.length ≤ 1000000) (hbase : base ≤ w.heap.size) (hn : n₀ ≤ base) :
    ∃ v' w', (Builtin.append_ #[st, st] ty #[v, .slice (some ad) 1 c]).run Try.prog w = .ok v' w' ∧ OwnsR w' lo base v' (rs ++ [r]) ∧ Below n₀ w w' ∧ (∀ k, v'.ownBlock = some k → v.ownBlock = some k ∨ k = w.heap.size) ∧ (∀ b, b < w.heap.size → some b ≠ v.ownBlock → w'.heap[b]? = w.heap[b]?) := by
  obtain ⟨i0, hi, hz0, hz1, hz2⟩ := info_parts info24'
  obtain ⟨vs, hown, hvs⟩ := hown
  obtain ⟨v', w', hrun, h2, h3, _, hat⟩ := run_append_own_at (P := Try.prog) w base st ty 24 i0 (.slice none 0 0) 1 24 hst hi hz0 hz1 hz2 rfl (by decide) v rs.length vs hown ad 1 c [.slice A' r.length c'] rfl (fun j u hj => by
      match j, hj with
      | 0, hj => simp at hj; subst hj; simpa [Addr.add] using hc) (fun u hu => by simp at hu; subst hu; rfl) (by unfold maxLen; omega) (by omega) hbase
  have hne : ∀ b, b < w.heap.size → some b ≠ v.ownBlock → some b ≠ v'.ownBlock := fun b hb hb2 hb3 => by
    rcases hat with e | e
    · exact hb2 (hb3.trans e)
    · rw [e] at hb3; cases hb3; omega
  refine ⟨v', w', hrun, ⟨vs ++ [.slice A' r.length c'], by rw [List.length_append]; exact h2, fun i r2 hr => ?_⟩, own_below hown h3 (by omega) hn, fun k hk => by
    rcases hat with e | e
    · exact .inl (by rw [← e]; exact hk)
    · rw [e] at hk; exact .inr (Option.some.inj hk).symm, h3.block⟩
  have hvl : vs.length = rs.length := by have := hown.1; omega
  by_cases hi : i < rs.length
  · rw [List.getElem?_append_left hi] at hr
    obtain ⟨u, hu, A2, c2, rfl, hA2, hr'⟩ := hvs i r2 hr
    refine ⟨_, by rw [List.getElem?_append_left (by omega)]; exact hu, A2, c2, rfl, hA2, ?_⟩
    rcases hr' with hr' | ⟨b, off, e, q1, q2, q3, q4⟩
    · exact .inl hr'
    · exact .inr ⟨b, off, e, q1, Nat.lt_of_lt_of_le q2 h3.size, hne b q2 q3, fun i x hx => (World.cell?_of_block (h3.block b q2 q3)).trans (q4 i x hx)⟩
  · have hlt := (List.getElem?_eq_some_iff.1 hr).1
    rw [List.length_append, List.length_singleton] at hlt
    obtain rfl : i = rs.length := by omega
    rw [List.getElem?_append_right (Nat.le_refl _), Nat.sub_self] at hr
    simp at hr; subst hr
    refine ⟨_, by rw [List.getElem?_append_right (by omega), hvl, Nat.sub_self]; rfl, A', c', rfl, hA', ?_⟩
    rcases hI with hI | ⟨b, off, e, q1, q2, q4⟩
    · exact .inl hI
    · have q3 : some b ≠ v.ownBlock := fun e => by have := hab b e.symm; omega
      exact .inr ⟨b, off, e, by omega, by have := h3.size; omega, hne b (by omega) q3, fun i x hx => (World.cell?_of_block (h3.block b (by omega) q3)).trans (q4 i x hx)⟩
theorem wpl_appR1 {ops : Array Oper} {rest : List Oper} {o : Oper} {a : Act} {w : World} {Q : Exit → Act → World → Prop} (hgd : o.guard = none) (s x : Operand)
    (ho : o.op = .call { callee := .builtin .append, args := #[s, x], argTypes := #[83, 83] }) (n₀ lo base : Nat) (v : Value) (rs : List (List Int)) (hs : a.eval s = v) (hown : OwnsR w lo base v rs)
    (ad : Addr) (c : Nat) (hx : a.eval x = .slice (some ad) 1 c) (A' : Option Addr) (c' : Nat) (r : List Int) (hc : w.cell? ad = some (.slice A' r.length c')) (hA' : A' = none → c' = 0 ∧ r = []) (lo2 hi2 : Nat) (hI : IntsIn w lo2 hi2 A' r) (hlo2 : lo ≤ lo2) (hhi : hi2 ≤ w.heap.size) (hab : ∀ k, v.ownBlock = some k → k < lo2 ∨ hi2 ≤ k) (hl : rs.length ≤ 1000000) (hbase : base ≤ w.heap.size) (hn : n₀ ≤ base)
    (h : ∀ v' w', OwnsR w' lo base v' (rs ++ [r]) → Below n₀ w w' → (∀ k, v'.ownBlock = some k → v.ownBlock = some k ∨ k = w.heap.size) → (∀ b, b < w.heap.size → some b ≠ v.ownBlock → w'.heap[b]? = w.heap[b]?) → wpList Try.prog ops Q rest (a.put o.dst v') w') : wpList Try.prog ops Q (o :: rest) a w := by
  refine wpList_plain hgd fun K' hK' => ?_
  obtain ⟨v', w', hrun, h1, h2, h3, h4⟩ := run_appR1 (w := w) o.type 83 Try.underlying83 n₀ lo base v rs hown ad c A' c' r hc hA' lo2 hi2 hI hlo2 hhi hab hl hbase hn
  unfold Oper.wp
  simp [execOp, ho, resolve, invoke, builtin, hs, hx, hrun, Result.andThen]
  exact hK' _ _ (h v' w' h1 h2 h3 h4)
theorem ownsR_one (W : World) (lo base : Nat) (hb : base ≤ W.heap.size) : OwnsR (W.alloc (.cells #[.slice none 0 0] 24)) lo base (.slice (some ⟨W.heap.size, 0, none⟩) 1 1) [[]] :=
  ⟨[.slice none 0 0], ⟨by simp, .inr ⟨W.heap.size, 1, #[.slice none 0 0], rfl, hb, World.alloc_heap_new W _, Nat.le_refl _, by unfold maxLen; omega, by simp, by simp⟩⟩, fun i r hr => by
    match i, hr with
    | 0, hr => simp at hr; subst hr; exact ⟨_, rfl, none, 0, rfl, fun _ => ⟨rfl, rfl⟩, .inl rfl⟩⟩
theorem intsN_toNat (l : List Nat) : (intsN l).map Int.toNat = l := by
  unfold intsN
  rw [List.map_map]
  conv => rhs; rw [← List.map_id l]
  apply List.map_congr_left
  intro a _
  simp
theorem isSale_nat {q : List Bid} {rd : List Int} {l : List Nat} (hp : l.Pairwise (· < ·)) (hl : ∀ x ∈ l, x < q.length) : isSaleB q rd (intsN l) = saleB q rd l := by
  unfold isSaleB
  rw [intsN_toNat, rise_iff.2 ⟨intsN_up hp, fun x hx => by
    unfold intsN at hx
    obtain ⟨i, hi, rfl⟩ := List.mem_map.1 hx
    have := hl i hi; omega⟩]
  rfl
/-- All sales, in order. -/
structure SalesL (q : List Bid) (rd : List Int) (S : List (List Nat)) : Prop where
  up : S.Pairwise aheadP
  mem : ∀ l, l ∈ S ↔ SaleL q rd l
  len : S.length ≤ 100000
theorem SalesL.first {q : List Bid} {rd : List Int} {S : List (List Nat)} (h : SalesL q rd S) : S[0]? = some [] := by
  obtain ⟨j, hj⟩ := List.getElem?_of_mem ((h.mem []).2 (SaleL.nil q rd))
  obtain ⟨k1, k2⟩ := List.getElem?_eq_some_iff.1 hj
  rcases Nat.eq_zero_or_pos j with e | e
  · subst e; exact hj
  · exfalso
    have := List.pairwise_iff_getElem.1 h.up 0 j (by omega) k1 e
    rw [k2] at this
    rcases this with h1 | ⟨h1, h2⟩
    · simp at h1
    · have h3 := List.length_eq_zero_iff.1 h1
      rw [h3] at h2; simp [earlierN] at h2
def SalesRet (q : List Bid) (rd : List Int) (lo : Nat) (w' : World) (e : Ending) : Prop := ∃ S, SalesL q rd S ∧ RowsRet (S.map intsN) lo w' e
set_option maxRecDepth 100000 in
set_option maxHeartbeats 4000000 in
theorem rsales_any (F : FL) (f : Fair) (hn : FN f) (hf : FOK f) (w : World) (hF : FairAt w w.heap.size F f) : Calls Try.prog 84 #[F.enc f] w fun e w' => SalesRet f.q (rdF f) w.heap.size w' e ∧ Below w.heap.size w w' := by
  have hbw := al_below w (.cells #[.slice F.L.Ak f.h.ks.length F.L.ck, .int .i64 f.h.fl, .slice F.L.Ap f.h.ps.length F.L.cp, .slice F.L.Ab f.h.bs.length F.L.cb, .slice F.Ap f.pk.length F.cp, .int .i64 f.day, .int .i64 f.nb, .slice F.Aq f.q.length F.cq] 29)
  have HB := Lib.hid (FBox.new w F f)
  obtain ⟨c0, c1, c2, c3, c4, c5, c6, c7⟩ := (FBox.new w F f).cells
  obtain ⟨W0, hW0⟩ : ∃ W0, w.alloc (.cells #[.slice F.L.Ak f.h.ks.length F.L.ck, .int .i64 f.h.fl, .slice F.L.Ap f.h.ps.length F.L.cp, .slice F.L.Ab f.h.bs.length F.L.cb, .slice F.Ap f.pk.length F.cp, .int .i64 f.day, .int .i64 f.nb, .slice F.Aq f.q.length F.cq] 29) = W0 := ⟨_, rfl⟩
  rw [hW0] at hbw HB c0 c1 c2 c3 c4 c5 c6 c7
  have HBW := Lib.hid hbw
  have HW0 := Lib.hid hW0
  have HF := Lib.hid (hF.below hbw)
  clear hbw hW0 hF
  have HN := Lib.hid hn
  have HFO := Lib.hid hf
  have hql := hf.ql
  obtain ⟨nb, hnb⟩ := Int.eq_ofNat_of_zero_le hf.n0
  have hnb4 : nb ≤ 4 := by have := hf.n1; omega
  have HNB := Lib.hid hnb
  have hb1 := al_below W0 (.cells #[.slice none 0 0] 24)
  have HOW := Lib.hid (ownsR_one W0 W0.heap.size W0.heap.size (Nat.le_refl _))
  obtain ⟨W1, hW1⟩ : ∃ W1, W0.alloc (.cells #[.slice none 0 0] 24) = W1 := ⟨_, rfl⟩
  rw [hW1] at hb1 HOW
  have HW1 := Lib.hid hW1
  have HB1 := Lib.hid hb1
  have H90 := Lib.hid (readyOf_any F f hn hf W1 (HF.out.below hb1))
  have hrl := rd_len (f := f)
  have hbl := hf.bl
  have hrl2 : (rdF f).length ≤ 1000 := by omega
  clear hn hf hnb hW1 c0 c1 c2 c3 c4 c5 c6 c7
  obtain ⟨L, Ap, cp, Aq, cq⟩ := F
  go_enter Try.func84, Try.ntmps84
  go_upto_region 1 with (fail)
  have e := HW0.out
  rw [e]
  clear e
  go_upto_region 2 with (fail)
  have e := HW1.out
  rw [e]
  clear e
  obtain ⟨g0, g1, g2, g3, g4, g5, g6, g7⟩ := (HB.out.of (HB1.out.block _ HB.out.lt)).cells
  clear hb1
  go_wp2_with (go_at_call 90; refine H90.out.mono ?_; rintro e w2 ⟨⟨v2, rfl, hv2⟩, hb2⟩; have B2 := Lib.hid (hb0to HB1.out hb2); have B2r := Lib.hid hb2.size; obtain ⟨A2, c2, rfl, _, _, hI2⟩ := hv2.lay; have HI2 := Lib.hid hI2; have HOW2 := Lib.hid (HOW.out.below_ hb2 (Nat.le_refl _)); clear hb2 hv2 hI2)
  clear g0 g1 g2 g3 g4 g5 g6 g7
  have hz1 : W0.heap.size < W1.heap.size := by have := heap_lt (heap_new1 W0 (.cells #[.slice none 0 0] 24)); rw [HW1.out] at this; exact this
  go_loopw [3, 5] (fun s i wr => ∃ (m : Nat) (out : List (List Nat)), 1 ≤ m ∧ m ≤ 5 ∧ i = .int .i64 m ∧ Hid (SpecTo f.q (rdF f) m 0 out) ∧ out.length ≤ 4096 * m ∧ Hid (OwnsR wr W0.heap.size W0.heap.size s (out.map intsN)) ∧ Hid (IntsIn wr W1.heap.size w2.heap.size A2 (rdF f)) ∧ Hid (∀ k, s.ownBlock = some k → k < W1.heap.size ∨ w2.heap.size ≤ k) ∧ Hid (Below W0.heap.size W0 wr) ∧ Hid (w2.heap.size ≤ wr.heap.size)) (fun _ i _ => 6 - (intOf i).toNat)
  case atStart => exact ⟨1, [[]], Nat.le_refl _, by omega, rfl, Lib.hid (SpecTo.one _ _), by simp, HOW2, HI2, Lib.hid (fun k hk => by cases hk; exact .inl hz1), B2, Lib.hid (Nat.le_refl _)⟩
  case round =>
    obtain ⟨m, out, hm1, hm5, rfl, hsp, hol, hown, hrdy, hob, hbW, hsz⟩ := hrel
    obtain ⟨g0, g1, g2, g3, g4, g5, g6, g7⟩ := (HB.out.of (hbW.out.block _ HB.out.lt)).cells
    rw [HNB.out] at g6
    by_cases hlt : m ≤ nb ∧ m ≤ (rdF f).length
    · obtain ⟨hl1, hl2⟩ := hlt
      have H109 := Lib.hid (rlists_any f.q.length hql m (by omega) m [] 0 rfl (by omega) (fun x hx => by simp at hx) none 0 wr.heap.size wr (fun _ => ⟨rfl, rfl⟩) (.inl rfl) (Nat.le_refl _))
      have HC := Lib.hid (show combR f.q.length m [] = (combN f.q.length m []).map intsN from combR_ints f.q.length m [])
      have hcl := combR_small (nb := f.q.length) (n := m) hql (by omega) (f := []) (by rw [fromN_nil]; omega)
      rw [HC.out, List.length_map] at hcl
      have H109 := Lib.hid (show Calls _ _ _ _ fun e w' => (∃ A c, e = .returned (.slice A (combN f.q.length m []).length c) ∧ RowsIn w' wr.heap.size w'.heap.size A ((combN f.q.length m []).map intsN)) ∧ Below wr.heap.size wr w' from H109.out.mono fun e w' h => by
        obtain ⟨⟨A, c, he, _, hR⟩, hb⟩ := h
        rw [HC.out] at he hR
        rw [List.length_map] at he
        exact ⟨⟨A, c, he, hR⟩, hb⟩)
      obtain ⟨wo, hwo⟩ : ∃ x : World, x = wr := ⟨_, rfl⟩
      have HOB := Lib.hid (rows_own hown.out)
      have HSP := Lib.hid (fun (i : Nat) (l : List Nat) (out : List (List Nat)) (h : SpecTo f.q (rdF f) m i out) (hl : (combN f.q.length m [])[i]? = some l) => And.intro (fun hn => h.no hl hn) (fun hs => h.yes hl hs))
      have HROW := Lib.hid (fun (out : List (List Nat)) (h : SpecTo f.q (rdF f) m (combN f.q.length m []).length out) => h.row)
      have HCI := Lib.hid (fun (l : List Nat) (h : l ∈ combN f.q.length m []) => combN_iff.1 h)
      generalize combN f.q.length m [] = cs at H109 hcl HSP HROW HCI
      go_wp2_with (go_at_call 109; refine H109.out.mono ?_; rintro e w3 ⟨⟨A3, c3, rfl, hR3⟩, hb3⟩; have HR3 := Lib.hid hR3; have B3 := Lib.hid (hb0to hbW.out hb3); have hz3 := hb3.size; have HO3 := Lib.hid (hown.out.below_ hb3 (Nat.le_refl _)); have HI3 := Lib.hid (hrdy.out.below hb3 hsz.out); clear hR3 hb3)
      have HOB3 := Lib.hid (fun k (hk : Value.ownBlock _ = some k) => And.intro (hob.out k hk) (show k < wr.heap.size ∨ w3.heap.size ≤ k from .inl (HOB.out k hk)))
      have hszr := hsz.out
      have HBW := Lib.hid hbW.out
      clear g0 g1 g2 g3 g4 g5 g6 g7 hwo HOB
      obtain ⟨LB, hLB⟩ : ∃ n, n = wr.heap.size := ⟨_, rfl⟩
      rw [← hLB] at HR3 HOB3 hz3 hszr
      have hWL : W0.heap.size ≤ LB := by have := B2r.out; omega
      clear hrdy hob hbW hsz hown hLB H109
      go_loopw [3, 7] (fun s i wr => ∃ (j : Nat) (out : List (List Nat)), j ≤ cs.length ∧ i = .int .i64 j ∧ Hid (SpecTo f.q (rdF f) m j out) ∧ out.length ≤ 4096 * m + j ∧ Hid (OwnsR wr W0.heap.size W0.heap.size s (out.map intsN)) ∧ Hid (IntsIn wr W1.heap.size w2.heap.size A2 (rdF f)) ∧ Hid (RowsIn wr LB w3.heap.size A3 (cs.map intsN)) ∧ Hid (∀ k, s.ownBlock = some k → (k < W1.heap.size ∨ w2.heap.size ≤ k) ∧ (k < LB ∨ w3.heap.size ≤ k)) ∧ Hid (Below W0.heap.size W0 wr) ∧ Hid (w3.heap.size ≤ wr.heap.size)) (fun _ i _ => cs.length - (intOf i).toNat)
      case atStart => exact ⟨0, out, Nat.zero_le _, rfl, hsp, by omega, HO3, HI3, HR3, HOB3, B3, Lib.hid (Nat.le_refl _)⟩
      case round =>
        obtain ⟨j, out, hj, rfl, hsp, hol, hown, hrdy, hrow, hob, hbW, hsz⟩ := hrel
        obtain ⟨g0, g1, g2, g3, g4, g5, g6, g7⟩ := (HB.out.of (hbW.out.block _ HB.out.lt)).cells
        have hszj := hsz.out
        by_cases hjl : j < cs.length
        · obtain ⟨l, hl⟩ : ∃ l, cs[j]? = some l := ⟨_, List.getElem?_eq_getElem hjl⟩
          have hci := HCI.out l (List.mem_of_getElem? hl)
          have hlm : (cs.map intsN)[j]? = some (intsN l) := by rw [List.getElem?_map, hl]; rfl
          obtain ⟨b4, o4, A4, c4, eA, b4lt, t1, hA4, hI4⟩ := hrow.out.at_ hlm
          subst eA
          have HSJ := Lib.hid (HSP.out j l out hsp.out hl)
          have hll : (intsN l).length ≤ 1000 := by rw [intsN_len, hci.1]; omega
          have H93 := Lib.hid (fun z => by have := isSale_any ⟨L, Ap, cp, Aq, cq⟩ f HN.out HFO.out (rdF f) hrl2 (intsN l) hll A4 c4 A2 c2 (extB wr z) ((HF.out.below hbW.out).below (extB_below wr z)) (ints_later (hI4.at_.keep hsz.out fun _ _ _ => rfl) (extB_below wr z)) (ints_later (hrdy.out.at_.keep (by omega) fun _ _ _ => rfl) (extB_below wr z)); rw [isSale_nat hci.2.1 hci.2.2] at this; exact this)
          have HT1 := Lib.hid t1
          have HA4 := Lib.hid hA4
          have HI4 := Lib.hid hI4
          have y0 := extB_cell g0
          have y1 := extB_cell g1
          have y2 := extB_cell g2
          have y3 := extB_cell g3
          have y4 := extB_cell g4
          have y5 := extB_cell g5
          have y6 := extB_cell g6
          have y7 := extB_cell g7
          have y8 := extB_cell t1
          clear hl hlm hci hA4 hI4 g0 g1 g2 g3 g4 g5 g6 g7
          cases hs : saleB f.q (rdF f) l
          · rw [hs] at H93
            have HNX := Lib.hid (HSJ.out.1 (fun h => by rw [saleB_iff.2 h] at hs; cases hs))
            clear hs t1
            go_upto_region 10 with (fail)
            refine wp_region_ext (by kernel_rfl) (by kernel_rfl) ?_
            repeat (go_big_quiet_step ((go_at_call 93; exact ext_call (H93.out _))))
            refine wpQuiet_nil ?_
            rintro _ ⟨t1, rfl⟩
            clear y0 y1 y2 y3 y4 y5 y6 y7 y8
            have HB6 := Lib.hid (extB_below wr t1)
            obtain ⟨W6, hW6⟩ : ∃ W6, extB wr t1 = W6 := ⟨_, rfl⟩
            rw [hW6] at HB6 ⊢
            clear hW6
            go_wp2_with (fail)
            go_roundw
            case rel => exact ⟨j + 1, out, by omega, by go_num, HNX, by omega, Lib.hid (hown.out.below_ HB6.out (Nat.le_refl _)), Lib.hid (hrdy.out.below HB6.out (by omega)), Lib.hid (hrow.out.below HB6.out hsz.out), hob, Lib.hid (hb0to hbW.out HB6.out), Lib.hid (Nat.le_trans hsz.out HB6.out.size)⟩
            case measure => simp [intOf]; omega
          · rw [hs] at H93
            have HNX := Lib.hid (HSJ.out.2 (saleB_iff.1 hs))
            clear hs
            go_upto_region 10 with (fail)
            refine wp_region_ext (by kernel_rfl) (by kernel_rfl) ?_
            repeat (go_big_quiet_step ((go_at_call 93; exact ext_call (H93.out _))))
            refine wpQuiet_nil ?_
            rintro _ ⟨t1, rfl⟩
            clear y0 y1 y2 y3 y4 y5 y6 y7
            have HB6 := Lib.hid (extB_below wr t1)
            have z8 := y8 t1
            obtain ⟨W6, hW6⟩ : ∃ W6, extB wr t1 = W6 := ⟨_, rfl⟩
            rw [hW6] at HB6 z8 ⊢
            clear hW6 y8
            have hz6 := HB6.out.size
            have hb7 := al_below W6 (.cells #[.slice A4 (intsN l).length c4] 24)
            have HO7 := Lib.hid ((hown.out.below_ HB6.out (Nat.le_refl _)).alloc (.cells #[.slice A4 (intsN l).length c4] 24))
            have HI7 := Lib.hid ((HI4.out.below HB6.out hsz.out).below hb7 (by omega))
            have HW0z := hbW.out.size
            go_wp2_with (refine wpl_appR1 (by rfl) _ _ (by rfl) W0.heap.size W0.heap.size W0.heap.size _ (out.map intsN) (by rfl) HO7.out ⟨W6.heap.size, 0, none⟩ 1 (by rfl) A4 c4 (intsN l) (by simp [go_sem]) HA4.out LB w3.heap.size HI7.out (by omega) (by simp; omega) (fun k hk => (hob.out k hk).2) (by rw [List.length_map]; omega) (by simp; omega) (Nat.le_refl _) ?_; intro v8 w8 hown8 hb8 hnew hkeep; have HO8 := Lib.hid hown8; have HB8 := Lib.hid hb8; have HNEW := Lib.hid hnew; have HKEEP := Lib.hid hkeep; clear hown8 hb8 hnew hkeep)
            have hz8 := HB8.out.size
            have HKE := Lib.hid (fun (b o : Nat) (h1 : b < wr.heap.size) (h2 : some b ≠ Value.ownBlock _) => show w8.cell? ⟨b, o, none⟩ = wr.cell? ⟨b, o, none⟩ from (World.cell?_of_block (a := ⟨b, o, none⟩) (HKEEP.out b (by simp; omega) h2)).trans (((hb7.cell (p := ⟨b, o, none⟩) (by show b < W6.heap.size; omega))).trans (HB6.out.cell (p := ⟨b, o, none⟩) h1)))
            have hz9 : W6.heap.size + 1 ≤ w8.heap.size := by simpa using hz8
            go_roundw
            case rel => exact ⟨j + 1, out ++ [l], by omega, by go_num, HNX, by rw [List.length_append, List.length_singleton]; omega, Lib.hid (by rw [List.map_append]; exact HO8.out), Lib.hid (hrdy.out.keep (Nat.le_refl _) (Nat.le_refl _) fun b o h1 h2 => HKE.out b o (by omega) (fun e => by have := (hob.out b e.symm).1; omega)), Lib.hid (hrow.out.keep (Nat.le_refl _) (Nat.le_refl _) fun b o h1 h2 => HKE.out b o (by omega) (fun e => by have := (hob.out b e.symm).2; omega)), Lib.hid (fun k hk => by
              rcases HNEW.out k hk with h | h
              · exact hob.out k h
              · have : k = W6.heap.size + 1 := by simpa using h
                exact ⟨.inr (by omega), .inr (by omega)⟩), Lib.hid ((hb0to hbW.out HB6.out).trans ((hb7.mono (by omega)).trans HB8.out)), Lib.hid (by omega)⟩
            case measure => simp [intOf]; omega
        · obtain rfl : j = cs.length := by omega
          have HRO := Lib.hid (HROW.out out hsp.out)
          go_wp2_with (fail)
          go_roundw
          case rel => exact ⟨m + 1, out, by omega, by omega, by go_num, HRO, by omega, hown, hrdy, Lib.hid (fun k hk => (hob.out k hk).1), hbW, Lib.hid (by omega)⟩
          case measure => simp [intOf]; omega
    · have hall := hsp.out.all (n := nb) (by omega) (fun b hb => by have := HFO.out.who b hb; rw [HNB.out] at this; exact this) HFO.out.ne
      have HSA := Lib.hid (SalesL.mk hsp.out.up hall (by omega))
      obtain ⟨A9, c9, hs9, hA9, hR9⟩ := hown.out.lay (Nat.le_refl _)
      have HA9 := Lib.hid hA9
      subst hs9
      rw [List.length_map] at *
      have HR9 := Lib.hid hR9
      clear hR9 hall hown hob hA9
      by_cases hl1 : m ≤ nb
      · have hl2 : ¬ m ≤ (rdF f).length := fun h => hlt ⟨hl1, h⟩
        clear hlt
        go_wp2_with (fail)
        go_ret
        exact ⟨⟨out, HSA.out, A9, c9, by rw [List.length_map]; rfl, HA9.out, HR9.out.keep HBW.out.size (Nat.le_refl _) fun _ _ _ _ => rfl⟩, hb0to HBW.out hbW.out⟩
      · clear hlt
        go_wp2_with (fail)
        go_ret
        exact ⟨⟨out, HSA.out, A9, c9, by rw [List.length_map]; rfl, HA9.out, HR9.out.keep HBW.out.size (Nat.le_refl _) fun _ _ _ _ => rfl⟩, hb0to HBW.out hbW.out⟩

end Go.Proofs.Ytmconopnplgcfaa
