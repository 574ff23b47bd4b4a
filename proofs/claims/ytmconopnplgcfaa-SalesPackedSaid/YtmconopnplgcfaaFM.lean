import Derived.Test.YtmconopnplgcfaaFK
import Derived.Maps.OwnOps
import Derived.Maps.OwnSet
import Derived.Maps.Own
import Derived.Maps.Views
namespace Go.Proofs.Ytmconopnplgcfaa
open Go.RowKit

/-! on 71, On 30, When 31. -/
def maskRd (u : Nat) : List Int := ((List.range 4).filter fun i => u.testBit i).map fun i : Nat => (i : Int)
theorem mem_maskRd {u : Nat} {x : Int} : x ∈ maskRd u ↔ (0 ≤ x ∧ x < 4) ∧ u.testBit x.toNat = true := by
  unfold maskRd
  rw [List.mem_map]
  constructor
  · rintro ⟨i, hi, rfl⟩
    obtain ⟨h1, h2⟩ := List.mem_filter.1 hi
    rw [List.mem_range] at h1
    exact ⟨⟨by omega, by omega⟩, by rw [Int.toNat_natCast]; exact h2⟩
  · rintro ⟨h1, h2⟩
    exact ⟨x.toNat, List.mem_filter.2 ⟨List.mem_range.2 (by omega), h2⟩, by omega⟩
/-- What the best sales bring, by the bits of what is ready. -/
def maskV (q : List Bid) (u : Nat) : Int := mostV q (maskRd u)
theorem maskV_eq {f : Fair} (hf : FOK f) {rd : List Int} {u : Nat} (hu : MaskOf rd u) : mostV f.q rd = maskV f.q u := by
  have h1 := mostV_is (rd := rd) hf.ql hf.pos
  have h2 := mostV_is (rd := maskRd u) hf.ql hf.pos
  have hs : ∀ l, SaleL f.q rd l ↔ SaleL f.q (maskRd u) l := fun l => by
    have hr : ∀ b ∈ f.q, readyB rd b = readyB (maskRd u) b := fun b hb => by
      rw [Bool.eq_iff_iff, ready_iff, ready_iff]
      refine forall_congr' fun n => ⟨fun h hn => ?_, fun h hn => ?_⟩
      · have hbr := hf.bar b hb n hn
        have hbl := hf.bl
        refine mem_maskRd.2 ⟨by omega, (hu.bit n.toNat (by omega)).2 ?_⟩
        rw [show ((n.toNat : Nat) : Int) = n by omega]; exact h hn
      · obtain ⟨h3, h4⟩ := mem_maskRd.1 (h hn)
        have := (hu.bit n.toNat (by omega)).1 h4
        rwa [show ((n.toNat : Nat) : Int) = n by omega] at this
    constructor
    · intro h
      exact ⟨h.up, fun i hi => by obtain ⟨b, hb, hx⟩ := h.rdy i hi; exact ⟨b, hb, by rw [← hr b (List.mem_of_getElem? hb)]; exact hx⟩, h.ap⟩
    · intro h
      exact ⟨h.up, fun i hi => by obtain ⟨b, hb, hx⟩ := h.rdy i hi; exact ⟨b, hb, by rw [hr b (List.mem_of_getElem? hb)]; exact hx⟩, h.ap⟩
  refine h1.unique ⟨fun l hl hp => h2.ge l ((hs l).1 hl) hp, ?_⟩
  rcases h2.at_ with ⟨e, h⟩ | ⟨l, k1, k2, k3⟩
  · exact .inl ⟨e, fun l hl => h l ((hs l).1 hl)⟩
  · exact .inr ⟨l, (hs l).2 k1, k2, k3⟩
theorem maskV_bd {f : Fair} (hf : FOK f) (u : Nat) : 0 ≤ maskV f.q u ∧ maskV f.q u ≤ 792 := by
  have h1 := mostTo_bd hf.ql hf.pay allM (setsL f.q (maskRd u))
  have h2 := (mostV_is (rd := maskRd u) hf.ql hf.pos).all_nonneg
  unfold maskV
  unfold mostV at h2 ⊢
  omega
/-- What is known: a map of the call's own, from what is ready to what the best sales bring. -/
def KnownM (W : World) (b n : Nat) (g : Nat → Int) : Prop :=
  ∃ D : DataW Unit, W.ownsMap Try.prog 69 (plainElem Try.prog 3) b n D ∧ Maps.IsMap D ∧ ∀ u : Nat, u < 16 → Maps.has D (.int .i64 (u : Int)) = true → D.atKey (.int .i64 (u : Int)) (.lit (.int .i64 0)) = .lit (.int .i64 (g u))
theorem KnownM.made (w : World) (g : Nat → Int) : KnownM (w.alloc (.map #[] 0)) w.heap.size 0 g :=
  ⟨.map [], World.ownsMap_made w _ _ _, Maps.isMap_empty, fun u _ h => by cases h⟩
theorem KnownM.grown {W W' : World} {b n : Nat} {g : Nat → Int} {row : Option Nat} (h : KnownM W b n g) (hg : W.grownBy W' row) (hr : some b ≠ row) : KnownM W' b n g := by
  obtain ⟨D, h1, h2, h3⟩ := h
  exact ⟨D, h1.kept hg hr, h2, h3⟩
theorem KnownM.lt {W : World} {b n : Nat} {g : Nat → Int} (h : KnownM W b n g) : b < W.heap.size := by obtain ⟨D, h1, _⟩ := h; exact h1.lt
theorem KnownM.below {W W' : World} {b n : Nat} {g : Nat → Int} (h : KnownM W b n g) (hb : Below W.heap.size W W') : KnownM W' b n g :=
  h.grown (row := none) ⟨hb.os, hb.tape, hb.output, hb.size, fun i hi _ => hb.block i hi⟩ (by simp)
theorem KnownM.isMap {W : World} {b n : Nat} {g : Nat → Int} (h : KnownM W b n g) : ∃ es ck, W.heap[b]? = some (.map es ck) := by
  obtain ⟨D, ⟨es, ck, hb, _⟩, _⟩ := h
  exact ⟨es, ck, hb⟩
theorem KnownM.set {W : World} {b n k : Nat} {g : Nat → Int} (h : KnownM W b n g) (hne : b ≠ k) (o : Nat) (v : Value) : KnownM (W.setCell ⟨k, o, none⟩ v) b n g := by
  obtain ⟨D, h1, h2, h3⟩ := h
  exact ⟨D, h1.setCell hne v, h2, h3⟩
theorem lit_inj {a b : Int} (h : (DataW.lit (.int .i64 a) : DataW Unit) = .lit (.int .i64 b)) : a = b := by
  injection h with h
  injection h
theorem zero3 (w : World) : (zeroValue 3).run Try.prog w = .ok (.int .i64 0) w := by kernel_rfl
theorem wf16 {u : Nat} (h : u < 16) : (Lit.int .i64 (u : Int)).wf = true := WalkArith.wf_i64 (by omega)
theorem OBox.notMap {W : World} {b : Nat} {F : FL} {f : Fair} {v : Value} {u mb : Nat} (h : OBox W b F f v u) (hm : ∃ es ck, W.heap[mb]? = some (.map es ck)) : b ≠ mb := fun e => by
  obtain ⟨es, ck, hm⟩ := hm
  subst e
  rw [show W.heap[b]? = _ from h] at hm
  cases hm
theorem LotsAt.kept {W W' : World} {B B' : Nat} {A : Option Addr} {q : List Bid} (h : LotsAt W B A q) (hB : B ≤ B') (hk : ∀ g o v, A = some g → W.cell? ⟨g.block, o, none⟩ = some v → W'.cell? ⟨g.block, o, none⟩ = some v) : LotsAt W' B' A q := by
  rcases h with h | ⟨b, off, e, hb, h⟩
  · exact .inl h
  · refine .inr ⟨b, off, e, by omega, fun i x hx => ?_⟩
    obtain ⟨m, hm, h1, h2, h3⟩ := h i x hx
    exact ⟨m, hm, hk _ _ _ e h1, hk _ _ _ e h2, hk _ _ _ e h3⟩
/-- What is ready is written anew. -/
theorem OpenAt.set {W : World} {b : Nat} {F : FL} {f : Fair} {rd rd' : List Int} (h : OpenAt W b F f rd) {u : Nat} (hu : MaskOf rd' u) : OpenAt (W.setCell ⟨b, 9, none⟩ (.int .i64 (u : Int))) b F f rd' := by
  obtain ⟨A, c, u0, h1, h2, h3⟩ := h.ex
  have hz : (W.setCell ⟨b, 9, none⟩ (.int .i64 (u : Int))).heap.size = W.heap.size := by simp [World.setCell]
  have hne := h.ne A c u0 h1
  refine ⟨⟨A, c, u, h1.set9 u, h2.kept (Nat.le_of_eq hz.symm) fun g o v e hc => ?_, hu⟩, fun A' c' u' hO g e => ?_⟩
  · rw [World.cell?_of_block (set_other_heap (cell_lt hc) (hne g e))]; exact hc
  · have e2 := (h1.set9 u).uniq hO
    cases e2
    exact hne g e
theorem OpenAt.grown {W W' : World} {b mb : Nat} {F : FL} {f : Fair} {rd : List Int} (h : OpenAt W b F f rd) (hg : W.grownBy W' (some mb)) (hm : ∃ es ck, W.heap[mb]? = some (.map es ck)) : OpenAt W' b F f rd := by
  obtain ⟨A, c, u0, h1, h2, h3⟩ := h.ex
  have hb := h1.notMap hm
  have hO : W'.heap[b]? = W.heap[b]? := hg.block b h1.lt (fun e => hb (Option.some.inj e))
  refine ⟨⟨A, c, u0, h1.of hO, h2.kept hg.size fun g o v e hc => ?_, h3⟩, fun A' c' u' hO' => h.ne A' c' u' (hO'.of hO.symm)⟩
  have hgm : g.block ≠ mb := fun e2 => by
    obtain ⟨es, ck, hm⟩ := hm
    rw [← e2] at hm
    unfold World.cell? at hc
    simp only [hm] at hc
    cases hc
  exact (World.cell?_of_block (a := ⟨g.block, o, none⟩) (hg.block g.block (cell_lt (a := ⟨g.block, o, none⟩) hc) (fun e => hgm (Option.some.inj e)))).trans hc
theorem kpB_grown {W W' : World} {mb : Nat} (h : W.grownBy W' (some mb)) : KpB (fun k => k = mb) W.heap.size W W' := ⟨h.os, h.tape, h.output, h.size, fun k hk hs => h.block k hk (fun e => hs (Option.some.inj e))⟩
theorem keyU {u : Nat} (h : u < 16) : keyOf Try.prog 69 (.int .i64 (u : Int)) = some (.int .i64 (u : Int)) := Maps.keyOf_int_mk Try.underlying69 (wf16 h)
theorem wp_region_tailX {P : Program} {id : Nat} {Q : Exit → Act → World → Prop} {a : Act} {w : World} {L : List Oper} (N : Nat) (hL : L = L.take N ++ [L.getD N default]) (hm : P.follows .mixedOrders = true) (hl : lastOK (L.take N).length (L.getD N default) = true) (hb : backB L = true) (hB : Region.lexB .any (L.take N ++ [idle (L.getD N default)]).toArray = true)
    (h : wpQuiet P (L.take N ++ [idle (L.getD N default)]).toArray (fun w' => ∃ x, w' = extB w x) (fun a' => ∀ w', (∃ x, w' = extB w x) → (L.getD N default).wp P a' w' (fun a'' w'' => Q .normal a'' w'') Q) (L.take N) a) : (Code.region id L.toArray true).wp P Q a w :=
  wp_region_tail (C := fun w' => ∃ x, w' = extB w x) _ _ hL hm hl hb hB (extB_of (Below.refl _ w).drew) h
section
variable {w : World} {ops : Array Oper} {rest : List Oper} {o : Oper} {a : Act} {Q : Exit → Act → World → Prop}
theorem look_known (hg : o.guard = none) (m x : Operand) (hop : o.op = Op.lookup 74 m x true) (b n : Nat) (D : DataW Unit) (u : Nat) (hu : u < 16) (hm : a.eval m = .map (some b)) (hown : w.ownsMap Try.prog 69 (plainElem Try.prog 3) b n D) (hx : a.eval x = .int .i64 (u : Int)) (is : Bool) (his : Maps.has D (.int .i64 (u : Int)) = is)
    (hK : ∀ c : Int, D.atKey (.int .i64 (u : Int)) (.lit (.int .i64 0)) = .lit (.int .i64 c) → wpList Try.prog ops Q rest (a.put o.dst (.tuple #[.int .i64 c, .bool is])) w) : wpList Try.prog ops Q (o :: rest) a w := by
  subst his
  exact wpList_lookup_own_ok_int w hg m x 74 hop 69 3 .i64 (Maps.int_keyed Try.underlying69) Try.underlying74 Try.underlying3 (zero3 _) b n D hm hown _ _ hx (keyU hu) (fun c hc _ => hK c hc)
theorem look_one (hg : o.guard = none) (m x : Operand) (hop : o.op = Op.lookup 74 m x false) (b n : Nat) (D : DataW Unit) (u : Nat) (hu : u < 16) (hm : a.eval m = .map (some b)) (hown : w.ownsMap Try.prog 69 (plainElem Try.prog 3) b n D) (hx : a.eval x = .int .i64 (u : Int)) (v : Int) (hv : D.atKey (.int .i64 (u : Int)) (.lit (.int .i64 0)) = .lit (.int .i64 v))
    (hK : wpList Try.prog ops Q rest (a.put o.dst (.int .i64 v)) w) : wpList Try.prog ops Q (o :: rest) a w := by
  refine wpList_lookup_own_int w hg m x 74 hop 69 3 .i64 (Maps.int_keyed Try.underlying69) Try.underlying74 Try.underlying3 (zero3 _) b n D hm hown _ _ hx (keyU hu) (fun c hc _ => ?_)
  have e : c = v := by
    have := hc.symm.trans hv
    injection this with this
    injection this
  rw [e]; exact hK
theorem wp_upd {K : Act → World → Prop} (m x v : Operand) (hop : o.op = Op.mapUpdate 74 m x v) (b n : Nat) (D : DataW Unit) (u : Nat) (hu : u < 16) (z : Int) (hm : a.eval m = .map (some b)) (hown : w.ownsMap Try.prog 69 (plainElem Try.prog 3) b n D) (hn : n < 1000000) (hx : a.eval x = .int .i64 (u : Int)) (hv : a.eval v = .int .i64 z) (hz : 0 ≤ z ∧ z ≤ 792)
    (hK : ∀ w', w'.ownsMap Try.prog 69 (plainElem Try.prog 3) b (n + 1) (D.put (.int .i64 (u : Int)) (.lit (.int .i64 z))) → w.grownBy w' (some b) → K (a.put o.dst undef) w') : o.wp Try.prog a w K Q := by
  obtain ⟨w', hrun, r1, r2⟩ := hown.update (Maps.int_keyed Try.underlying69) Try.underlying74 (by unfold maxLen; omega) (keyU hu) (plainElem_int Try.underlying3 (show (Lit.int .i64 z).wf = true from WalkArith.wf_i64 (by omega)))
  unfold Oper.wp
  simp [execOp, hop, hm, hx, hv, hrun, Result.andThen]
  exact hK w' r1 r2
end
set_option maxRecDepth 100000 in
set_option maxHeartbeats 4000000 in
theorem on_any (F : FL) (f : Fair) (hn : FN f) (hf : FOK f) (rd0 : List Int) (b mb B : Nat) (pk : List Int) (hg : goodB f.h pk = true) (A : Option Addr) (c : Nat) (day : Int) (n : Nat) (hnn : n < 1000000) (w : World) (hB : B ≤ w.heap.size) (hF : FairAt w B F f) (hP : IntsAt w w.heap.size A pk) (hO : OpenAt w b F f rd0) (hM : KnownM w mb n (maskV f.q)) :
    Calls Try.prog 71 #[.pointer (some ⟨b, 0, none⟩), .slice A pk.length c, .int .i64 day, .map (some mb)] w fun e w' => e = .returned (.int .i64 (mostV f.q (readyL f.h pk day))) ∧ KpB (fun k => k = b ∨ k = mb) w.heap.size w w' ∧ OpenAt w' b F f (readyL f.h pk day) ∧ KnownM w' mb (n + 1) (maskV f.q) := by
  obtain ⟨A0, cl0, u0, hOB, _, _⟩ := hO.ex
  obtain ⟨g0, g1, g2, g3, g4, g5, g6, g7, g8, g9⟩ := hOB.cells
  have hlb := hOB.lt
  have H98 := Lib.hid (ready_any F f hn hf.h pk hg A c day w (hF.keep hB fun _ _ _ => rfl) hP)
  have HO := Lib.hid hO
  have HM := Lib.hid hM
  have HF := Lib.hid hf
  have HG := Lib.hid hg
  have HOB := Lib.hid hOB
  clear hn hf hF hP hO hM hg hOB
  obtain ⟨L, Ap, cp, Aq, cq⟩ := F
  go_enter Try.func71, Try.ntmps71
  go_upto_region 2 with (go_at_call 98; refine H98.out.mono ?_; rintro e w1 ⟨⟨u, rfl, hu⟩, hb1⟩; have B1 := Lib.hid hb1; have HU := Lib.hid (ready_mask HG.out hu); have HOB1 := Lib.hid (HOB.out.of (hb1.block _ hlb)); have p9 := HOB1.out.cells.2.2.2.2.2.2.2.2.2; have f9 := frozen_of_heap HOB1.out 9; clear hb1 hu)
  have hne := HOB.out.notMap HM.out.isMap
  have hO2 := (HO.out.below B1.out).set HU.out
  have hM2 := (HM.out.below B1.out).set (fun e => hne e.symm) 9 (.int .i64 (u : Int))
  have hk2 : KpB (fun k => k = b ∨ k = mb) w.heap.size w (w1.setCell ⟨b, 9, none⟩ (.int .i64 (u : Int))) := (kpB_of_below B1.out).set _ _ (.inl (.inl rfl))
  obtain ⟨W2, hW2⟩ : ∃ W2, w1.setCell ⟨b, 9, none⟩ (.int .i64 (u : Int)) = W2 := ⟨_, rfl⟩
  rw [hW2] at hO2 hM2 hk2 ⊢
  have hu16 := HU.out.lt
  have hgv := maskV_bd HF.out u
  have HQ := Lib.hid (maskV_eq HF.out HU.out)
  have HK2 := Lib.hid hk2
  have hmk := hM2.isMap
  have hmlt := hM2.lt
  obtain ⟨D, hown, hD, hat⟩ := hM2
  obtain ⟨A2, cl2, u2, hOB2, _, hU2⟩ := hO2.ex
  have HO2 := Lib.hid hO2
  have q9 : W2.cell? ⟨b, 9, none⟩ = some (.int .i64 (u : Int)) := by
    rw [← hW2]
    exact (HOB1.out.set9 u).cells.2.2.2.2.2.2.2.2.2
  have HOWN := Lib.hid hown
  have HAT := Lib.hid hat
  have HD := Lib.hid hD
  have HMK := Lib.hid hmk
  clear hW2 hO2 hk2 hmk hown hD hat hOB2 hU2 p9 f9 g0 g1 g2 g3 g4 g5 g6 g7 g8 g9
  cases hh : Maps.has D (.int .i64 (u : Int))
  · have HH := Lib.hid hh
    clear hh
    go_upto_region 5 with (refine look_known (by rfl) _ _ (by rfl) mb n D u hu16 (by rfl) HOWN.out (by rfl) false HH.out ?_; intro cv hcv; have HCV := Lib.hid hcv; clear hcv)
    have H77 := Lib.hid (fun z => most_78 ⟨L, Ap, cp, Aq, cq⟩ f HF.out (readyL f.h pk day) b allM (extB W2 z) (HO2.out.below (extB_below W2 z)) (fun m hm X hX => (all_any78 m X).mono fun e X' h => ⟨h.1, h.2 ▸ Below.refl _ _⟩))
    have HMV := Lib.hid (show mostTo f.q allM (setsL f.q (readyL f.h pk day)) = maskV f.q u from HQ.out)
    rw [HMV.out] at H77
    have y9 := extB_cell q9
    refine wp_region_tailX 7 (by rfl) (by kernel_rfl) (by kernel_rfl) (by kernel_rfl) (by kernel_rfl) ?_
    simp only [List.take_succ_cons, List.take_zero, List.getD_cons_succ, List.getD_cons_zero, List.cons_append, List.nil_append, idle]
    repeat (go_big_quiet_step ((go_at_call 77; exact ext_call (H77.out _))))
    refine wpQuiet_nil ?_
    rintro _ ⟨t1, rfl⟩
    have hb6 := extB_below W2 t1
    have hown6 := HOWN.out.kept (w' := extB W2 t1) (row := none) ⟨hb6.os, hb6.tape, hb6.output, hb6.size, fun i hi _ => hb6.block i hi⟩ (by simp)
    have HB6 := Lib.hid hb6
    have HO6 := Lib.hid (HO2.out.below hb6)
    have hmk6 : ∃ es ck, (extB W2 t1).heap[mb]? = some (.map es ck) := by
      obtain ⟨es, ck, h⟩ := HMK.out
      exact ⟨es, ck, (hb6.block _ hmlt).trans h⟩
    have HMK6 := Lib.hid hmk6
    have q6 := y9 t1
    obtain ⟨W6, hW6⟩ : ∃ W6, extB W2 t1 = W6 := ⟨_, rfl⟩
    rw [hW6] at hown6 HB6 HO6 HMK6 q6 ⊢
    clear hW6 hb6 y9 hmk6 q9
    refine wp_upd _ _ _ (by rfl) mb n D u hu16 (maskV f.q u) (by rfl) hown6 hnn (by rfl) (by rfl) hgv ?_
    intro w7 hown7 hgr7
    have hO7 := HO6.out.grown hgr7 HMK6.out
    have hk7 : KpB (fun k => k = b ∨ k = mb) w.heap.size w w7 := (HK2.out.trans ((kpB_of_below HB6.out).mono HK2.out.size fun _ _ h => h)).trans ((kpB_grown hgr7).mono (Nat.le_trans HK2.out.size HB6.out.size) fun _ _ h => .inr h)
    have q7 := (World.cell?_of_block (a := ⟨b, 9, none⟩) (hgr7.block b (cell_lt q6) (fun e => hne (Option.some.inj e)))).trans q6
    have HK7 := Lib.hid hk7
    have HO7 := Lib.hid hO7
    have HOW7 := Lib.hid hown7
    have HAT7 := Lib.hid (Maps.atKey_put_same (k := Lit.int .i64 (u : Int)) HD.out (by trivial) (.lit (.int .i64 (maskV f.q u))) (.lit (.int .i64 0)))
    clear hgr7 hk7 hO7 hown7 q6 hown6
    go_wp2_with (refine look_one (by rfl) _ _ (by rfl) mb (n + 1) _ u hu16 (by rfl) HOW7.out (by rfl) (maskV f.q u) HAT7.out ?_)
    go_ret
    refine ⟨by rw [HQ.out]; rfl, HK7.out, HO7.out, _, HOW7.out, HD.out.put _ _, fun x hx hh => ?_⟩
    by_cases e : x = u
    · subst e; exact HAT7.out
    · have hne2 : Lit.int .i64 (x : Int) ≠ Lit.int .i64 (u : Int) := fun h => e (by injection h; omega)
      rw [Maps.has_put_other hne2] at hh
      rw [Maps.atKey_put_other hne2]
      exact HAT.out x hx hh
  · have HH := Lib.hid hh
    have hat2 := HAT.out u hu16 hh
    have HA2 := Lib.hid hat2
    clear hh hat2
    go_wp2_with (refine look_known (by rfl) _ _ (by rfl) mb n D u hu16 (by rfl) HOWN.out (by rfl) true HH.out ?_; intro cv hcv; obtain rfl := lit_inj (hcv.symm.trans HA2.out); clear hcv)
    go_ret
    exact ⟨by rw [HQ.out]; rfl, HK2.out, HO2.out, D, HOWN.out.mono (Nat.le_succ n), HD.out, HAT.out⟩

end Go.Proofs.Ytmconopnplgcfaa
namespace Go.Proofs.Ytmconopnplgcfaa
open Go.RowKit

/-! On 30, When 31. -/
def dayV (f : Fair) (d : Int) : Int := mostV f.q (readyL f.h f.pk d)
def onRet (f : Fair) (x : Int) : Int × Int := numRF f (inR x 0 20) (dayV f x)
def whenV (f : Fair) : Nat := (whenTo (fun d : Nat => dayV f d) 21).1
def whenRet (f : Fair) : Int × Int := numRF f true (whenV f)
theorem dayV_bd {f : Fair} (hf : FOK f) (d : Int) : 0 ≤ dayV f d ∧ dayV f d ≤ 792 := by
  have h1 := mostTo_bd hf.ql hf.pay allM (setsL f.q (readyL f.h f.pk d))
  have h2 := (mostV_is (rd := readyL f.h f.pk d) hf.ql hf.pos).all_nonneg
  unfold dayV
  unfold mostV at h2 ⊢
  omega
theorem KpB.under {S : Nat → Prop} {B n : Nat} {w W W' : World} (hw : Below B w W) (h : KpB S n W W') (hn : B ≤ n) (hS : ∀ k, S k → B ≤ k) : Below B w W' := hw.trans (h.belowOf hn hS)
theorem cell_kp {S : Nat → Prop} {n : Nat} {W0 W : World} {b o : Nat} {v : Value} (h : KpB S n W0 W) (hc : W0.cell? ⟨b, o, none⟩ = some v) (hs : ¬ S b) (hn : b < n) : W.cell? ⟨b, o, none⟩ = some v := (h.cell hn hs).trans hc
theorem makes0 (w : World) : (Instr.makeMap 74 none).run Try.prog w = .ok (.map (some w.heap.size)) (w.alloc (.map #[] 0)) := rfl
set_option maxRecDepth 100000 in
set_option maxHeartbeats 4000000 in
theorem On_any (F : FL) (f : Fair) (hn : FN f) (x : Int) (w : World) (hF : FairAt w w.heap.size F f) : Calls Try.prog 30 #[F.enc f, .int .i64 x] w fun e w' => NumEnd (onRet f x) e ∧ Below w.heap.size w w' := by
  have hbw := al_below w (.cells #[.slice F.L.Ak f.h.ks.length F.L.ck, .int .i64 f.h.fl, .slice F.L.Ap f.h.ps.length F.L.cp, .slice F.L.Ab f.h.bs.length F.L.cb, .slice F.Ap f.pk.length F.cp, .int .i64 f.day, .int .i64 f.nb, .slice F.Aq f.q.length F.cq] 29)
  have HB := Lib.hid (FBox.new w F f)
  obtain ⟨c0, c1, c2, c3, c4, c5, c6, c7⟩ := (FBox.new w F f).cells
  obtain ⟨W0, hW0⟩ : ∃ W0, w.alloc (.cells #[.slice F.L.Ak f.h.ks.length F.L.ck, .int .i64 f.h.fl, .slice F.L.Ap f.h.ps.length F.L.cp, .slice F.L.Ab f.h.bs.length F.L.cb, .slice F.Ap f.pk.length F.cp, .int .i64 f.day, .int .i64 f.nb, .slice F.Aq f.q.length F.cq] 29) = W0 := ⟨_, rfl⟩
  rw [hW0] at hbw HB c0 c1 c2 c3 c4 c5 c6 c7
  have HBW := Lib.hid hbw
  have HW0 := Lib.hid hW0
  have HF := Lib.hid (hF.below hbw)
  clear hbw hW0 hF
  have HN := Lib.hid hn
  have hqn := hn.q
  obtain ⟨is, his⟩ : ∃ b, b = inR x 0 20 := ⟨_, rfl⟩
  have H70 := Lib.hid (fun W => by have := isDay_any x W; rw [← his] at this; exact this)
  have HIS := Lib.hid his
  clear hn
  by_cases h0 : askF f is = 0
  · have hi := (askF_ok h0).2
    have HV := Lib.hid (askF_ok h0).1
    have HFO := Lib.hid (FOK.of HV.out)
    have HA := Lib.hid h0
    have H66 := Lib.hid (fun W hW => open_yes F f is HN.out W hW h0)
    have HR := Lib.hid (inR_true.1 (his.symm.trans hi))
    clear h0 his
    subst hi
    have HQ0 := Lib.hid (show onRet f x = (dayV f x, 0) by unfold onRet; rw [← HIS.out, numRF_ok HA.out])
    have H71 := Lib.hid (fun b W (hW : Below W0.heap.size W0 W) hO => on_any F f HN.out HFO.out (rdF f) b W.heap.size W0.heap.size f.pk HFO.out.p F.Ap F.cp x 0 (by omega) (W.alloc (.map #[] 0)) (Nat.le_trans hW.size (al_below W _).size) (HF.out.keep (Nat.le_refl _) fun b o hlt => (hb0to hW (al_below W (.map #[] 0))).cell (p := ⟨b, o, none⟩) hlt) (HF.out.below (hb0to hW (al_below W (.map #[] 0)))).p (OpenAt.below hO (al_below W (.map #[] 0))) (KnownM.made W _))
    obtain ⟨L, Ap, cp, Aq, cq⟩ := F
    go_enter Try.func30, Try.ntmps30
    go_upto_region 1 with (fail)
    have e := HW0.out
    rw [e]
    clear e
    go_region_held3 (fun w' => w'.cell? ⟨w.heap.size, 0, none⟩ = some (.slice L.Ak f.h.ks.length L.ck) ∧ w'.cell? ⟨w.heap.size, 1, none⟩ = some (.int .i64 f.h.fl) ∧ w'.cell? ⟨w.heap.size, 2, none⟩ = some (.slice L.Ap f.h.ps.length L.cp) ∧ w'.cell? ⟨w.heap.size, 3, none⟩ = some (.slice L.Ab f.h.bs.length L.cb) ∧ w'.cell? ⟨w.heap.size, 4, none⟩ = some (.slice Ap f.pk.length cp) ∧ w'.cell? ⟨w.heap.size, 5, none⟩ = some (.int .i64 f.day) ∧ w'.cell? ⟨w.heap.size, 6, none⟩ = some (.int .i64 f.nb) ∧ w'.cell? ⟨w.heap.size, 7, none⟩ = some (.slice Aq f.q.length cq)) (first | go_keep)
      (first
        | (go_at_call 70; refine (H70.out _).mono ?_; rintro e w1 ⟨rfl, rfl⟩)
        | (go_at_call 66; refine (H66.out _ (HF.out.below (by first | exact Below.refl _ _ | exact drew_below W0))).mono ?_; rintro e w2 ⟨⟨b, rfl, hbb, hO⟩, hb2⟩; have B2 := Lib.hid (by first | exact hb2 | exact hb0to (drew_below W0) hb2 : Below W0.heap.size W0 w2); have HO := Lib.hid hO; have HBB := Lib.hid hbb; clear hO hbb; obtain ⟨r0, r1, r2, r3, r4, r5, r6, r7⟩ := (HB.out.of (B2.out.block _ HB.out.lt)).cells; clear hb2))
    all_goals
      have hmm := @makes0
      go_wp2_with (go_at_call 71; refine (H71.out b w2 B2.out HO.out).mono ?_; rintro e w3 ⟨rfl, hk3, _, _⟩; have HK3 := Lib.hid hk3; clear hk3)
      go_ret2
      exact ⟨NumEnd.mk HQ0.out, KpB.under (hb0to HBW.out (hb0to B2.out (al_below w2 (.map #[] 0)))) HK3.out (hb0to HBW.out (hb0to B2.out (al_below w2 (.map #[] 0)))).size (fun k hk => by have h1 : W0.heap.size ≤ b := HBB.out; have h2 := HBW.out.size; have h3 := B2.out.size; rcases hk with rfl | rfl <;> omega)⟩
  · have H66 := Lib.hid (fun W hW => open_no F f is HN.out W hW h0)
    obtain ⟨er, her⟩ : ∃ x, x = askF f is := ⟨_, rfl⟩
    have HQ := Lib.hid her
    rw [← her] at H66 h0
    have hd : (er != 0) = true := bne_iff_ne.2 h0
    clear h0 her his
    obtain ⟨L, Ap, cp, Aq, cq⟩ := F
    go_enter Try.func30, Try.ntmps30
    go_upto_region 1 with (fail)
    have e := HW0.out
    rw [e]
    clear e
    go_region_held3 (fun w' => w'.cell? ⟨w.heap.size, 0, none⟩ = some (.slice L.Ak f.h.ks.length L.ck) ∧ w'.cell? ⟨w.heap.size, 1, none⟩ = some (.int .i64 f.h.fl) ∧ w'.cell? ⟨w.heap.size, 2, none⟩ = some (.slice L.Ap f.h.ps.length L.cp) ∧ w'.cell? ⟨w.heap.size, 3, none⟩ = some (.slice L.Ab f.h.bs.length L.cb) ∧ w'.cell? ⟨w.heap.size, 4, none⟩ = some (.slice Ap f.pk.length cp) ∧ w'.cell? ⟨w.heap.size, 5, none⟩ = some (.int .i64 f.day) ∧ w'.cell? ⟨w.heap.size, 6, none⟩ = some (.int .i64 f.nb) ∧ w'.cell? ⟨w.heap.size, 7, none⟩ = some (.slice Aq f.q.length cq)) (first | go_keep)
      (first
        | (go_at_call 70; refine (H70.out _).mono ?_; rintro e w1 ⟨rfl, rfl⟩)
        | (go_at_call 66; refine (H66.out _ (HF.out.below (by first | exact Below.refl _ _ | exact drew_below W0))).mono ?_; rintro e w2 ⟨rfl, hb2⟩; have B2 := Lib.hid (by first | exact hb2 | exact hb0to (drew_below W0) hb2 : Below W0.heap.size W0 w2); obtain ⟨r0, r1, r2, r3, r4, r5, r6, r7⟩ := (HB.out.of (B2.out.block _ HB.out.lt)).cells; clear hb2))
    all_goals
      go_wp2_with (fail)
      go_ret2
      exact ⟨NumEnd.mk (by unfold onRet; rw [← HIS.out]; exact numRF_no HQ.out (bne_iff_ne.1 hd)), hb0to HBW.out B2.out⟩
set_option maxRecDepth 100000 in
set_option maxHeartbeats 4000000 in
theorem When_any (F : FL) (f : Fair) (hn : FN f) (w : World) (hF : FairAt w w.heap.size F f) : Calls Try.prog 31 #[F.enc f] w fun e w' => NumEnd (whenRet f) e ∧ Below w.heap.size w w' := by
  have hbw := al_below w (.cells #[.slice F.L.Ak f.h.ks.length F.L.ck, .int .i64 f.h.fl, .slice F.L.Ap f.h.ps.length F.L.cp, .slice F.L.Ab f.h.bs.length F.L.cb, .slice F.Ap f.pk.length F.cp, .int .i64 f.day, .int .i64 f.nb, .slice F.Aq f.q.length F.cq] 29)
  have HB := Lib.hid (FBox.new w F f)
  obtain ⟨c0, c1, c2, c3, c4, c5, c6, c7⟩ := (FBox.new w F f).cells
  obtain ⟨W0, hW0⟩ : ∃ W0, w.alloc (.cells #[.slice F.L.Ak f.h.ks.length F.L.ck, .int .i64 f.h.fl, .slice F.L.Ap f.h.ps.length F.L.cp, .slice F.L.Ab f.h.bs.length F.L.cb, .slice F.Ap f.pk.length F.cp, .int .i64 f.day, .int .i64 f.nb, .slice F.Aq f.q.length F.cq] 29) = W0 := ⟨_, rfl⟩
  rw [hW0] at hbw HB c0 c1 c2 c3 c4 c5 c6 c7
  have HBW := Lib.hid hbw
  have HW0 := Lib.hid hW0
  have HF := Lib.hid (hF.below hbw)
  clear hbw hW0 hF
  have HN := Lib.hid hn
  clear hn
  by_cases h0 : askF f true = 0
  · have H66 := Lib.hid (open_yes F f true HN.out W0 HF.out h0)
    have HV := Lib.hid (askF_ok h0).1
    have HFO := Lib.hid (FOK.of HV.out)
    have HA := Lib.hid h0
    clear h0
    have hmm := @makes0
    obtain ⟨L, Ap, cp, Aq, cq⟩ := F
    go_enter Try.func31, Try.ntmps31
    go_upto_region 1 with (fail)
    have e := HW0.out
    rw [e]
    clear e
    go_wp2_with (first
      | (go_at_call 66; refine (H66.out).mono ?_; rintro e w1 ⟨⟨b, rfl, hbb, hO⟩, hb1⟩; have B1 := Lib.hid hb1; have HO := Lib.hid hO; have HBB := Lib.hid hbb; have r4 := (HB.out.of (hb1.block _ HB.out.lt)).cells.2.2.2.2.1; clear hb1 hO hbb)
      | (fail))
    clear r4
    go_loopw [20, 7, 8] (fun i s t wr => ∃ (k : Nat) (rd : List Int), k ≤ 21 ∧ i = .int .i64 k ∧ s = .int .i64 ((whenTo (fun d : Nat => dayV f d) k).1 : Nat) ∧ t = .int .i64 (whenTo (fun d : Nat => dayV f d) k).2 ∧ Hid (OpenAt wr b ⟨L, Ap, cp, Aq, cq⟩ f rd) ∧ Hid (KnownM wr w1.heap.size k (maskV f.q)) ∧ Hid (KpB (fun j => j = b ∨ j = w1.heap.size) W0.heap.size W0 wr)) (fun i _ _ _ => 21 - (intOf i).toNat)
    case atStart => exact ⟨0, _, by omega, rfl, rfl, rfl, Lib.hid (HO.out.below (al_below w1 (.map #[] 0))), Lib.hid (KnownM.made w1 _), Lib.hid (kpB_of_below (hb0to B1.out (al_below w1 (.map #[] 0))))⟩
    case round =>
      obtain ⟨k, rd, hk, rfl, rfl, rfl, hO, hM, hkp⟩ := hrel
      have hdv := dayV_bd HFO.out (k : Int)
      by_cases hlt : k < 21
      · have r4 := cell_kp hkp.out HB.out.cells.2.2.2.2.1 (fun h => by have h1 : W0.heap.size ≤ b := HBB.out; have h2 := HB.out.lt; have h3 := B1.out.size; rcases h with h | h <;> omega) HB.out.lt
        have hFr := HF.out.keep (B' := W0.heap.size) (W' := wr) (Nat.le_refl _) fun b' o hb' => hkp.out.cell hb' (fun h => by have h1 : W0.heap.size ≤ b := HBB.out; have h3 := B1.out.size; rcases h with h | h <;> omega)
        have H71 := Lib.hid (on_any ⟨L, Ap, cp, Aq, cq⟩ f HN.out HFO.out rd b w1.heap.size W0.heap.size f.pk HFO.out.p Ap cp (k : Int) k (by omega) wr hkp.out.size hFr (hFr.p.keep hkp.out.size fun _ _ _ => rfl) hO.out hM.out)
        have HW := Lib.hid (show whenTo (fun d : Nat => dayV f d) (k + 1) = whenStep (fun d : Nat => dayV f d) (whenTo (fun d : Nat => dayV f d) k) k from rfl)
        unfold whenStep at HW
        change Hid (Calls _ _ _ _ fun e w' => e = .returned (.int .i64 (dayV f (k : Int))) ∧ _) at H71
        generalize whenTo (fun d : Nat => dayV f d) k = st at HW ⊢
        obtain ⟨bs, n⟩ := st
        simp only at HW ⊢
        generalize hv : dayV f (k : Int) = v at H71 HW hdv
        clear hv hFr
        by_cases hnv : n < v
        · have hd : decide (n < v) = true := decide_eq_true hnv
          rw [if_pos hnv] at HW
          clear hnv
          go_wp2_with (go_at_call 71; refine H71.out.mono ?_; rintro e w3 ⟨rfl, hk3, hO3, hM3⟩; have HK3 := Lib.hid hk3; have HO3 := Lib.hid hO3; have HM3 := Lib.hid hM3; clear hk3 hO3 hM3)
          go_roundw
          case rel => exact ⟨k + 1, _, by omega, by go_num, by rw [HW.out], by rw [HW.out], HO3, HM3, Lib.hid (hkp.out.trans (HK3.out.mono hkp.out.size fun _ _ h => h))⟩
          case measure => simp [intOf]; omega
        · have hd : decide (n < v) = false := decide_eq_false hnv
          rw [if_neg hnv] at HW
          clear hnv
          go_wp2_with (go_at_call 71; refine H71.out.mono ?_; rintro e w3 ⟨rfl, hk3, hO3, hM3⟩; have HK3 := Lib.hid hk3; have HO3 := Lib.hid hO3; have HM3 := Lib.hid hM3; clear hk3 hO3 hM3)
          go_roundw
          case rel => exact ⟨k + 1, _, by omega, by go_num, by rw [HW.out], by rw [HW.out], HO3, HM3, Lib.hid (hkp.out.trans (HK3.out.mono hkp.out.size fun _ _ h => h))⟩
          case measure => simp [intOf]; omega
      · obtain rfl : k = 21 := by omega
        have HQ := Lib.hid (show whenRet f = ((((whenTo (fun d : Nat => dayV f d) 21).1 : Nat) : Int), (0 : Int)) from numRF_ok HA.out)
        generalize whenTo (fun d : Nat => dayV f d) 21 = st at HQ ⊢
        go_wp2_with (fail)
        go_ret2
        exact ⟨NumEnd.mk HQ.out, KpB.under HBW.out hkp.out HBW.out.size (fun j h => by have h1 : W0.heap.size ≤ b := HBB.out; have h3 := B1.out.size; have h4 := HBW.out.size; rcases h with h | h <;> omega)⟩
  · have H66 := Lib.hid (open_no F f true HN.out W0 HF.out h0)
    obtain ⟨er, her⟩ : ∃ x, x = askF f true := ⟨_, rfl⟩
    have HQ := Lib.hid her
    rw [← her] at H66 h0
    have hd : (er != 0) = true := bne_iff_ne.2 h0
    clear h0 her
    obtain ⟨L, Ap, cp, Aq, cq⟩ := F
    go_enter Try.func31, Try.ntmps31
    go_upto_region 1 with (fail)
    have e := HW0.out
    rw [e]
    clear e
    go_wp2_with (go_at_call 66; refine (H66.out).mono ?_; rintro e w1 ⟨rfl, hb1⟩; have B1 := Lib.hid hb1; clear hb1)
    go_ret2
    exact ⟨NumEnd.mk (numRF_no HQ.out (bne_iff_ne.1 hd)), hb0to HBW.out B1.out⟩

end Go.Proofs.Ytmconopnplgcfaa
