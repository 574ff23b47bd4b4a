import Derived.Test.YtmbcpmnigggbaaaC6
import Derived.RangeFuncBox
import Derived.RangeFuncCalls
import Derived.RangeFuncLeaves
import Derived.RangeFuncNested
import Derived.Shelf.Abstract
import Derived.Test.YtmbcpmnigggbaaaR3
import Derived.Test.YtmbcpmnigggbaaaU4
import Derived.Test.YtmbcpmnigggbaaaS4
import Derived.Test.YtmbcpmnigggbaaaFG
import Derived.StillTailTactics
import Derived.Test.YtmbcpmnigggbaaaLiC9
namespace Go.Proofs.Ytmbcpmnigggbaaa.Cu
open Go.RowKit
abbrev encP (p : CP) : Value := .agg #[.int .i64 p.of, .int .i64 p.wl, .int .i64 p.wh, .int .i64 p.sl, .int .i64 p.sh, .int .i64 p.pe]
/-- A table in memory. -/
def TableAt (W : World) (B : Nat) (A : Option Addr) (t : List CP) : Prop :=
  t = [] ∨ ∃ b off, A = some ⟨b, off, none⟩ ∧ b < B ∧ ∀ (i : Nat) p, t[i]? = some p → W.cell? ⟨b, off + i * 6, none⟩ = some (.int .i64 p.of) ∧ W.cell? ⟨b, off + i * 6 + 1, none⟩ = some (.int .i64 p.wl) ∧ W.cell? ⟨b, off + i * 6 + 2, none⟩ = some (.int .i64 p.wh) ∧ W.cell? ⟨b, off + i * 6 + 3, none⟩ = some (.int .i64 p.sl) ∧ W.cell? ⟨b, off + i * 6 + 4, none⟩ = some (.int .i64 p.sh) ∧ W.cell? ⟨b, off + i * 6 + 5, none⟩ = some (.int .i64 p.pe)
theorem TableAt.keep {W W' : World} {B B' : Nat} {A : Option Addr} {t : List CP} (h : TableAt W B A t) (hB : B ≤ B') (hk : ∀ b o, b < B → W'.cell? ⟨b, o, none⟩ = W.cell? ⟨b, o, none⟩) : TableAt W' B' A t := by
  rcases h with h | ⟨b, off, hA, hb, hc⟩
  · exact .inl h
  · exact .inr ⟨b, off, hA, by omega, fun i p hp => by rw [hk _ _ hb, hk _ _ hb, hk _ _ hb, hk _ _ hb, hk _ _ hb, hk _ _ hb]; exact hc i p hp⟩
theorem TableAt.lt {W W' : World} {A : Option Addr} {t : List CP} (h : TableAt W W.heap.size A t) (hb : Below W.heap.size W W') : TableAt W' W'.heap.size A t :=
  h.keep hb.size fun _ _ hlt => hb.cell (p := ⟨_, _, none⟩) hlt
theorem TableAt.at_ {W : World} {B : Nat} {A : Option Addr} {t : List CP} (h : TableAt W B A t) {k : Nat} {p : CP} (hx : t[k]? = some p) : ∃ b off, A = some ⟨b, off, none⟩ ∧ b < B ∧
    W.cell? ⟨b, off + k * 6, none⟩ = some (.int .i64 p.of) ∧ W.cell? ⟨b, off + k * 6 + 1, none⟩ = some (.int .i64 p.wl) ∧ W.cell? ⟨b, off + k * 6 + 2, none⟩ = some (.int .i64 p.wh) ∧ W.cell? ⟨b, off + k * 6 + 3, none⟩ = some (.int .i64 p.sl) ∧ W.cell? ⟨b, off + k * 6 + 4, none⟩ = some (.int .i64 p.sh) ∧ W.cell? ⟨b, off + k * 6 + 5, none⟩ = some (.int .i64 p.pe) := by
  rcases h with h | ⟨b, off, hA, hb, hc⟩
  · subst h; simp at hx
  · exact ⟨b, off, hA, hb, hc k p hx⟩
def IdxP (p : CP → Bool) (l : List CP) (r : Int) : Prop := decide (0 ≤ r) = l.any p
set_option maxRecDepth 100000 in
set_option maxHeartbeats 4000000 in
theorem idxC_any (gf pb c : Nat) (A : Option Addr) (l : List CP) (hl : l.length ≤ 1000) (p : CP → Bool) (w : World) (hP : TableAt w w.heap.size A l) (eg : ∀ args w, (callFunc gf args).run Try.prog w = .ok (.enter gf args) w)
    (hf : ∀ (x : CP) (W : World), x ∈ l → Below w.heap.size w W → Calls Try.prog gf #[encP x, .pointer (some ⟨pb, 0, none⟩)] W fun e w' => e = .returned (.bool (p x)) ∧ Below W.heap.size W w') :
    Calls Try.prog 211 #[.slice A l.length c, .func (.func gf) #[] #[.pointer (some ⟨pb, 0, none⟩)]] w fun e w' => ∃ r, e = .returned (.int .i64 r) ∧ IdxP p l r ∧ Below w.heap.size w w' := by
  have HF := Lib.hid hf
  have HPn := Lib.hid hP
  clear hf hP
  go_enter Try.func211, Try.ntmps211
  go_wp2
  go_loopw [5, 8] (fun _ i wr => ∃ k : Nat, k ≤ l.length ∧ i = .int .i64 k ∧ Hid (∀ x ∈ l.take k, p x = false) ∧ Below w.heap.size w wr) (fun _ i _ => l.length - (intOf i).toNat)
  case atStart => exact ⟨0, Nat.zero_le _, rfl, Lib.hid (fun j hj => by simp at hj), Below.refl _ _⟩
  case round =>
    obtain ⟨k, hk, rfl, HK, hb⟩ := hrel
    by_cases hlt : k < l.length
    · obtain ⟨x, hx⟩ : ∃ x, l[k]? = some x := ⟨_, List.getElem?_eq_getElem hlt⟩
      obtain ⟨b, off, rfl, hbb, c1, c2, c3, c4, c5, c6⟩ := HPn.out.at_ hx
      have d1 := below_cell hb c1
      have d2 := below_cell hb c2
      have d3 := below_cell hb c3
      have d4 := below_cell hb c4
      have d5 := below_cell hb c5
      have d6 := below_cell hb c6
      have hmem : x ∈ l := List.mem_of_getElem? hx
      have htk : l.take (k + 1) = l.take k ++ [x] := by rw [List.take_add_one, hx]; rfl
      have HT := Lib.hid htk
      clear hx c1 c2 c3 c4 c5 c6 htk
      cases hp : p x
      all_goals
        have hc := HF.out x wr hmem hb
        rw [hp] at hc
        have HC := Lib.hid hc
        have HP := Lib.hid hp
        clear hc hp
        go_wp2_with (refine HC.out.mono ?_; rintro e w1 ⟨rfl, hb1⟩)
      · go_roundw
        case rel => exact ⟨k + 1, by omega, by go_num, Lib.hid (fun y hy => by
            rw [HT.out, List.mem_append] at hy
            rcases hy with hy | hy
            · exact HK.out y hy
            · rw [List.mem_singleton.1 hy]; exact HP.out), hb.trans (hb1.mono hb.size)⟩
        case measure => simp [intOf]; omega
      · go_ret
        refine ⟨k, rfl, ?_, hb.trans (hb1.mono hb.size)⟩
        rw [IdxP, List.any_eq_true.2 ⟨x, hmem, HP.out⟩]
        simp
    · obtain rfl : k = l.length := by omega
      go_wp2
      go_ret
      refine ⟨-1, rfl, ?_, hb⟩
      have : l.any p = false := by
        rw [List.any_eq_false]
        intro y hy
        rw [HK.out y (by rw [List.take_length]; exact hy)]
        simp
      rw [IdxP, this]
      rfl
theorem hasC_any (gf pb c : Nat) (A : Option Addr) (l : List CP) (hl : l.length ≤ 1000) (p : CP → Bool) (w : World) (hP : TableAt w w.heap.size A l) (eg : ∀ args w, (callFunc gf args).run Try.prog w = .ok (.enter gf args) w)
    (hf : ∀ (x : CP) (W : World), x ∈ l → Below w.heap.size w W → Calls Try.prog gf #[encP x, .pointer (some ⟨pb, 0, none⟩)] W fun e w' => e = .returned (.bool (p x)) ∧ Below W.heap.size W w') :
    Calls Try.prog 206 #[.slice A l.length c, .func (.func gf) #[] #[.pointer (some ⟨pb, 0, none⟩)]] w fun e w' => e = .returned (.bool (l.any p)) ∧ Below w.heap.size w w' := by
  have H := Lib.hid (idxC_any gf pb c A l hl p w hP eg hf)
  clear hf hP eg
  go_enter Try.func206, Try.ntmps206
  go_wp2_with (go_at_call 211; refine H.out.mono ?_; rintro e w1 ⟨r, rfl, hr, hb1⟩; have HR := Lib.hid hr; clear hr)
  go_ret
  exact ⟨by rw [← HR.out]; rfl, hb1⟩

set_option maxRecDepth 100000 in
set_option maxHeartbeats 4000000 in
theorem cut1_any (p : CP) (g : Nat) (i : Int) (w : World) (hg : w.cell? ⟨g, 0, none⟩ = some (.int .i64 i)) :
    Calls Try.prog 207 #[encP p, .pointer (some ⟨g, 0, none⟩)] w fun e w' => e = .returned (.bool (decide (p.of = i))) ∧ Below w.heap.size w w' := by
  have hg2 := below_cell (al_below w (.cells #[.int .i64 p.of, .int .i64 p.wl, .int .i64 p.wh, .int .i64 p.sl, .int .i64 p.sh, .int .i64 p.pe] 51)) hg
  go_enter Try.func207, Try.ntmps207
  go_wp2
  go_ret
  exact ⟨rfl, al_below _ _⟩
set_option maxRecDepth 100000 in
set_option maxHeartbeats 4000000 in
theorem canCut_any (A : Option Addr) (c : Nat) (t : List CP) (hl : t.length ≤ 1000) (k : Nat) (w : World) (hT : TableAt w w.heap.size A t) :
    Calls Try.prog 192 #[.slice A t.length c, .int .i64 k] w fun e w' => e = .returned (.bool (canCut t k)) ∧ Below w.heap.size w w' := by
  have hb := al_below w (.cells #[.int .i64 (k : Int)] 3)
  have HB := Lib.hid hb
  have hx := heap_new1 w (.cells #[.int .i64 (k : Int)] 3)
  have H := Lib.hid (hasC_any 207 w.heap.size c A t hl (fun p => decide (p.of = (k : Int))) _ (hT.lt hb) (enters_of Try.func207 (by kernel_rfl) rfl) (fun x W _ hW => cut1_any x w.heap.size k W (below_cell hW (cell_of_heap (o := 0) hx rfl))))
  clear hT hx hb
  go_enter Try.func192, Try.ntmps192
  go_wp2_with (go_at_call 206; refine H.out.mono ?_; rintro e w1 ⟨rfl, hb1⟩; have HB1 := Lib.hid hb1; clear hb1)
  go_ret
  exact ⟨rfl, hb0to HB.out HB1.out⟩

end Go.Proofs.Ytmbcpmnigggbaaa.Cu
namespace Go.Proofs.Ytmbcpmnigggbaaa.Cu
open Go.RowKit
attribute [local go_sem] Oper.semAt_some
/-- The parts of a table, from the last one on, k of them. -/
def backTo (t : List CP) (k : Nat) : List (CP × Nat) := t.zipIdx.reverse.take k
def backL (t : List CP) : List (CP × Nat) := t.zipIdx.reverse
theorem back_at {t : List CP} {k : Nat} (h : k < t.length) : ∃ p, t[t.length - 1 - k]? = some p ∧ (backL t)[k]? = some (p, t.length - 1 - k) := by
  have h1 : t.length - 1 - k < t.length := by omega
  refine ⟨t[t.length - 1 - k], List.getElem?_eq_getElem h1, ?_⟩
  unfold backL
  rw [List.getElem?_reverse (by simpa using h), List.length_zipIdx, List.getElem?_zipIdx, List.getElem?_eq_getElem h1]
  simp
theorem back_succ {t : List CP} {k : Nat} {p : CP} (h : (backL t)[k]? = some (p, t.length - 1 - k)) : backTo t (k + 1) = backTo t k ++ [(p, t.length - 1 - k)] := by
  unfold backTo
  rw [List.take_add_one, show t.zipIdx.reverse[k]? = _ from h]
  rfl
theorem back_pre (t : List CP) (k : Nat) : backTo t k <+: backL t := List.take_prefix _ _
theorem back_all (t : List CP) : backTo t t.length = backL t := by
  unfold backTo backL
  rw [List.take_of_length_le (by simp)]
theorem back_len {t : List CP} {k : Nat} (h : k ≤ t.length) : (backTo t k).length = k := by simp [backTo]; omega
def SeesB (_ : Nat) (x : CP × Nat) (args : Array Value) (_ : World) : Prop := args = #[.int .i64 (x.2 : Int), encP x.1]
set_option maxRecDepth 100000 in
set_option maxHeartbeats 4000000 in
theorem back_makes (n : Nat) (A : Option Addr) (c : Nat) (t : List CP) (hl : t.length ≤ 1000) (g : Nat) (w0 w : World) (hT : TableAt w0 w0.heap.size A t) (hg : w.heap[g]? = some (.cells #[.slice A t.length c] 103 (0, 0))) (hb0 : Below w0.heap.size w0 w) (S : Nat → Prop) (hgS : ¬ S g) (hS : ∀ k, S k → w0.heap.size ≤ k ∧ k < w.heap.size) :
    SeqMakes Fence.wide n Try.prog 205 #[] #[.pointer (some ⟨g, 0, none⟩)] S SeesB (backL t) w := by
  intro l J Jx W hbW hJ hJx hY h0
  have HSK := Lib.hid (show ∀ k, (S k ∨ Seg w.heap.size W.heap.size k) → w0.heap.size ≤ k from fun k hk => by
    rcases hk with hk | hk
    · exact (hS k hk).1
    · have := hk.1; have := hb0.size; omega)
  have HT := Lib.hid hT
  have hgl := heap_lt hg
  have HGW := Lib.hid ((hbW.block g hgl).trans hg)
  have HKG := Lib.hid (show ∀ X Y : World, w.heap.size ≤ X.heap.size → KpB (fun k => S k ∨ Seg w.heap.size W.heap.size k) X.heap.size X Y → Y.heap[g]? = X.heap[g]? from fun X Y hX hk => hk.block g (by omega) (fun hs => hs.elim hgS (fun hs => by have := hs.1; omega)))
  have HSW := Lib.hid hbW.size
  have hbw := hb0to hb0 hbW
  have HBW := Lib.hid hbw
  have HJ := Lib.hid hJ
  have HY := Lib.hid hY
  have H0 := Lib.hid h0
  have g1 := cell_of_heap (o := 0) HGW.out rfl
  have hw1 : IntKind.i64.wrap ((t.length : Int) - 1) = (t.length : Int) - 1 := IntWalk.i64_in _ (by omega)
  clear hT hg hb0 hbw hJ hJx hY h0 hS hbW hgS hgl
  refine callsIn_of_wp Try.func205 rfl trivial ?_ rfl
  simp only [Try.ntmps205, List.size_toArray, List.length_cons, List.length_nil, Nat.reduceAdd, Nat.reduceSub, Array.replicate_succ, Array.replicate_zero, List.push_toArray, List.append_toArray, List.nil_append, List.cons_append]
  gi_wp2_with (fail)
  gi_loopw [3] (fun i wr => ∃ k : Nat, k ≤ t.length ∧ i = .int .i64 ((t.length : Int) - 1 - (k : Int)) ∧ Hid (J (backTo t k) wr) ∧ Hid (Below w0.heap.size w0 wr) ∧ Hid (W.heap.size ≤ wr.heap.size) ∧ Hid (wr.heap[g]? = some (.cells #[.slice A t.length c] 103 (0, 0)))) (fun i _ => (intOf i + 1).toNat)
  case atStart => exact ⟨0, Nat.zero_le _, by simp, Lib.hid H0.out, HBW, Lib.hid (Nat.le_refl _), HGW⟩
  case round =>
    obtain ⟨k, hk, rfl, hJk, hb, hsz, hgr⟩ := hrel
    have g1 := cell_of_heap (o := 0) hgr.out rfl
    by_cases hlt : k < t.length
    · obtain ⟨p, hp, hbk⟩ := back_at hlt
      have HT2 := Lib.hid (back_succ hbk)
      have HPR := Lib.hid (back_pre t (k + 1))
      obtain ⟨b1, o1, rfl, hbb, d1, d2, d3, d4, d5, d6⟩ := HT.out.at_ hp
      have e1 := below_cell hb.out d1
      have e2 := below_cell hb.out d2
      have e3 := below_cell hb.out d3
      have e4 := below_cell hb.out d4
      have e5 := below_cell hb.out d5
      have e6 := below_cell hb.out d6
      have hi : ((t.length : Int) - 1 - (k : Int)) = ((t.length - 1 - k : Nat) : Int) := by omega
      have HI := Lib.hid hi
      have hY2 := HY.out (backTo t k) (p, t.length - 1 - k) #[.int .i64 ((t.length - 1 - k : Nat) : Int), encP p] wr hsz.out hJk.out rfl (by rw [← HT2.out]; exact HPR.out)
      rw [← HT2.out] at hY2
      obtain ⟨fn, tmps, assign, body, hy, hR⟩ := hY2
      have HR := Lib.hid hR
      rw [hi]
      have hil : t.length - 1 - k < t.length := by omega
      have hge : decide ((0 : Int) ≤ ((t.length - 1 - k : Nat) : Int)) = true := decide_eq_true (by omega)
      have hwi : IntKind.i64.wrap (((t.length - 1 - k : Nat) : Int) - 1) = ((t.length - 1 - k : Nat) : Int) - 1 := IntWalk.i64_in _ (by omega)
      clear hR hi hp hbk d1 d2 d3 d4 d5 d6
      gi_wp2_with (fail)
      refine ⟨(fun h => by cases h), HR.out.mono ?_⟩
      clear HR hy
      rintro e X' ⟨hk2, (⟨rfl, hj2⟩ | ⟨rfl, hj2⟩)⟩
      · have HJ2 := Lib.hid hj2
        have HK2 := Lib.hid hk2
        clear hj2 hk2
        gi_wp2_with (fail)
        go_roundw
        case rel => exact ⟨k + 1, by omega, by rw [show ((t.length : Int) - 1 - ((k + 1 : Nat) : Int)) = ((t.length - 1 - k : Nat) : Int) - 1 by omega], HJ2, Lib.hid (hb.out.trans (HK2.out.belowOf hb.out.size HSK.out)), Lib.hid (Nat.le_trans hsz.out HK2.out.size), Lib.hid ((HKG.out _ _ (Nat.le_trans HSW.out hsz.out) HK2.out).trans hgr.out)⟩
        case measure => first | (simp [intOf]; done) | (simp [intOf]; omega)
      · have HJ2 := Lib.hid hj2
        have HK2 := Lib.hid hk2
        clear hj2 hk2
        gi_wp2_with (fail)
        refine bodyPost_ret (results_none rfl _ _ _) rfl ?_
        exact ⟨⟨_, rfl⟩, Nat.le_trans hsz.out HK2.out.size, .inr ⟨_, HPR.out, HJ2.out⟩⟩
    · obtain rfl : k = t.length := by omega
      have HJN := Lib.hid hJk.out
      rw [back_all] at HJN
      have hge : decide ((0 : Int) ≤ (t.length : Int) - 1 - (t.length : Int)) = false := decide_eq_false (by omega)
      have hm1 : (t.length : Int) - 1 - (t.length : Int) = -1 := by omega
      rw [hm1]
      gi_wp2_with (fail)
      go_end0
      exact ⟨⟨_, rfl⟩, hsz.out, .inl HJN.out⟩
theorem back_any (A : Option Addr) (c n : Nat) (w : World) : Calls Try.prog 191 #[.slice A n c] w fun e w' => e = .returned (.func (.func 205) #[] #[.pointer (some ⟨w.heap.size, 0, none⟩)]) ∧ w' = w.alloc (.cells #[.slice A n c] 103) := by
  go_enter Try.func191, Try.ntmps191
  go_wp2
  go_ret
  exact ⟨rfl, rfl⟩

end Go.Proofs.Ytmbcpmnigggbaaa.Cu
namespace Go.Proofs.Ytmbcpmnigggbaaa.Cu
open Go.RowKit
def fillL (k : Nat) : List Int := List.replicate k far ++ List.replicate (31 - k) 0
theorem fill_len {k : Nat} (h : k ≤ 31) : (fillL k).length = 31 := by simp [fillL]; omega
theorem fill_next {k : Nat} (h : k < 31) : (fillL k).set k far = fillL (k + 1) := by
  apply List.ext_getElem?
  intro n
  rw [List.getElem?_set, fill_len (by omega)]
  unfold fillL
  simp only [List.getElem?_append, List.getElem?_replicate, List.length_replicate]
  by_cases h1 : k = n
  · subst h1
    simp [h]
  · by_cases h2 : n < k
    · simp [h1, h2, Nat.lt_succ_of_lt h2]
    · have h3 : ¬ n < k + 1 := by omega
      simp only [h1, h2, h3, if_false]
      by_cases h4 : n < 31
      · rw [if_pos (by omega), if_pos (by omega)]
      · rw [if_neg (by omega), if_neg (by omega)]
theorem fill_end : (fillL 31).set 0 0 = nothingL := rfl
theorem CB.zero (W : World) : CB (W.alloc (.cells #[.int .i64 0, .int .i64 0, .int .i64 0, .int .i64 0, .int .i64 0, .int .i64 0, .int .i64 0, .int .i64 0, .int .i64 0, .int .i64 0, .int .i64 0, .int .i64 0, .int .i64 0, .int .i64 0, .int .i64 0, .int .i64 0, .int .i64 0, .int .i64 0, .int .i64 0, .int .i64 0, .int .i64 0, .int .i64 0, .int .i64 0, .int .i64 0, .int .i64 0, .int .i64 0, .int .i64 0, .int .i64 0, .int .i64 0, .int .i64 0, .int .i64 0] 226)) W.heap.size (List.replicate 31 0) := World.alloc_heap_new W _
set_option maxRecDepth 100000 in
set_option maxHeartbeats 4000000 in
theorem nothing_any (w : World) : Calls Try.prog 190 #[] w fun e w' => e = .returned (.agg (vals nothingL).toArray) ∧ Below w.heap.size w w' := by
  have HZ := Lib.hid (CB.zero w)
  have HB := Lib.hid (al_below w (.cells #[.int .i64 0, .int .i64 0, .int .i64 0, .int .i64 0, .int .i64 0, .int .i64 0, .int .i64 0, .int .i64 0, .int .i64 0, .int .i64 0, .int .i64 0, .int .i64 0, .int .i64 0, .int .i64 0, .int .i64 0, .int .i64 0, .int .i64 0, .int .i64 0, .int .i64 0, .int .i64 0, .int .i64 0, .int .i64 0, .int .i64 0, .int .i64 0, .int .i64 0, .int .i64 0, .int .i64 0, .int .i64 0, .int .i64 0, .int .i64 0, .int .i64 0] 226))
  go_enter Try.func190, Try.ntmps190
  go_wp2
  go_loopw [2] (fun i wr => ∃ k : Nat, k ≤ 31 ∧ i = .int .i64 k ∧ Hid (CB wr w.heap.size (fillL k)) ∧ Hid (Below w.heap.size w wr)) (fun i _ => 31 - (intOf i).toNat)
  case atStart => exact ⟨0, Nat.zero_le _, rfl, HZ, HB⟩
  case round =>
    obtain ⟨k, hk, rfl, M, B⟩ := hrel
    by_cases hlt : k < 31
    · have hx : (fillL k)[k]? = some 0 := by
        unfold fillL
        rw [List.getElem?_append_right (by simp), List.length_replicate, Nat.sub_self, List.getElem?_replicate, if_pos (by omega)]
      have c0 := M.out.cell hx
      have cf := M.out.frozen
      have hd : decide ((k : Int) < 31) = true := decide_eq_true (by omega)
      clear hx
      go_wp2
      go_roundw
      case rel => exact ⟨k + 1, by omega, by go_num, Lib.hid (by rw [← fill_next hlt]; exact M.out.set k far), Lib.hid (B.out.setCell (p := ⟨w.heap.size, k, none⟩) (Nat.le_refl _) _)⟩
      case measure => simp [intOf]; omega
    · obtain rfl : k = 31 := by omega
      have c0 := M.out.cell (n := 0) (x := far) rfl
      have cf := M.out.frozen
      have M2 := Lib.hid (show CB (wr.setCell ⟨w.heap.size, 0, none⟩ (.int .i64 0)) w.heap.size nothingL by rw [← fill_end]; exact M.out.set 0 0)
      have B2 := Lib.hid (B.out.setCell (p := ⟨w.heap.size, 0, none⟩) (Nat.le_refl _) (.int .i64 0))
      go_wp2_with (first
        | (refine wpl_loadC (by rfl) (.tmp 0) (by rfl) w.heap.size (by rfl) nothingL rfl M2.out ?_)
        | (refine wpl_storeC (by rfl) (.tmp 0) (.tmp 9) (by rfl) w.heap.size (by rfl) nothingL nothingL (by rfl) rfl rfl M2.out ?_))
      refine bodyPost_ret (results_cell rfl rfl (loadC rfl (M2.out.put rfl))) rfl ⟨rfl, below_setCells (Nat.le_refl _) _ _ _ B2.out⟩
/-- The sums so far: the first part's weights below k are done, and of k those with j weights of the second. -/
def outV (c d : List Int) (k j : Nat) : List Int := (List.range 31).map fun n => if k ≤ n ∧ n < k + j then convTo c d n (k + 1) else convTo c d n k
theorem outV_len (c d : List Int) (k j : Nat) : (outV c d k j).length = 31 := by simp [outV]
theorem outV_start (c d : List Int) : List.replicate 31 far = outV c d 0 0 := by
  apply List.ext_getElem?
  intro n
  by_cases hn : n < 31
  · rw [List.getElem?_replicate, if_pos hn]
    simp only [outV, List.getElem?_map, List.getElem?_range hn, Option.map_some]
    rw [if_neg (by omega)]
    rfl
  · rw [List.getElem?_eq_none (by rw [List.length_replicate]; omega), List.getElem?_eq_none (by rw [outV_len]; omega)]
theorem outV_row (c d : List Int) {k : Nat} (hk : k < 31) : outV c d k (31 - k) = outV c d (k + 1) 0 := by
  unfold outV
  refine List.map_congr_left fun n hn => ?_
  have hn' := List.mem_range.1 hn
  rw [if_neg (show ¬ (k + 1 ≤ n ∧ n < k + 1 + 0) by omega)]
  by_cases h : k ≤ n
  · rw [if_pos ⟨h, by omega⟩]
  · rw [if_neg (fun e => h e.1), conv_skip (by omega)]
theorem outV_end (c d : List Int) : outV c d 31 0 = plusL c d := by
  unfold outV plusL
  refine List.map_congr_left fun n hn => ?_
  have hn' := List.mem_range.1 hn
  rw [if_neg (by omega)]
theorem outV_at (c d : List Int) {k j : Nat} (h : k + j < 31) : (outV c d k j)[k + j]? = some (convTo c d (k + j) k) := by
  simp only [outV, List.getElem?_map, List.getElem?_range h, Option.map_some]
  rw [if_neg (by omega)]
theorem outV_yes {c d : List Int} {k j : Nat} (h : k + j < 31) : (outV c d k j).set (k + j) (convTo c d (k + j) (k + 1)) = outV c d k (j + 1) := by
  apply List.ext_getElem?
  intro n
  rw [List.getElem?_set, outV_len]
  by_cases hn : n < 31
  · by_cases e : k + j = n
    · subst e
      simp only [if_true, h, outV, List.getElem?_map, List.getElem?_range h, Option.map_some]
      rw [if_pos (by omega)]
    · simp only [if_neg e, outV, List.getElem?_map, List.getElem?_range hn, Option.map_some]
      congr 1
      by_cases h2 : k ≤ n ∧ n < k + j
      · rw [if_pos h2, if_pos ⟨h2.1, by omega⟩]
      · rw [if_neg h2, if_neg (by omega)]
  · rw [if_neg (by omega), List.getElem?_eq_none (by rw [outV_len]; omega), List.getElem?_eq_none (by rw [outV_len]; omega)]
theorem outV_no {c d : List Int} {k j : Nat} (h : k + j < 31) (e : convTo c d (k + j) (k + 1) = convTo c d (k + j) k) : outV c d k (j + 1) = outV c d k j := by
  rw [← outV_yes h, e]
  apply List.ext_getElem?
  intro n
  rw [List.getElem?_set, outV_len]
  by_cases e2 : k + j = n
  · subst e2
    rw [if_pos rfl, if_pos h, outV_at c d h]
  · rw [if_neg e2]
theorem slice31 (W : World) (b : Nat) {k : Nat} (hk : k ≤ 31) : (Instr.sliceAt 226 (.pointer (some ⟨b, 0, none⟩)) none (some (.int .i64 (31 - (k : Int)))) none).run Try.prog W = .ok (.slice (some ⟨b, 0, none⟩) (31 - k) 31) W := by
  have e : Try.prog.arrayLen 226 = 31 := by kernel_rfl
  have e3 : Try.prog.elem 226 = 3 := by kernel_rfl
  have es : (sizeOf (Try.prog.elem 226)).run Try.prog W = .ok 1 W := by
    obtain ⟨i0, hi, hz0, hz1, hz2⟩ := info_parts info3'
    rw [e3]
    simp [sizeOf, typeInfo, hi, hz1]
  rw [run_sliceAt_array_h W 226 ⟨b, 0, none⟩ (by rw [e, e3]; exact Try.underlying226) .i64 (31 - (k : Int)) (by omega) (by rw [e]; omega), es]
  simp [slicedAt, e, show (31 - (k : Int)).toNat = 31 - k by omega, Addr.add_mid]
structure PIn (w : World) (z : Nat) (c d out : List Int) (W : World) : Prop where
  c : CB W w.heap.size c
  d : CB W (w.heap.size + 1) d
  r : CB W (w.heap.size + 2) (List.replicate 31 0)
  o : CB W z out
  hz : w.heap.size + 2 < z
  B : Below w.heap.size w W
theorem PIn.set {w : World} {z : Nat} {c d out : List Int} {W : World} (M : PIn w z c d out W) (n : Nat) (x : Int) : PIn w z c d (out.set n x) (W.setCell ⟨z, n, none⟩ (.int .i64 x)) :=
  ⟨M.c.other (by have := M.hz; omega), M.d.other (by have := M.hz; omega), M.r.other (by have := M.hz; omega), M.o.set n x, M.hz, M.B.setCell (p := ⟨z, n, none⟩) (by have := M.hz; show w.heap.size ≤ z; omega) _⟩
theorem PIn.drew {w : World} {z : Nat} {c d out : List Int} {W : World} (M : PIn w z c d out W) : PIn w z c d out W.drew := ⟨M.c, M.d, M.r, M.o, M.hz, M.B.drew⟩
set_option maxRecDepth 100000 in
set_option maxHeartbeats 4000000 in
theorem plus_any (c d : List Int) (a1 a2 : Int) (hc : Fin a1 c) (hd : Fin a2 d) (ha : a1 + a2 < far) (w : World) : Calls Try.prog 193 #[.agg (vals c).toArray, .agg (vals d).toArray] w fun e w' => e = .returned (.agg (vals (plusL c d)).toArray) ∧ Below w.heap.size w w' := by
  obtain ⟨W0, hW0⟩ : ∃ W0, ((w.alloc (.cells (vals c).toArray 226)).alloc (.cells (vals d).toArray 226)).alloc (.cells #[.int .i64 0, .int .i64 0, .int .i64 0, .int .i64 0, .int .i64 0, .int .i64 0, .int .i64 0, .int .i64 0, .int .i64 0, .int .i64 0, .int .i64 0, .int .i64 0, .int .i64 0, .int .i64 0, .int .i64 0, .int .i64 0, .int .i64 0, .int .i64 0, .int .i64 0, .int .i64 0, .int .i64 0, .int .i64 0, .int .i64 0, .int .i64 0, .int .i64 0, .int .i64 0, .int .i64 0, .int .i64 0, .int .i64 0, .int .i64 0, .int .i64 0] 226) = W0 := ⟨_, rfl⟩
  have hb0 : Below w.heap.size w W0 := by rw [← hW0]; exact hb0to (hb0to (al_below _ _) (al_below _ _)) (al_below _ _)
  have hC : CB W0 w.heap.size c := by rw [← hW0]; exact heap_keep (heap_keep (CB.new w c))
  have hD : CB W0 (w.heap.size + 1) d := by rw [← hW0]; exact heap_keep (heap_new2 w _ _)
  have hR : CB W0 (w.heap.size + 2) (List.replicate 31 0) := by rw [← hW0]; exact heap_new3 w _ _ _
  have HW0 := Lib.hid hW0
  have HC := Lib.hid hC
  have HD := Lib.hid hD
  have HR := Lib.hid hR
  have HB := Lib.hid hb0
  have HFC := Lib.hid hc
  have HFD := Lib.hid hd
  have HN := Lib.hid (nothing_any W0)
  have hs0 : w.heap.size + 2 < W0.heap.size := hR.lt
  clear hW0 hb0 hC hD hR hc hd
  go_enter Try.func193, Try.ntmps193
  go_upto_region 1 with (fail)
  have e := HW0.out
  rw [e]
  clear e
  go_upto_region 2 with (first
    | (go_at_call 190; refine HN.out.mono ?_; rintro e w1 ⟨rfl, hb⟩; have HB1 := Lib.hid hb; have HZ := Lib.hid (CB.zero w1); clear hb)
    | (refine wpl_storeC (by rfl) (.tmp 5) (.tmp 8) (by rfl) w1.heap.size (by rfl) (List.replicate 31 0) nothingL (by rfl) rfl rfl HZ.out ?_))
  obtain ⟨W2, hW2⟩ : ∃ x, (w1.alloc (.cells #[.int .i64 0, .int .i64 0, .int .i64 0, .int .i64 0, .int .i64 0, .int .i64 0, .int .i64 0, .int .i64 0, .int .i64 0, .int .i64 0, .int .i64 0, .int .i64 0, .int .i64 0, .int .i64 0, .int .i64 0, .int .i64 0, .int .i64 0, .int .i64 0, .int .i64 0, .int .i64 0, .int .i64 0, .int .i64 0, .int .i64 0, .int .i64 0, .int .i64 0, .int .i64 0, .int .i64 0, .int .i64 0, .int .i64 0, .int .i64 0, .int .i64 0] 226)).setCells w1.heap.size 0 (vals nothingL) = x := ⟨_, rfl⟩
  have M := Lib.hid (show PIn w w1.heap.size c d nothingL W2 by
    rw [← hW2]
    have hbA := hb0to HB1.out (al_below w1 (.cells #[.int .i64 0, .int .i64 0, .int .i64 0, .int .i64 0, .int .i64 0, .int .i64 0, .int .i64 0, .int .i64 0, .int .i64 0, .int .i64 0, .int .i64 0, .int .i64 0, .int .i64 0, .int .i64 0, .int .i64 0, .int .i64 0, .int .i64 0, .int .i64 0, .int .i64 0, .int .i64 0, .int .i64 0, .int .i64 0, .int .i64 0, .int .i64 0, .int .i64 0, .int .i64 0, .int .i64 0, .int .i64 0, .int .i64 0, .int .i64 0, .int .i64 0] 226))
    have hs := HB1.out.size
    exact ⟨(HC.out.next hbA).far_put (by have := HC.out.lt; omega) _ _, (HD.out.next hbA).far_put (by have := HD.out.lt; omega) _ _, (HR.out.next hbA).far_put (by have := HR.out.lt; omega) _ _, HZ.out.put rfl, by omega, below_setCells (by omega) _ _ _ (hb0to HB.out hbA)⟩)
  rw [hW2]
  clear hW2 HZ HB1 HN HC HD HR HB
  have c0 := M.out.o.cell (n := 0) (x := 0) rfl
  have cf := M.out.o.frozen
  have M2 := Lib.hid (M.out.set 0 far)
  go_upto_region 3 with (fail)
  obtain ⟨W3, hW3⟩ : ∃ x, W2.setCell ⟨w1.heap.size, 0, none⟩ (.int .i64 1099511627776) = x := ⟨_, rfl⟩
  have M3 := Lib.hid (show PIn w w1.heap.size c d (outV c d 0 0) W3 by rw [← hW3, ← outV_start]; exact M2.out)
  rw [hW3]
  clear hW3 c0 cf M M2
  go_wp2
  go_loopw [10] (fun i wr => ∃ k : Nat, k ≤ 31 ∧ i = .int .i64 k ∧ Hid (PIn w w1.heap.size c d (outV c d k 0) wr)) (fun i _ => 31 - (intOf i).toNat)
  case atStart => exact ⟨0, Nat.zero_le _, rfl, M3⟩
  case round =>
    obtain ⟨k, hk, rfl, M⟩ := hrel
    by_cases hlt : k < 31
    · have hd1 : decide ((k : Int) < 31) = true := decide_eq_true (by omega)
      have hsl := slice31 wr (w.heap.size + 1) hk
      go_wp2
      go_loopw [17] (fun i wr => ∃ j : Nat, j ≤ 31 - k ∧ i = .int .i64 j ∧ Hid (PIn w w1.heap.size c d (outV c d k j) wr)) (fun i _ => 31 - k - (intOf i).toNat)
      case atStart => exact ⟨0, Nat.zero_le _, rfl, M⟩
      case round =>
        obtain ⟨j, hj, rfl, M⟩ := hrel
        by_cases hlj : j < 31 - k
        · have hkj : k + j < 31 := by omega
          have hd2 : decide ((j : Int) < ((31 - k : Nat) : Int)) = true := decide_eq_true (by omega)
          obtain ⟨x, hx⟩ : ∃ x, cat c k = x := ⟨_, rfl⟩
          obtain ⟨y, hy⟩ : ∃ y, cat d j = y := ⟨_, rfl⟩
          have cx := M.out.c.cell (n := k) (x := x) (by rw [← hx]; exact cat_at (by rw [HFC.out.1]; exact hlt))
          have cy := M.out.d.cell (n := j) (x := y) (by rw [← hy]; exact cat_at (by rw [HFD.out.1]; omega))
          have co := M.out.o.cell (outV_at c d hkj)
          have cf := M.out.o.frozen
          have hbx : x = far ∨ (-a1 ≤ x ∧ x ≤ a1) := HFC.out.2 k x (by rw [← hx]; exact cat_at (by rw [HFC.out.1]; exact hlt))
          have hby : y = far ∨ (-a2 ≤ y ∧ y ≤ a2) := HFD.out.2 j y (by rw [← hy]; exact cat_at (by rw [HFD.out.1]; omega))
          by_cases h1 : x < far
          · have g1 : decide (x < 1099511627776) = true := decide_eq_true h1
            by_cases h2 : y < far
            · have g2 : decide (y < 1099511627776) = true := decide_eq_true h2
              have HE := Lib.hid (show convTo c d (k + j) (k + 1) = min (convTo c d (k + j) k) (x + y) by rw [conv_yes (by rw [hx]; exact h1) (by rw [hy]; exact h2), hx, hy])
              have HS := Lib.hid (outV_yes (c := c) (d := d) hkj)
              obtain ⟨o, ho⟩ : ∃ o, convTo c d (k + j) k = o := ⟨_, rfl⟩
              rw [ho] at co HE
              have hxx : -a1 ≤ x ∧ x ≤ a1 := by unfold far at *; omega
              have hyy : -a2 ≤ y ∧ y ≤ a2 := by unfold far at *; omega
              have hwx : IntKind.i64.wrap (x + y) = x + y := IntWalk.i64_in _ (by unfold far at ha; omega)
              have hwk : IntKind.i64.wrap ((k : Int) + (j : Int)) = (k : Int) + (j : Int) := IntWalk.i64_in _ (by omega)
              have hk0 : (0 : Int) ≤ (k : Int) + (j : Int) := by omega
              have hk1 : (k : Int) + (j : Int) < 31 := by omega
              have hkn : ((k : Int) + (j : Int)).toNat = k + j := by omega
              have hki : (k : Int) < 31 := by omega
              have hji : (j : Int) < 31 := by omega
              clear hx hy hbx hby ho hxx hyy
              go_upto_region 10 with (fail)
              go_still_tail 17, (by kernel_rfl)
              change wpList _ _ _ _ _ wr.drew
              obtain ⟨m, hm⟩ : ∃ m, (if x + y < o then x + y else o) = m := ⟨_, rfl⟩
              rw [hm]
              have HM := Lib.hid (show convTo c d (k + j) (k + 1) = m by rw [HE.out, ← hm]; split <;> omega)
              clear hm
              go_wp2
              go_roundw
              case rel => exact ⟨j + 1, by omega, by go_num, Lib.hid (by rw [← HS.out, HM.out]; first | exact M.out.drew.set (k + j) m | exact (M.out.set (k + j) m).drew)⟩
              case measure => simp [intOf]; omega
            · have g2 : decide (y < 1099511627776) = false := decide_eq_false h2
              have HE := Lib.hid (show convTo c d (k + j) (k + 1) = convTo c d (k + j) k from conv_no (fun e => h2 (by rw [← hy]; exact e.2)))
              clear hx hy hbx hby
              go_wp2
              go_roundw
              case rel => exact ⟨j + 1, by omega, by go_num, Lib.hid (by rw [outV_no hkj HE.out]; exact M.out)⟩
              case measure => simp [intOf]; omega
          · have g1 : decide (x < 1099511627776) = false := decide_eq_false h1
            have HE := Lib.hid (show convTo c d (k + j) (k + 1) = convTo c d (k + j) k from conv_no (fun e => h1 (by rw [← hx]; exact e.1)))
            clear hx hy hbx hby
            go_wp2
            go_roundw
            case rel => exact ⟨j + 1, by omega, by go_num, Lib.hid (by rw [outV_no hkj HE.out]; exact M.out)⟩
            case measure => simp [intOf]; omega
        · obtain rfl : j = 31 - k := by omega
          have hd2 : decide (((31 - k : Nat) : Int) < ((31 - k : Nat) : Int)) = false := decide_eq_false (by omega)
          go_wp2
          go_roundw
          case rel => exact ⟨k + 1, by omega, by go_num, Lib.hid (by rw [← outV_row c d hlt]; exact M.out)⟩
          case measure => simp [intOf]; omega
    · obtain rfl : k = 31 := by omega
      rw [outV_end] at M
      have hpl := plusL_len c d
      go_wp2_with (first
        | (refine wpl_loadC (by rfl) (.tmp 5) (by rfl) w1.heap.size (by rfl) (plusL c d) hpl M.out.o ?_)
        | (refine wpl_storeC (by rfl) (.tmp 4) (.tmp 49) (by rfl) (w.heap.size + 1 + 1) (by rfl) (List.replicate 31 0) (plusL c d) (by rfl) rfl hpl M.out.r ?_))
      refine bodyPost_ret (results_cell rfl rfl (loadC hpl (M.out.r.put (by rw [hpl]; rfl)))) rfl ⟨rfl, below_setCells (by omega) _ _ _ M.out.B⟩

end Go.Proofs.Ytmbcpmnigggbaaa.Cu
namespace Go.Proofs.Ytmbcpmnigggbaaa.Cu
open Go.RowKit
attribute [local go_sem] Oper.semAt_some
/-- A row of arrays of costs. -/
structure PR (W : World) (b : Nat) (ps : List (List Int)) : Prop where
  x : W.heap[b]? = some (.cells (vals ps.flatten).toArray 226 (0, 0))
  l : ∀ c ∈ ps, c.length = 31
theorem flat_len : ∀ (ps : List (List Int)), (∀ c ∈ ps, c.length = 31) → ps.flatten.length = 31 * ps.length
  | [], _ => rfl
  | c :: ps, h => by
    rw [List.flatten_cons, List.length_append, h c (by simp), flat_len ps (fun d hd => h d (by simp [hd])), List.length_cons]
    omega
theorem flat_split {ps : List (List Int)} {i : Nat} {c : List Int} (hc : ps[i]? = some c) (c' : List Int) : (ps.set i c').flatten = (ps.take i).flatten ++ c' ++ (ps.drop (i + 1)).flatten := by
  have hi := (List.getElem?_eq_some_iff.1 hc).1
  rw [List.set_eq_take_append_cons_drop, if_pos hi]
  simp
theorem flat_this {ps : List (List Int)} {i : Nat} {c : List Int} (hc : ps[i]? = some c) : ps.flatten = (ps.take i).flatten ++ c ++ (ps.drop (i + 1)).flatten := by
  have hs : ps.set i c = ps := by
    obtain ⟨hi, e⟩ := List.getElem?_eq_some_iff.1 hc
    subst e
    exact List.set_getElem_self hi
  have h := flat_split hc c
  rwa [hs] at h
theorem PR.lt {W : World} {b : Nat} {ps : List (List Int)} (h : PR W b ps) : b < W.heap.size := heap_lt h.x
theorem PR.of {W W' : World} {b : Nat} {ps : List (List Int)} (h : PR W b ps) (e : W'.heap[b]? = W.heap[b]?) : PR W' b ps := ⟨e.trans h.x, h.l⟩
theorem PR.at_ {W : World} {b i : Nat} {ps : List (List Int)} {c : List Int} (h : PR W b ps) (hc : ps[i]? = some c) : W.heap[b]? = some (.cells (vals (ps.take i).flatten ++ vals c ++ vals (ps.drop (i + 1)).flatten).toArray 226 (0, 0)) := by
  rw [h.x]
  have := flat_this hc
  rw [show vals ps.flatten = vals (ps.take i).flatten ++ vals c ++ vals (ps.drop (i + 1)).flatten by rw [this]; simp [vals]]
theorem take_len {W : World} {b i : Nat} {ps : List (List Int)} {c : List Int} (h : PR W b ps) (hc : ps[i]? = some c) : (vals (ps.take i).flatten).length = i * 31 := by
  have hi := (List.getElem?_eq_some_iff.1 hc).1
  rw [vals, List.length_map, flat_len _ (fun d hd => h.l d (List.mem_of_mem_take hd)), List.length_take, Nat.min_eq_left (by omega)]
  omega
theorem PR.range {W : World} {b i : Nat} {ps : List (List Int)} {c : List Int} (h : PR W b ps) (hc : ps[i]? = some c) : W.rangeAt b (i * 31) (vals c) := fun j v hj => by
  have hx := h.at_ hc
  have hl := take_len h hc
  have hjl := (List.getElem?_eq_some_iff.1 hj).1
  refine cell_of_heap (o := i * 31 + j) hx ?_
  rw [List.getElem?_toArray, List.getElem?_append_left (by rw [List.length_append, hl]; omega), List.getElem?_append_right (by omega), hl, Nat.add_sub_cancel_left]
  exact hj
theorem PR.there {W : World} {b i : Nat} {ps : List (List Int)} {c : List Int} (h : PR W b ps) (hc : ps[i]? = some c) : W.there b (i * 31) 31 := fun j hj => by
  have hl := h.l c (List.mem_of_getElem? hc)
  obtain ⟨v, hv⟩ : ∃ v, (vals c)[j]? = some v := ⟨_, List.getElem?_eq_getElem (by rw [vals, List.length_map, hl]; exact hj)⟩
  exact ⟨by rw [h.range hc j v hv]; rfl, frozen_of_heap h.x _⟩
theorem PR.put {W : World} {b i : Nat} {ps : List (List Int)} {c c' : List Int} (h : PR W b ps) (hc : ps[i]? = some c) (hl : c'.length = 31) : PR (W.setCells b (i * 31) (vals c')) b (ps.set i c') := by
  refine ⟨?_, fun d hd => ?_⟩
  · have hx := setCells_heap b 226 (vals c') (i * 31) (vals (ps.take i).flatten) (vals c) W (by simp [vals, hl, h.l c (List.mem_of_getElem? hc)]) (vals (ps.drop (i + 1)).flatten) (h.at_ hc) (take_len h hc)
    rw [flat_split hc c', show vals ((ps.take i).flatten ++ c' ++ (ps.drop (i + 1)).flatten) = vals (ps.take i).flatten ++ vals c' ++ vals (ps.drop (i + 1)).flatten by simp [vals]]
    exact hx
  · rcases List.mem_or_eq_of_mem_set hd with hd | hd
    · exact h.l d hd
    · rw [hd]; exact hl
theorem PR.far_put {W : World} {b z : Nat} {ps : List (List Int)} (h : PR W b ps) (hn : b ≠ z) (vs : List Value) (o : Nat) : PR (W.setCells z o vs) b ps := h.of (setCells_other b z hn vs o W h.lt)
theorem PR.other {W : World} {b z o : Nat} {ps : List (List Int)} {u : Value} (h : PR W b ps) (hn : b ≠ z) : PR (W.setCell ⟨z, o, none⟩ u) b ps := h.of (set_other_heap h.lt hn)
theorem loadO {W : World} {b o : Nat} {c : List Int} (hl : c.length = 31) (hC : W.rangeAt b o (vals c)) : (Instr.loadAt 226 (.pointer (some ⟨b, o, none⟩))).run Try.prog W = .ok (.agg (vals c).toArray) W :=
  run_loadAt_mid W b o 226 (vals c) _ hC Try.underlying226 rfl (info226 hl)
theorem storeO {W : World} {b o : Nat} {c : List Int} (hl : c.length = 31) (hT : W.there b o 31) : (Instr.storeAt 226 (.pointer (some ⟨b, o, none⟩)) (.agg (vals c).toArray)).run Try.prog W = .ok () (W.setCells b o (vals c)) := by
  have e : (vals c).toArray.size = 31 := by simp [vals, hl]
  have h := run_storeAt_mid (P := Try.prog) W b o 226 (vals c).toArray (by rw [e]; exact hT) (info226' hl) (vals_one c)
  rwa [List.toList_toArray] at h
/-- A whole array is loaded, in a round. -/
theorem wplIn_loadO {F : Fence} {n : Nat} {ops : Array Oper} {rest : List Oper} {o : Oper} {a : Act} {w : World} {Q : Exit → Act → World → Prop} (hw : Region.wanted o (yielded ops a.tmps) = true) (x : Operand) (ho : o.op = .load 226 x) (b d : Nat)
    (hx : a.eval x = .pointer (some ⟨b, d, none⟩)) (c : List Int) (hl : c.length = 31) (hC : w.rangeAt b d (vals c)) (h : wpListIn F n Try.prog ops Q rest (a.put o.dst (.agg (vals c).toArray)) w) : wpListIn F n Try.prog ops Q (o :: rest) a w := by
  rw [wpListIn, if_pos hw]
  unfold Oper.wpIn
  refine ⟨?_, ?_⟩
  · simp [Oper.about, ho]
  · rw [Oper.semAt_plain F _ _ (by rw [ho]; intro c hc'; cases hc')]
    simp [execOp, ho, hx, loadO hl hC, Result.andThen]
    exact h
/-- A whole array is stored, in a round. -/
theorem wplIn_storeO {F : Fence} {n : Nat} {ops : Array Oper} {rest : List Oper} {o : Oper} {a : Act} {w : World} {Q : Exit → Act → World → Prop} (hg : o.guard = none) (x y : Operand) (ho : o.op = .store 226 x y) (b d : Nat)
    (hx : a.eval x = .pointer (some ⟨b, d, none⟩)) (c : List Int) (hl : c.length = 31) (hy : a.eval y = .agg (vals c).toArray) (hT : w.there b d 31) (h : wpListIn F n Try.prog ops Q rest (a.put o.dst undef) (w.setCells b d (vals c))) :
    wpListIn F n Try.prog ops Q (o :: rest) a w := by
  refine wpListIn_plain hg fun K hK' => ?_
  unfold Oper.wpIn
  refine ⟨?_, ?_⟩
  · simp [Oper.about, ho]
  · rw [Oper.semAt_plain F _ _ (by rw [ho]; intro c hc'; cases hc')]
    simp [execOp, ho, hx, hy, storeO hl hT, Result.andThen]
    exact hK' _ _ h
theorem extB_range {w x : World} {b o : Nat} {vs : List Value} (h : w.rangeAt b o vs) : (extB w x).rangeAt b o vs := fun j v hj => (extB_cell (h j v hj) x)
/-- The load of a whole array, at a step of a region that draws its order. -/
theorem wpQuiet_loadO {ops : Array Oper} {rest : List Oper} {o : Oper} {a : Act} {w : World} {Q : Act → Prop} (hw : Region.wanted o (yielded ops a.tmps) = true) (x : Operand) (ho : o.op = .load 226 x) (b d : Nat)
    (hx : a.eval x = .pointer (some ⟨b, d, none⟩)) (c : List Int) (hl : c.length = 31) (hC : w.rangeAt b d (vals c)) (h : wpQuiet Try.prog ops (fun w' => ∃ x, w' = extB w x) Q rest (a.put o.dst (.agg (vals c).toArray))) : wpQuiet Try.prog ops (fun w' => ∃ x, w' = extB w x) Q (o :: rest) a := by
  rw [wpQuiet, if_pos hw]
  refine ⟨.agg (vals c).toArray, ?_, h⟩
  rintro w' ⟨y, rfl⟩
  unfold Oper.quietAt
  simp [execOp, ho, hx, loadO hl (extB_range hC), Result.andThen, Oper.quietUpon]

end Go.Proofs.Ytmbcpmnigggbaaa.Cu
namespace Go.Proofs.Ytmbcpmnigggbaaa.Cu
open Go.RowKit
attribute [local go_sem] Oper.semAt_some
theorem wpIn_region_tailC {P : Program} {k n id : Nat} {Q : Exit → Act → World → Prop} {a : Act} {w : World} {L : List Oper} (N : Nat) (hL : L = L.take N ++ [L.getD N default]) (hQ : ¬ LetsOut Q) (hd : Li.noDefer L = true) (hm : P.follows .mixedOrders = true) (hl : Li.lastOK (L.take N).length (L.getD N default) = true) (hb : Li.backB L = true) (hB : Region.lexB .any (L.take N ++ [Li.idle (L.getD N default)]).toArray = true)
    (h : wpQuiet P (L.take N ++ [Li.idle (L.getD N default)]).toArray (fun w' => ∃ x, w' = extB w x) (fun a' => ∀ w', (∃ x, w' = extB w x) → (L.getD N default).wp P a' w' (fun a'' w'' => Q .normal a'' w'') Q) (L.take N) a) : (Code.region id L.toArray true).wpIn (Fence.wide.inRound k) n P Q a w :=
  Li.wpIn_region_tail (C := fun w' => ∃ x, w' = extB w x) _ _ hL hQ hd hm hl hb hB (extB_of (Below.refl _ w).drew) h
theorem wp_region_tailC {P : Program} {id : Nat} {Q : Exit → Act → World → Prop} {a : Act} {w : World} {L : List Oper} (N : Nat) (hL : L = L.take N ++ [L.getD N default]) (hm : P.follows .mixedOrders = true) (hl : Li.lastOK (L.take N).length (L.getD N default) = true) (hb : Li.backB L = true) (hB : Region.lexB .any (L.take N ++ [Li.idle (L.getD N default)]).toArray = true)
    (h : wpQuiet P (L.take N ++ [Li.idle (L.getD N default)]).toArray (fun w' => ∃ x, w' = extB w x) (fun a' => ∀ w', (∃ x, w' = extB w x) → (L.getD N default).wp P a' w' (fun a'' w'' => Q .normal a'' w'') Q) (L.take N) a) : (Code.region id L.toArray true).wp P Q a w := by
  rw [hL]
  exact wp_region_any hm (Li.wpAny_tail (C := fun w' => ∃ x, w' = extB w x) hl (by rw [← hL]; exact hb) hB (extB_of (Below.refl _ w).drew) h)
/-- n arrays of zeros. -/
def zerosL (n : Nat) : List (List Int) := List.replicate n (List.replicate 31 0)
theorem made31 (n : Nat) : madeCells (Value.agg (List.replicate 31 (Value.int .i64 0)).toArray).cells (n * 31) = (vals (zerosL n).flatten).toArray := by
  rw [zerosL, List.flatten_replicate_replicate]
  refine Array.ext (by simp [madeCells, vals]) fun i h1 h2 => ?_
  have h3 : i % 31 < 31 := Nat.mod_lt _ (by omega)
  have h4 : (List.replicate 31 (Value.int .i64 0))[i % 31]? = some (.int .i64 0) := List.getElem?_replicate_of_lt h3
  have e : (madeCells (Value.agg (List.replicate 31 (Value.int .i64 0)).toArray).cells (n * 31))[i] = ((List.replicate 31 (Value.int .i64 0))[i % 31]?).getD default := by
    simp only [madeCells, Value.cells, Array.getElem_map, Array.getElem_range, List.size_toArray, List.length_replicate]
    rw [getElem!_def, List.getElem?_toArray]
    cases (List.replicate 31 (Value.int .i64 0))[i % 31]? <;> rfl
  rw [e, h4]
  simp only [vals, List.map_replicate, List.getElem_toArray, List.getElem_replicate, Option.getD_some]
theorem info226m : (Try.prog.info? 226).map (fun i => (i.zero, i.size, i.bytes)) = some (some (.agg (List.replicate 31 (Value.int .i64 0)).toArray), 31, 248) := by kernel_rfl
theorem info_parts3 {i : TypeId} {z : Option Value} {s b : Nat} (h : (Try.prog.info? i).map (fun i => (i.zero, i.size, i.bytes)) = some (z, s, b)) : ∃ i0, Try.prog.info? i = some i0 ∧ i0.zero = z ∧ i0.size = s ∧ i0.bytes = b := by
  obtain ⟨i0, hi, hzz⟩ := Option.map_eq_some_iff.1 h
  simp only [Prod.mk.injEq] at hzz
  exact ⟨i0, hi, hzz.1, hzz.2.1, hzz.2.2⟩
theorem run_make224 (n : Nat) (hn : n ≤ 1000) (w : World) : (Instr.makeSlice 224 (.int .i64 n) (.int .i64 n)).run Try.prog w = .ok (.slice (some ⟨w.heap.size, 0, none⟩) n n) (w.alloc (.cells (vals (zerosL n).flatten).toArray 226)) := by
  obtain ⟨i0, hi, hz0, hz1, hz2⟩ := info_parts3 info226m
  have := run_make (P := Try.prog) w 224 226 i0 _ Try.underlying224 hi hz0 .i64 .i64 n n (by omega) (Int.le_refl _) (by rw [hz2]; omega) (by omega)
  simp only [Int.toNat_natCast, hz1] at this
  rw [this, made31]
theorem wplIn_make224 {F : Fence} {nF : Nat} {ops : Array Oper} {rest : List Oper} {o : Oper} {a : Act} {w : World} {Q : Exit → Act → World → Prop} (hgd : o.guard = none) (l : Operand) (ho : o.op = .makeSlice 224 l l) (n : Nat) (hl : a.eval l = .int .i64 n) (hn : n ≤ 1000)
    (h : wpListIn F nF Try.prog ops Q rest (a.put o.dst (.slice (some ⟨w.heap.size, 0, none⟩) n n)) (w.alloc (.cells (vals (zerosL n).flatten).toArray 226))) : wpListIn F nF Try.prog ops Q (o :: rest) a w := by
  refine wpListIn_plain hgd fun K hK' => ?_
  have hrun := run_make224 n hn w
  unfold Oper.wpIn
  refine ⟨?_, ?_⟩
  · simp [Oper.about, ho]
  · rw [Oper.semAt_plain F _ _ (by rw [ho]; intro c hc'; cases hc')]
    simp [execOp, ho, hl, hrun, Result.andThen]
    exact hK' _ _ h
/-- What least knows of its boxes. -/
structure LM (w : World) (A : Option Addr) (n c gf : Nat) (lb : Array Value) (r : Int) (ps : List (List Int)) (X : World) : Prop where
  bl : Below w.heap.size w X
  t : X.heap[w.heap.size]? = some (.cells #[.slice A n c] 103 (0, 0))
  f : X.heap[w.heap.size + 1]? = some (.cells #[.func (.func gf) #[] lb] 183 (0, 0))
  r : X.heap[w.heap.size + 1 + 1]? = some (.cells #[.int .i64 r] 3 (0, 0))
  p : PR X (w.heap.size + 1 + 1 + 1) ps
  s : X.heap[w.heap.size + 1 + 1 + 1 + 1]? = some (.cells #[.slice (some ⟨w.heap.size + 1 + 1 + 1, 0, none⟩) n n] 224 (0, 0))
theorem LM.kp {w : World} {A : Option Addr} {n c gf : Nat} {lb : Array Value} {r : Int} {ps : List (List Int)} {X Y : World} (h : LM w A n c gf lb r ps X) {S : Nat → Prop} (hk : KpB S X.heap.size X Y) (hS : ∀ k, S k → w.heap.size + 5 ≤ k) : LM w A n c gf lb r ps Y :=
  ⟨h.bl.trans (hk.belowOf h.bl.size (fun k hs => by have := hS k hs; omega)), (hk.block _ (heap_lt h.t) (fun hs => by have := hS _ hs; omega)).trans h.t, (hk.block _ (heap_lt h.f) (fun hs => by have := hS _ hs; omega)).trans h.f, (hk.block _ (heap_lt h.r) (fun hs => by have := hS _ hs; omega)).trans h.r,
    h.p.of (hk.block _ h.p.lt (fun hs => by have := hS _ hs; omega)), (hk.block _ (heap_lt h.s) (fun hs => by have := hS _ hs; omega)).trans h.s⟩
theorem LM.put {w : World} {A : Option Addr} {n c gf : Nat} {lb : Array Value} {r : Int} {ps : List (List Int)} {X : World} (h : LM w A n c gf lb r ps X) {i : Nat} {d d' : List Int} (hd : ps[i]? = some d) (hl : d'.length = 31) : LM w A n c gf lb r (ps.set i d') (X.setCells (w.heap.size + 1 + 1 + 1) (i * 31) (vals d')) :=
  ⟨below_setCells (by omega) _ _ _ h.bl, (setCells_other _ _ (by omega) _ _ _ (heap_lt h.t)).trans h.t, (setCells_other _ _ (by omega) _ _ _ (heap_lt h.f)).trans h.f, (setCells_other _ _ (by omega) _ _ _ (heap_lt h.r)).trans h.r, h.p.put hd hl, (setCells_other _ _ (by omega) _ _ _ (heap_lt h.s)).trans h.s⟩
theorem LM.setR {w : World} {A : Option Addr} {n c gf : Nat} {lb : Array Value} {r : Int} {ps : List (List Int)} {X : World} (h : LM w A n c gf lb r ps X) (m : Int) : LM w A n c gf lb m ps (X.setCell ⟨w.heap.size + 1 + 1, 0, none⟩ (.int .i64 m)) :=
  ⟨h.bl.setCell (by show w.heap.size ≤ w.heap.size + 1 + 1; omega) _, (set_other_heap (heap_lt h.t) (by omega)).trans h.t, (set_other_heap (heap_lt h.f) (by omega)).trans h.f, heap_set _ h.r, h.p.other (by omega), (set_other_heap (heap_lt h.s) (by omega)).trans h.s⟩
theorem LM.lt {w : World} {A : Option Addr} {n c gf : Nat} {lb : Array Value} {r : Int} {ps : List (List Int)} {X : World} (h : LM w A n c gf lb r ps X) : w.heap.size + 5 ≤ X.heap.size := by have := heap_lt h.s; omega
def fillP (n k : Nat) : List (List Int) := List.replicate k nothingL ++ List.replicate (n - k) (List.replicate 31 0)
theorem fillP_at {n k : Nat} (h : k < n) : (fillP n k)[k]? = some (List.replicate 31 0) := by
  unfold fillP
  rw [List.getElem?_append_right (by simp), List.length_replicate, Nat.sub_self]
  exact List.getElem?_replicate_of_lt (by omega)
theorem fillP_next {n k : Nat} (h : k < n) : (fillP n k).set k nothingL = fillP n (k + 1) := by
  unfold fillP
  rw [List.set_append_right _ _ (by simp), List.length_replicate, Nat.sub_self, show n - k = (n - (k + 1)) + 1 by omega, List.replicate_succ, List.set_cons_zero, List.replicate_succ' (n := k), List.append_assoc]
  rfl
theorem fillP_zero (n : Nat) : zerosL n = fillP n 0 := by simp [fillP, zerosL]
theorem fillP_all (n : Nat) : fillP n n = List.replicate n nothingL := by simp [fillP]
theorem LM.new (w : World) (A : Option Addr) (n c gf : Nat) (lb : Array Value) : LM w A n c gf lb 0 (zerosL n) (((((w.alloc (.cells #[.slice A n c] 103)).alloc (.cells #[.func (.func gf) #[] lb] 183)).alloc (.cells #[.int .i64 0] 3)).alloc (.cells (vals (zerosL n).flatten).toArray 226)).alloc (.cells #[.slice (some ⟨w.heap.size + 1 + 1 + 1, 0, none⟩) n n] 224)) := by
  refine ⟨hb0to (hb0to (hb0to (hb0to (al_below w _) (al_below _ _)) (al_below _ _)) (al_below _ _)) (al_below _ _), heap_keep (heap_keep (heap_keep (heap_keep (heap_new1 w _)))), heap_keep (heap_keep (heap_keep (heap_new2 w _ _))), heap_keep (heap_keep (heap_new3 w _ _ _)), ⟨?_, fun c hc => ?_⟩, ?_⟩
  · have := heap_keep (o' := .cells #[.slice (some ⟨w.heap.size + 1 + 1 + 1, 0, none⟩) n n] 224) (World.alloc_heap_new (((w.alloc (.cells #[.slice A n c] 103)).alloc (.cells #[.func (.func gf) #[] lb] 183)).alloc (.cells #[.int .i64 0] 3)) (.cells (vals (zerosL n).flatten).toArray 226))
    simpa only [World.size_alloc] using this
  · rw [List.eq_of_mem_replicate hc]; rfl
  · have := World.alloc_heap_new ((((w.alloc (.cells #[.slice A n c] 103)).alloc (.cells #[.func (.func gf) #[] lb] 183)).alloc (.cells #[.int .i64 0] 3)).alloc (.cells (vals (zerosL n).flatten).toArray 226)) (.cells #[.slice (some ⟨w.heap.size + 1 + 1 + 1, 0, none⟩) n n] 224)
    simpa only [World.size_alloc] using this
/-- The store of a whole array, last of a region that draws its order. -/
theorem wp_storeO {o : Oper} {a : Act} {w : World} {K : Act → World → Prop} {Q : Exit → Act → World → Prop} (x y : Operand) (ho : o.op = .store 226 x y) (b d : Nat)
    (hx : a.eval x = .pointer (some ⟨b, d, none⟩)) (c : List Int) (hl : c.length = 31) (hy : a.eval y = .agg (vals c).toArray) (hT : w.there b d 31) (h : K (a.put o.dst undef) (w.setCells b d (vals c))) : o.wp Try.prog a w K Q := by
  unfold Oper.wp
  simp [execOp, ho, hx, hy, storeO hl hT, Result.andThen, Oper.upon]
  exact h
end Go.Proofs.Ytmbcpmnigggbaaa.Cu
namespace Go.Proofs.Ytmbcpmnigggbaaa.Cu
/-! Plain words on the run of least. -/
theorem back_pre_at {t : List CP} {pre : List (CP × Nat)} {x : CP × Nat} (h : pre ++ [x] <+: backL t) : pre.length < t.length ∧ x.2 = t.length - 1 - pre.length ∧ t[t.length - 1 - pre.length]? = some x.1 := by
  have hx : (backL t)[pre.length]? = some x := by
    obtain ⟨s, hs⟩ := h
    rw [← hs, List.append_assoc, List.getElem?_append_right (Nat.le_refl _), Nat.sub_self]
    rfl
  have hl := (List.getElem?_eq_some_iff.1 hx).1
  have hl2 : pre.length < t.length := by simpa [backL] using hl
  obtain ⟨p, hp, hb⟩ := back_at hl2
  rw [hx] at hb
  cases hb
  exact ⟨hl2, rfl, hp⟩
theorem run_next (t : List CP) (cost : Nat → Nat → Int) {k : Nat} {p : CP} (hp : t[t.length - 1 - k]? = some p) : runC t cost (k + 1) = stepC t cost (t.length - 1 - k) p (runC t cost k) := by
  rw [runC, hp]
theorem run_none (t : List CP) (cost : Nat → Nat → Int) {k : Nat} (h : runC t cost k = none) : ∀ m, runC t cost (k + m) = none
  | 0 => h
  | m + 1 => by
    show runC t cost (k + m + 1) = none
    rw [runC]
    cases t[t.length - 1 - (k + m)]? with
    | none => exact run_none t cost h m
    | some p => rw [run_none t cost h m]; rfl
/-- The first k of one list, then the other. -/
def mixTo (l m : List Int) (k : Nat) : List Int := l.take k ++ m.drop k
theorem mixTo_zero (l m : List Int) : mixTo l m 0 = m := by simp [mixTo]
theorem mixTo_all {l m : List Int} {n : Nat} (h1 : l.length = n) (h2 : m.length = n) : mixTo l m n = l := by
  unfold mixTo
  rw [List.take_of_length_le (by omega), List.drop_of_length_le (by omega), List.append_nil]
theorem mixTo_len {l m : List Int} (k : Nat) (h : m.length = l.length) : (mixTo l m k).length = l.length := by simp [mixTo]; omega
theorem mixTo_at {l m : List Int} {k : Nat} (hk : k < l.length) (h : m.length = l.length) : (mixTo l m k)[k]? = m[k]? := by
  unfold mixTo
  rw [List.getElem?_append_right (by simp; omega), List.length_take, Nat.min_eq_left (by omega), Nat.sub_self, List.getElem?_drop]
  rfl
theorem mixTo_set {l m : List Int} {k : Nat} {x : Int} (hx : l[k]? = some x) (h : m.length = l.length) : (mixTo l m k).set k x = mixTo l m (k + 1) := by
  have hk := (List.getElem?_eq_some_iff.1 hx).1
  have e : m.drop k = m[k]'(by omega) :: m.drop (k + 1) := List.drop_eq_getElem_cons (by omega)
  unfold mixTo
  rw [List.take_add_one, hx, e, List.set_append_right _ _ (by rw [List.length_take]; omega), List.length_take, Nat.min_eq_left (by omega), Nat.sub_self, List.set_cons_zero]
  simp
theorem lostL_at (p : CP) {k : Nat} (h : k < 31) : (lostL p)[k]? = some (if p.sl ≤ (k : Int) ∧ (k : Int) ≤ p.sh then 0 else far) := by simp [lostL, h]
theorem ownL_at (cost : Nat → Int) (base : List Int) {k : Nat} (h : k < 31) : (ownL cost base)[k]? = some (if cost k < far ∧ cat base k < far then cat base k + cost k else far) := by simp [ownL, h]
theorem lost_fin (p : CP) : Fin 0 (lostL p) := ⟨lostL_len p, fun n x hx => by
  have hn : n < 31 := by have := (List.getElem?_eq_some_iff.1 hx).1; rwa [lostL_len] at this
  rw [lostL_at p hn] at hx
  cases hx
  split
  · exact .inr (by omega)
  · exact .inl rfl⟩
theorem zero_fin : Fin 0 (List.replicate 31 0) := ⟨by simp, fun n x hx => by
  have := List.eq_of_mem_replicate (List.mem_of_getElem? hx)
  subst this
  exact .inr (by omega)⟩
theorem base_fin {b : Int} (h0 : 0 ≤ b) (hb : b < far) (t : List CP) (i : Nat) (p : CP) {pc : List Int} (h : Fin b pc) : Fin b (baseL t i p pc) := by
  unfold baseL
  split
  · have := plus_fin h (lost_fin p) (by omega)
    rwa [Int.add_zero] at this
  · exact zero_fin.mono h0
theorem cat_fin {b : Int} {c : List Int} (h : Fin b c) (n : Nat) : cat c n = far ∨ (-b ≤ cat c n ∧ cat c n ≤ b) := by
  by_cases hn : n < c.length
  · exact h.2 n _ (cat_at hn)
  · left; unfold cat; rw [List.getD_eq_getElem?_getD, List.getElem?_eq_none (by omega)]; rfl
theorem own_fin {b d : Int} {cost : Nat → Int} {base : List Int} (h : Fin b base) (hc : ∀ v, cost v = far ∨ (-d ≤ cost v ∧ cost v ≤ d)) : Fin (b + d) (ownL cost base) := ⟨ownL_len _ _, fun n x hx => by
  have hn : n < 31 := by have := (List.getElem?_eq_some_iff.1 hx).1; rwa [ownL_len] at this
  rw [ownL_at _ _ hn] at hx
  cases hx
  have h1 := cat_fin h n
  have h2 := hc n
  split
  · omega
  · exact .inl rfl⟩
theorem foldl_min_mem : ∀ (l : List Int) (x : Int), l.foldl min x = x ∨ l.foldl min x ∈ l
  | [], _ => .inl rfl
  | y :: l, x => by
    rw [List.foldl_cons]
    rcases foldl_min_mem l (min x y) with h | h
    · rw [h]
      by_cases hxy : x ≤ y
      · exact .inl (Int.min_eq_left hxy)
      · exact .inr (by rw [Int.min_eq_right (by omega)]; simp)
    · exact .inr (List.mem_cons_of_mem _ h)
theorem minL_mem {l : List Int} (h : l ≠ []) : minL l ∈ l := by
  cases l with
  | nil => exact absurd rfl h
  | cons x xs =>
    rcases foldl_min_mem xs x with h | h
    · simp [minL, h]
    · exact List.mem_cons_of_mem _ h
theorem min_fin {b : Int} {c : List Int} (h : Fin b c) : minL c = far ∨ (-b ≤ minL c ∧ minL c ≤ b) := by
  have hm := minL_mem (l := c) (fun e => by have := h.1; rw [e] at this; simp at this)
  obtain ⟨n, hn⟩ := List.mem_iff_getElem?.1 hm
  exact h.2 n _ hn
/-- The bound of the costs behind k parts. -/
def bndC (k : Nat) : Int := 3000 * ((2 : Int) ^ k - 1)
theorem bndC_succ (k : Nat) : bndC (k + 1) = bndC k + (bndC k + 3000) := by unfold bndC; rw [Int.pow_succ]; omega
theorem bndC_nonneg : ∀ k, 0 ≤ bndC k
  | 0 => by simp [bndC]
  | k + 1 => by have := bndC_nonneg k; rw [bndC_succ]; omega
theorem bndC_le : ∀ k, k ≤ 8 → bndC k ≤ 765000 := by
  intro k hk
  have h : (2 : Nat) ^ k ≤ 2 ^ 8 := Nat.pow_le_pow_right (by omega) hk
  have e : (2 : Int) ^ k = ((2 ^ k : Nat) : Int) := by simp
  unfold bndC
  rw [e]
  omega
theorem run_fin {t : List CP} {cost : Nat → Nat → Int} (hc : ∀ i v, cost i v = far ∨ (-3000 ≤ cost i v ∧ cost i v ≤ 3000)) : ∀ (k : Nat) (ps : List (List Int)) (all : Int), k ≤ 8 → runC t cost k = some (ps, all) →
    ps.length = t.length ∧ (∀ c ∈ ps, Fin (bndC k) c) ∧ -((k : Int) * 1000000) ≤ all ∧ all ≤ (k : Int) * 1000000
  | 0, ps, all, _, h => by
    simp only [runC, Option.some.injEq, Prod.mk.injEq] at h
    obtain ⟨rfl, rfl⟩ := h
    exact ⟨by simp, fun c hc => by rw [List.eq_of_mem_replicate hc]; exact nothing_fin, by omega, by omega⟩
  | k + 1, ps, all, hk, h => by
    have h0 := bndC_nonneg k
    have h8 := bndC_le k (by omega)
    have hs := bndC_succ k
    rw [runC] at h
    cases hp : t[t.length - 1 - k]? with
    | none =>
      rw [hp] at h
      obtain ⟨h1, h2, h3, h4⟩ := run_fin hc k ps all (by omega) h
      exact ⟨h1, fun c hc => (h2 c hc).mono (by omega), by omega, by omega⟩
    | some p =>
      rw [hp] at h
      simp only at h
      cases hr : runC t cost k with
      | none => rw [hr] at h; cases h
      | some q =>
        obtain ⟨ps0, all0⟩ := q
        obtain ⟨h1, h2, h3, h4⟩ := run_fin hc k ps0 all0 (by omega) hr
        rw [hr] at h
        have hlt := (List.getElem?_eq_some_iff.1 hp).1
        have hpc : Fin (bndC k) (ps0.getD (t.length - 1 - k) []) := by
          rw [List.getD_eq_getElem?_getD, List.getElem?_eq_getElem (by omega)]
          exact h2 _ (List.getElem_mem _)
        have hown := own_fin (base_fin h0 (by unfold far; omega) t (t.length - 1 - k) p hpc) (hc (t.length - 1 - k))
        simp only [stepC] at h
        split at h
        · simp only [Option.some.injEq, Prod.mk.injEq] at h
          obtain ⟨rfl, rfl⟩ := h
          refine ⟨by simpa using h1, fun c hcm => ?_, by omega, by omega⟩
          by_cases ho : p.of.toNat < ps0.length
          · rcases List.mem_or_eq_of_mem_set hcm with hcm | hcm
            · exact (h2 c hcm).mono (by omega)
            · rw [hcm, hs]
              refine plus_fin ?_ hown (by unfold far; omega)
              rw [List.getD_eq_getElem?_getD, List.getElem?_eq_getElem ho]
              exact h2 _ (List.getElem_mem _)
          · rw [List.set_eq_of_length_le (by omega)] at hcm
            exact (h2 c hcm).mono (by omega)
        · split at h
          · cases h
          · simp only [Option.some.injEq, Prod.mk.injEq] at h
            obtain ⟨rfl, rfl⟩ := h
            have hm := min_fin hown
            exact ⟨h1, fun c hcm => (h2 c hcm).mono (by omega), by omega, by omega⟩
end Go.Proofs.Ytmbcpmnigggbaaa.Cu
