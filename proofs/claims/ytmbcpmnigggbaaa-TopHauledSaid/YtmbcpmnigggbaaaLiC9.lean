import Derived.Test.YtmbcpmnigggbaaaLiM1
import Derived.ArgAppend
import Derived.Laws.EntriesVeiled
import Derived.Deep.RegionHeld3
import Derived.Deep.QuietTactic
namespace Go.Proofs.Ytmbcpmnigggbaaa.Li
open Go.RowKit

/-! crews' closure 107. -/
theorem info3' : (Try.prog.info? 3).map (fun i => (i.zero, i.size, i.bytes)) = some (some (.int .i64 0), 1, 8) := by kernel_rfl
theorem info_parts {P : Program} {e size bytes : Nat} {z : Value} (h : (P.info? e).map (fun i => (i.zero, i.size, i.bytes)) = some (some z, size, bytes)) : ∃ i, P.info? e = some i ∧ i.zero = some z ∧ i.size = size ∧ i.bytes = bytes := by
  cases hi : P.info? e with
  | none => rw [hi] at h; simp at h
  | some i =>
    rw [hi] at h
    simp only [Option.map_some, Option.some.injEq, Prod.mk.injEq] at h
    exact ⟨i, rfl, h.1, h.2.1, h.2.2⟩
theorem grown_below {W W' : World} (h : W.grownBy W' none) : Below W.heap.size W W' := (Below.refl _ W).grown h (Nat.le_refl _) fun _ e => by cases e
/-- 'append(l[:len(l):len(l)], x)' at a step of a region that draws its order: new memory. -/
theorem step_appF {ops : Array Oper} {o : Oper} {a : Act} {w : World} {K : Act → World → Prop} {Q : Exit → Act → World → Prop} {E : Prop} (hw : Region.wanted o (yielded ops a.tmps) = true) (s x : Operand)
    (ho : o.op = .call { callee := .builtin .append, args := #[s, x], argTypes := #[25, 25] }) (B : Nat) (A : Option Addr) (l : List Int) (hs : a.eval s = .slice A l.length l.length) (hI : IntsFrom w B A l)
    (ad : Addr) (c : Nat) (k : Int) (hx : a.eval x = .slice (some ad) 1 c) (hc : w.cell? ad = some (.int .i64 k)) (hl : l.length ≤ 1000) (hB : B ≤ w.heap.size)
    (h : ∀ A' c' w', l.length + 1 ≤ c' → IntsFrom w' B A' (l ++ [k]) → Below w.heap.size w w' → K (a.put o.dst (.slice A' (l.length + 1) c')) w') :
    if Region.wanted o (yielded ops a.tmps) = true then Oper.wp Try.prog o a w K Q else E := by
  rw [if_pos hw]
  obtain ⟨i0, hi, hz0, hz1, hz2⟩ := info_parts info3'
  have hlay : ∀ {v' w'}, w'.ownsRow w.heap.size 3 1 v' (l.length + 1) ((l.map (Value.int .i64)) ++ [.int .i64 k]) → w.grownBy w' none → K (a.put o.dst v') w' := fun {v' w'} r1 r2 => by
    rcases r1.2 with ⟨_, h0⟩ | ⟨g, cap, cur, rfl, hb, hg, h4, h5, h6, h7⟩
    · omega
    · refine h _ _ _ h4 (.inr ⟨g, 0, rfl, by omega, (Array.getElem?_eq_some_iff.1 hg).1, fun i y hy => ?_⟩) (grown_below r2)
      have hc := World.ownsRow.cells r1 (g := g) rfl i (.int .i64 y) (by
        rw [show (l.map (Value.int .i64)) ++ [.int .i64 k] = (l ++ [k]).map (Value.int .i64) by simp, List.getElem?_map, hy]; rfl)
      rw [addr_add] at hc; exact hc
  rcases hI with ⟨rfl, rfl⟩ | ⟨b, off, rfl, h1, h2, h3⟩
  · obtain ⟨v', w', hrun, r1, r2, _⟩ := run_append_own (P := Try.prog) w w.heap.size 25 o.type 3 i0 (.int .i64 0) 1 8 Try.underlying25 hi hz0 hz1 hz2 rfl (by decide) (.slice none 0 0) 0 [] (World.ownsRow_nil w _ 3 1) ad 1 c [.int .i64 k] rfl (fun j u hj => by
      match j, hj with
      | 0, hj => simp at hj; subst hj; simpa [Addr.add] using hc) (fun u hu => by simp at hu; subst hu; rfl) (by unfold maxLen; omega) (by omega) (Nat.le_refl _)
    unfold Oper.wp
    simp only [List.length_nil] at hs
    simp [execOp, ho, resolve, invoke, builtin, hs, hx, hrun, Result.andThen]
    exact hlay r1 r2
  · obtain ⟨v', w', hrun, r1, r2⟩ := run_append_arg_grows (P := Try.prog) w 25 o.type 3 i0 (.int .i64 0) 1 8 Try.underlying25 hi hz0 hz1 hz2 rfl (by decide) ⟨b, off, none⟩ l.length l.length (l.map (.int .i64)) (by simp) (fun j u hj => by
      rw [List.getElem?_map] at hj
      cases hx : l[j]? with
      | none => rw [hx] at hj; simp at hj
      | some y =>
        rw [hx] at hj
        simp at hj
        subst hj
        rw [addr_add]
        exact h3 j y hx) ad 1 c [.int .i64 k] rfl (fun j u hj => by
      match j, hj with
      | 0, hj => simp at hj; subst hj; simpa [Addr.add] using hc) (by omega) (by unfold maxLen; omega) (by omega)
    unfold Oper.wp
    simp [execOp, ho, resolve, invoke, builtin, hs, hx, hrun, Result.andThen]
    exact hlay r1 r2
set_option maxRecDepth 100000 in
set_option maxHeartbeats 4000000 in
theorem from_end (L : SL) (s : Sea) (b l : Nat) (S : Nat → Prop) (xs : List (List Int)) (J Jx : List (List Int) → World → Prop) (B B0 B1 B2 : Nat)
    (hY : ∀ m pre x args X, B ≤ X.heap.size → J pre X → SeesC B x args X → pre ++ [x] <+: xs → YieldAt Fence.wide m Try.prog l args X fun e X' => KpB S X.heap.size X X' ∧ ((e = .returned (.bool true) ∧ J (pre ++ [x]) X') ∨ (e = .returned (.bool false) ∧ Jx (pre ++ [x]) X')))
    (f : List Int) (A : Option Addr) (c : Nat) (pre : List (List Int)) (X : World) (hfc : f.length ≤ c) (hf : f.length = s.ps.length) (hpl : s.ps.length ≤ 4) (hpre : pre ++ [f] <+: xs) (hX : B ≤ X.heap.size) (hJ : J pre X) (hC : CrewSt X B0 B1 B2 l b L s) (hI : IntsFrom X B A f) (n : Nat) :
    CallsIn Fence.wide n Try.prog 176 #[.slice A f.length c, .pointer (some ⟨B0, 0, none⟩), .pointer (some ⟨B1, 0, none⟩), .pointer (some ⟨B2, 0, none⟩)] X (FromPost S xs J Jx (pre ++ [f]) X) := by
  obtain ⟨g0, g1, g2, g3⟩ := hC.w0.cells
  have e0 := hC.s0
  have e1 := hC.y0
  have hd : ((f.length : Int) == (s.ps.length : Int)) = true := by simp [hf]
  have hy := hY (n - 1) pre f #[.slice A f.length c] X hX hJ ⟨A, c, rfl, hI, hfc⟩ hpre
  have HY := Lib.hid hy
  have HP := Lib.hid hpre
  have hpf : f.length ≤ 4 := by omega
  clear hy hY hJ hC hI hf hpre g0 g1 g3
  refine callsIn_of_wp Try.func176 rfl trivial ?_ rfl
  simp only [Try.ntmps176, List.size_toArray, List.length_cons, List.length_nil, Nat.reduceAdd, Nat.reduceSub, Array.replicate_succ, Array.replicate_zero, List.push_toArray, List.append_toArray, List.nil_append, List.cons_append]
  obtain ⟨fn, tmps, assign, body, hy, hR⟩ := HY.out
  have HR := Lib.hid hR
  clear hR
  gi_wp2
  refine ⟨(fun h => by cases h), HR.out.mono ?_⟩
  clear HR hy
  rintro e X' ⟨hk, (⟨rfl, hj⟩ | ⟨rfl, hj⟩)⟩
  · gi_wp2
    go_ret
    exact ⟨true, rfl, hk, .inl ⟨rfl, hj⟩⟩
  · gi_wp2
    go_ret
    exact ⟨false, rfl, hk, .inr ⟨rfl, _, HP.out, hj⟩⟩
set_option maxRecDepth 100000 in
set_option maxHeartbeats 4000000 in
theorem from_any (L : SL) (s : Sea) (hS : SOK s) (b l : Nat) (S : Nat → Prop) (xs : List (List Int)) (J Jx : List (List Int) → World → Prop) (B B0 B1 B2 : Nat) (hB0 : B ≤ B0) (hB1 : B ≤ B1) (hB2 : B ≤ B2) (hSB : ∀ k, B ≤ k → ¬ S k) (hSb : ¬ S b)
    (hJ : ∀ q X Y, B ≤ X.heap.size → J q X → Below X.heap.size X Y → J q Y)
    (hY : ∀ m pre x args X, B ≤ X.heap.size → J pre X → SeesC B x args X → pre ++ [x] <+: xs → YieldAt Fence.wide m Try.prog l args X fun e X' => KpB S X.heap.size X X' ∧ ((e = .returned (.bool true) ∧ J (pre ++ [x]) X') ∨ (e = .returned (.bool false) ∧ Jx (pre ++ [x]) X'))) :
    ∀ (m : Nat) (f : List Int) (A : Option Addr) (c : Nat) (pre : List (List Int)) (X : World), f.length + m = s.ps.length → f.length ≤ c → pre ++ crewsR s.bs.length m f <+: xs → B ≤ X.heap.size → J pre X → CrewSt X B0 B1 B2 l b L s → IntsFrom X B A f →
    Calls Try.prog 176 #[.slice A f.length c, .pointer (some ⟨B0, 0, none⟩), .pointer (some ⟨B1, 0, none⟩), .pointer (some ⟨B2, 0, none⟩)] X (FromPost S xs J Jx (pre ++ crewsR s.bs.length m f) X) := by
  intro m
  induction m with
  | zero =>
    intro f A c pre X hf hfc hpre hX hJX hC hI
    exact callsIn_wide.1 (from_end L s b l S xs J Jx B B0 B1 B2 hY f A c pre X hfc (by omega) hS.pl hpre hX hJX hC hI 1)
  | succ m ih =>
    intro f A c pre X hf hfc hpre hX hJX hC hI
    obtain ⟨g0, g1, g2, g3⟩ := hC.w0.cells
    have e0 := hC.s0
    have hd : ((f.length : Int) == (s.ps.length : Int)) = false := beq_eq_false_iff_ne.2 (by omega)
    have hpl := hS.pl
    have hbl := hS.bl
    have hfm := hf
    have HIH := Lib.hid ih
    have HP := Lib.hid hpre
    have HJX := Lib.hid hJX
    have HC := Lib.hid hC
    have HI := Lib.hid hI
    have HJ := Lib.hid hJ
    have HSB := Lib.hid hSB
    have HSb := Lib.hid hSb
    have hf4 : f.length ≤ 4 := by omega
    have HF := Lib.hid hf
    clear ih hpre hJX hC hI hJ hY hS hSB hSb hfm hf
    obtain ⟨Ap, cp, Ab, cb⟩ := L
    go_enter Try.func176, Try.ntmps176
    go_wp2_with (fail)
    go_loopw [25] (fun i wr => ∃ k : Nat, k ≤ s.bs.length ∧ i = .int .i64 k ∧ Hid (J (pre ++ crewsTo s.bs.length m f k) wr) ∧ Hid (KpB S X.heap.size X wr)) (fun i _ => s.bs.length - (intOf i).toNat)
    case atStart => exact ⟨0, Nat.zero_le _, rfl, Lib.hid (by rw [crewsTo_zero, List.append_nil]; exact HJX.out), Lib.hid (KpB.refl _ _ _)⟩
    case round =>
      obtain ⟨k, hk, rfl, hJr, hkp⟩ := hrel
      by_cases hlt : k < s.bs.length
      · have hCr := HC.out.kp hkp.out (HSB.out _ hB0) (HSB.out _ hB1) (HSB.out _ hB2) HSb.out
        have hIr := HI.out.kp hkp.out HSB.out
        have HT := Lib.hid (crewsTo_succ s.bs.length m f k)
        have hXr : B ≤ wr.heap.size := Nat.le_trans hX hkp.out.size
        have e2 := hCr.f0
        have HCr := Lib.hid hCr
        have HIr := Lib.hid hIr
        clear hCr hIr
        by_cases hin : (k : Int) ∈ f
        · have HQ := Lib.hid (fun z => show Calls Try.prog 177 #[.slice A f.length c, .int .i64 k] (extB wr z) fun e w' => e = .returned (.bool true) ∧ extB wr z = w' by
            have := contains_any f k A c (by omega) (extB wr z) (ints_later HIr.out.ints (extB_below wr z))
            rwa [decide_eq_true hin] at this)
          have HT2 := Lib.hid (show crewsTo s.bs.length m f (k + 1) = crewsTo s.bs.length m f k by rw [HT.out, if_pos hin, List.append_nil])
          clear hin
          as_aux_lemma =>
          go_upto_region 6 with (fail)
          refine wp_region_ext (by kernel_rfl) (by kernel_rfl) ?_
          repeat (go_big_quiet_step ((go_at_call 177; exact ext_same (HQ.out _))))
          refine wpQuiet_nil ?_
          rintro _ ⟨y1, rfl⟩
          have hb3 := extB_below wr y1
          go_wp2_with (fail)
          go_roundw
          case rel => exact ⟨k + 1, by omega, by go_num, Lib.hid (by rw [HT2.out]; exact HJ.out _ _ _ hXr hJr.out hb3), Lib.hid (hkp.out.trans ((kpB_of_below hb3).mono hkp.out.size fun _ _ h => h))⟩
          case measure => simp [intOf]; omega
        · have HQ := Lib.hid (fun W hW => show Calls Try.prog 177 #[.slice A f.length c, .int .i64 k] W fun e w' => e = .returned (.bool false) ∧ W = w' by
            have := contains_any f k A c (by omega) W hW
            rwa [decide_eq_false hin] at this)
          have HT2 := Lib.hid (show crewsTo s.bs.length m f (k + 1) = crewsTo s.bs.length m f k ++ crewsR s.bs.length m (f ++ [(k : Int)]) by rw [HT.out, if_neg hin])
          clear hin
          have hb5 : Below wr.heap.size wr (wr.alloc (.cells #[.int .i64 k] 3)).drew := (al_below wr _).drew
          have HB5 := Lib.hid hb5
          have HI5 := Lib.hid (HIr.out.below hb5)
          have HC5 := Lib.hid (show (wr.alloc (.cells #[.int .i64 k] 3)).drew.cell? ⟨wr.heap.size, 0, none⟩ = some (.int .i64 k) by simp [go_sem])
          have hf1000 : f.length ≤ 1000 := by omega
          have HBX := Lib.hid (show B ≤ (wr.alloc (.cells #[.int .i64 k] 3)).drew.heap.size from Nat.le_trans hXr hb5.size)
          clear hb5
          have hpx : (pre ++ crewsTo s.bs.length m f k) ++ crewsR s.bs.length m (f ++ [(k : Int)]) <+: xs := by
            rw [List.append_assoc, ← HT2.out]
            exact (List.prefix_append_right_inj _).2 (crewsTo_pre _ _ _ (show k + 1 ≤ s.bs.length by omega)) |>.trans HP.out
          have HIH2 := Lib.hid (fun A2 c2 W (h1 : f.length + 1 ≤ c2) (hb : Below wr.heap.size wr W) (hI : IntsFrom W B A2 (f ++ [(k : Int)])) => show Calls Try.prog 176 #[.slice A2 (f.length + 1) c2, .pointer (some ⟨B0, 0, none⟩), .pointer (some ⟨B1, 0, none⟩), .pointer (some ⟨B2, 0, none⟩)] W (FromPost S xs J Jx ((pre ++ crewsTo s.bs.length m f k) ++ crewsR s.bs.length m (f ++ [(k : Int)])) W) by
            have := HIH.out (f ++ [(k : Int)]) A2 c2 (pre ++ crewsTo s.bs.length m f k) W (by rw [List.length_append]; have := HF.out; simp; omega) (by rw [List.length_append]; exact h1) hpx (Nat.le_trans hXr hb.size) (HJ.out _ _ _ hXr hJr.out hb) (HCr.out.below hb) hI
            rw [List.length_append] at this; exact this)
          clear hpx
          as_aux_lemma =>
          go_upto_region 6 with (fail)
          go_region_held3 (fun w' => w'.cell? ⟨B2, 0, none⟩ = some (.func (.func 176) #[] #[.pointer (some ⟨B0, 0, none⟩), .pointer (some ⟨B1, 0, none⟩), .pointer (some ⟨B2, 0, none⟩)])) (first | go_keep)
            (first
              | (go_at_call 177; refine (HQ.out _ (ints_later HIr.out.ints (drew_below wr))).mono ?_; rintro e w' ⟨rfl, rfl⟩)
              | (refine step_appF (by rfl) _ _ (by rfl) B A f (by rfl) HI5.out ⟨wr.heap.size, 0, none⟩ 1 k (by rfl) HC5.out hf1000 HBX.out ?_; intro A2 c2 w2 hc2 hI2 hb2; have HB2 := Lib.hid (hb0to HB5.out hb2); have HI2 := Lib.hid hI2; have HC2 := Lib.hid hc2; have f2 := below_cell HB2.out e2; clear hb2 hI2 hc2)
              | (go_at_call 176; refine (HIH2.out A2 c2 w2 HC2.out HB2.out HI2.out).mono ?_; rintro e w3 ⟨v, rfl, hk3, h3⟩; have HK3 := Lib.hid hk3; have H3 := Lib.hid h3; have f3 := (hk3.cell (cell_lt f2) (HSB.out _ hB2)).trans f2; clear hk3 h3))
          all_goals
            have HKX := Lib.hid (hkp.out.trans (((kpB_of_below HB2.out).trans (HK3.out.mono HB2.out.size fun _ _ h => h)).mono hkp.out.size fun _ _ h => h))
            clear HK3 e2 f2 f3
            rcases H3.out with ⟨rfl, hj3⟩ | ⟨rfl, hj3⟩
            · have HJ3 := Lib.hid hj3
              clear hj3 H3
              go_wp2_with (fail)
              go_roundw
              case rel => exact ⟨k + 1, by omega, by go_num, Lib.hid (by rw [HT2.out, ← List.append_assoc]; exact HJ3.out), HKX⟩
              case measure => simp [intOf]; omega
            · have HJ3 := Lib.hid hj3
              clear hj3 H3
              go_wp2_with (fail)
              go_ret
              exact ⟨false, rfl, HKX.out, .inr ⟨rfl, HJ3.out⟩⟩
      · obtain rfl : k = s.bs.length := by omega
        go_wp2_with (fail)
        go_ret
        exact ⟨true, rfl, hkp.out, .inl ⟨rfl, by rw [← crewsTo_all]; exact hJr.out⟩⟩
open Go.RowKit

/-! crews 104. -/
theorem cell_of_heap {W : World} {b o : Nat} {arr : Array Value} {t : TypeId} {v : Value} (h : W.heap[b]? = some (.cells arr t (0, 0))) (hv : arr[o]? = some v) : W.cell? ⟨b, o, none⟩ = some v := by
  unfold World.cell?
  simp only [h]
  exact hv
theorem frozen_of_heap {W : World} {b : Nat} {arr : Array Value} {t : TypeId} (h : W.heap[b]? = some (.cells arr t (0, 0))) (o : Nat) : W.frozen? ⟨b, o, none⟩ = false := by
  unfold World.frozen?
  simp only [h]
  simp
theorem heap_keep {W : World} {b : Nat} {o o' : Obj} (h : W.heap[b]? = some o) : (W.alloc o').heap[b]? = some o := (Below.heap_alloc _ _ _ (heap_lt h)).trans h
theorem heap_new1 (W : World) (o : Obj) : (W.alloc o).heap[W.heap.size]? = some o := World.alloc_heap_new W o
theorem heap_new2 (W : World) (o1 o2 : Obj) : ((W.alloc o1).alloc o2).heap[W.heap.size + 1]? = some o2 := by
  have := World.alloc_heap_new (W.alloc o1) o2; rwa [World.size_alloc] at this
theorem heap_new3 (W : World) (o1 o2 o3 : Obj) : (((W.alloc o1).alloc o2).alloc o3).heap[W.heap.size + 1 + 1]? = some o3 := by
  have := World.alloc_heap_new ((W.alloc o1).alloc o2) o3; rwa [World.size_alloc, World.size_alloc] at this
set_option maxRecDepth 100000 in
set_option maxHeartbeats 4000000 in
theorem crews_makes (n : Nat) (L : SL) (s : Sea) (hS : SOK s) (b : Nat) (w : World) (hW : WBox w b L s (shares s)) (S : Nat → Prop) (hSb : ¬ S b) (hSw : ∀ k, S k → k < w.heap.size) :
    SeqMakes Fence.wide n Try.prog 131 #[.pointer (some ⟨b, 0, none⟩)] #[] S SeesC (crewsR s.bs.length s.ps.length []) w := by
  intro l J Jx W hbW hJ hJx hY h0
  have H107 := from_any L s hS b l (fun k => S k ∨ Seg w.heap.size W.heap.size k) (crewsR s.bs.length s.ps.length []) J Jx W.heap.size W.heap.size (W.heap.size + 1) (W.heap.size + 1 + 1) (Nat.le_refl _) (by omega) (by omega)
    (fun k hk h => h.elim (fun h => by have := hSw k h; have := hbW.size; omega) (fun h => by have := h.2; omega)) (fun h => h.elim hSb (fun h => by have := h.1; have := hW.lt; omega)) hJ
    (fun m pre x args X h1 h2 h3 h4 => yieldAt_wide (hY pre x args X h1 h2 h3 h4)) s.ps.length [] none 0 []
  have H107 : ∀ X, W.heap.size ≤ X.heap.size → J [] X → CrewSt X W.heap.size (W.heap.size + 1) (W.heap.size + 1 + 1) l b L s → Calls Try.prog 176 #[.slice none 0 0, .pointer (some ⟨W.heap.size, 0, none⟩), .pointer (some ⟨W.heap.size + 1, 0, none⟩), .pointer (some ⟨W.heap.size + 1 + 1, 0, none⟩)] X (FromPost (fun k => S k ∨ Seg w.heap.size W.heap.size k) (crewsR s.bs.length s.ps.length []) J Jx (crewsR s.bs.length s.ps.length []) X) :=
    fun X h1 h2 h3 => H107 X (by simp) (by simp) (by rw [List.nil_append]; exact List.prefix_rfl) h1 h2 h3 (.inl ⟨rfl, rfl⟩)
  have HJ := Lib.hid hJ
  have H0 := Lib.hid h0
  have H := Lib.hid H107
  have HW := Lib.hid (hW.of (hbW.block _ hW.lt))
  clear H107 hJ hJx hY h0 hSb hSw hbW hW hS
  have hbw := hb0to (hb0to (al_below W (.cells #[.pointer (some ⟨b, 0, none⟩)] 112)) (al_below _ (.cells #[.func (.yield l) #[] #[]] 121))) (al_below _ (.cells #[.nilFunc] 121))
  have h0 := heap_keep (o' := .cells #[.nilFunc] 121) (heap_keep (o' := .cells #[.func (.yield l) #[] #[]] 121) (heap_new1 W (.cells #[.pointer (some ⟨b, 0, none⟩)] 112)))
  have h1 := heap_keep (o' := .cells #[.nilFunc] 121) (heap_new2 W (.cells #[.pointer (some ⟨b, 0, none⟩)] 112) (.cells #[.func (.yield l) #[] #[]] 121))
  have h2 := heap_new3 W (.cells #[.pointer (some ⟨b, 0, none⟩)] 112) (.cells #[.func (.yield l) #[] #[]] 121) (.cells #[.nilFunc] 121)
  obtain ⟨W3, hW3⟩ : ∃ W3, ((W.alloc (.cells #[.pointer (some ⟨b, 0, none⟩)] 112)).alloc (.cells #[.func (.yield l) #[] #[]] 121)).alloc (.cells #[.nilFunc] 121) = W3 := ⟨_, rfl⟩
  rw [hW3] at hbw h0 h1 h2
  have q0 := cell_of_heap (o := 0) h0 rfl
  have q1 := cell_of_heap (o := 0) h1 rfl
  have q2 := cell_of_heap (o := 0) h2 rfl
  have qf := frozen_of_heap h2
  have HW3 := Lib.hid hW3
  have HBW := Lib.hid hbw
  have hB0 := cell_lt q0
  have hB1 := cell_lt q1
  have hB2 := cell_lt q2
  have HQ0 := Lib.hid q0
  have HQ1 := Lib.hid q1
  have H2 := Lib.hid h2
  have hbs : Below W.heap.size W (W3.setCell ⟨W.heap.size + 1 + 1, 0, none⟩ (.func (.func 176) #[] #[.pointer (some ⟨W.heap.size, 0, none⟩), .pointer (some ⟨W.heap.size + 1, 0, none⟩), .pointer (some ⟨W.heap.size + 1 + 1, 0, none⟩)])) := hbw.setCell (by show W.heap.size ≤ W.heap.size + 1 + 1; omega) _
  have hcs : CrewSt (W3.setCell ⟨W.heap.size + 1 + 1, 0, none⟩ (.func (.func 176) #[] #[.pointer (some ⟨W.heap.size, 0, none⟩), .pointer (some ⟨W.heap.size + 1, 0, none⟩), .pointer (some ⟨W.heap.size + 1 + 1, 0, none⟩)])) W.heap.size (W.heap.size + 1) (W.heap.size + 1 + 1) l b L s :=
    ⟨cell_of_heap ((set_other_heap (heap_lt h0) (by omega)).trans h0) rfl, cell_of_heap ((set_other_heap (heap_lt h1) (by omega)).trans h1) rfl, cell_of_heap (heap_set _ h2) rfl, HW.out.of (hbs.block _ HW.out.lt)⟩
  have HBS := Lib.hid hbs
  have HCS := Lib.hid hcs
  clear h0 h1 h2 hW3 hbw q0 q1 hbs hcs
  refine callsIn_wide.2 ?_
  go_enter Try.func131, Try.ntmps131
  go_upto_region 2 with (fail)
  have e := HW3.out
  rw [e]
  clear e
  go_wp2_with (go_at_call 176; refine (H.out _ HBS.out.size (HJ.out _ _ _ (Nat.le_refl _) H0.out HBS.out) HCS.out).mono ?_; rintro e X' ⟨v, rfl, hk, h⟩; have HK := Lib.hid hk; have HE := Lib.hid h; clear hk h)
  refine bodyPost_end (results_none rfl _ _ _) rfl ?_
  refine ⟨⟨_, rfl⟩, Nat.le_trans HBS.out.size HK.out.size, ?_⟩
  rcases HE.out with ⟨_, h⟩ | ⟨_, h⟩
  · exact .inl h
  · exact .inr h
open Go.RowKit
attribute [local go_sem] Oper.semAt_some

theorem wpIn_region_tailX {P : Program} {k n id : Nat} {Q : Exit → Act → World → Prop} {a : Act} {w : World} {L : List Oper} (N : Nat) (hL : L = L.take N ++ [L.getD N default]) (hQ : ¬ LetsOut Q) (hd : noDefer L = true) (hm : P.follows .mixedOrders = true) (hl : lastOK (L.take N).length (L.getD N default) = true) (hb : backB L = true) (hB : Region.lexB .any (L.take N ++ [idle (L.getD N default)]).toArray = true)
    (h : wpQuiet P (L.take N ++ [idle (L.getD N default)]).toArray (fun w' => ∃ x, w' = extB w x) (fun a' => ∀ w', (∃ x, w' = extB w x) → (L.getD N default).wp P a' w' (fun a'' w'' => Q .normal a'' w'') Q) (L.take N) a) : (Code.region id L.toArray true).wpIn (Fence.wide.inRound k) n P Q a w :=
  wpIn_region_tail (C := fun w' => ∃ x, w' = extB w x) _ _ hL hQ hd hm hl hb hB (extB_of (Below.refl _ w).drew) h
theorem KpB.belowOf {S : Nat → Prop} {n B : Nat} {W W' : World} (h : KpB S n W W') (hB : B ≤ n) (hS : ∀ k, S k → B ≤ k) : Below B W W' := ⟨h.os, h.tape, h.output, h.size, fun k hk => h.block k (by omega) (fun hs => by have := hS k hs; omega)⟩
/-- The greatest number of a list's. -/
def maxL (f : List Int → Int) (l : List (List Int)) : Int := l.foldl (fun n c => max n (f c)) (-1)
theorem maxL_snoc (f : List Int → Int) (l : List (List Int)) (c : List Int) : maxL f (l ++ [c]) = max (maxL f l) (f c) := by simp [maxL]
/-- The greatest weight that some crew lifts. -/
def mostS (s : Sea) : Int := maxL (liftS s) (crewsR s.bs.length s.ps.length [])
/-- What most knows between two rounds. -/
structure MostI (w : World) (b : Nat) (n : Int) (X : World) : Prop where
  bl : Below w.heap.size w X
  s : X.heap[w.heap.size]? = some (.cells #[.pointer (some ⟨b, 0, none⟩)] 112 (0, 0))
  n : X.heap[w.heap.size + 1]? = some (.cells #[.int .i64 n] 3 (0, 0))
theorem MostI.kp {w : World} {b : Nat} {n : Int} {X Y : World} (h : MostI w b n X) {S : Nat → Prop} (hk : KpB S X.heap.size X Y) (hS : ∀ k, S k → w.heap.size + 2 ≤ k) : MostI w b n Y :=
  ⟨h.bl.trans (hk.belowOf h.bl.size (fun k hs => by have := hS k hs; omega)), (hk.block _ (heap_lt h.s) (fun hs => by have := hS _ hs; omega)).trans h.s, (hk.block _ (heap_lt h.n) (fun hs => by have := hS _ hs; omega)).trans h.n⟩
theorem most_set {w : World} {b : Nat} {n : Int} {X : World} (h : MostI w b n X) (m : Int) : MostI w b m (X.setCell ⟨w.heap.size + 1, 0, none⟩ (.int .i64 m)) :=
  ⟨h.bl.setCell (by show w.heap.size ≤ w.heap.size + 1; omega) _, (set_other_heap (heap_lt h.s) (by omega)).trans h.s, heap_set _ h.n⟩
set_option maxRecDepth 100000 in
set_option maxHeartbeats 4000000 in
theorem most_any (L : SL) (s : Sea) (hS : SOK s) (b : Nat) (w : World) (hW : WBox w b L s (shares s)) (hH : SeaAt w w.heap.size L s) : Calls Try.prog 74 #[.pointer (some ⟨b, 0, none⟩)] w fun e w' => e = .returned (.int .i64 (mostS s)) ∧ Below w.heap.size w w' := by
  have h1 := heap_keep (o' := .cells #[.int .i64 0] 3) (heap_new1 w (.cells #[.pointer (some ⟨b, 0, none⟩)] 112))
  have h2 := heap_new2 w (.cells #[.pointer (some ⟨b, 0, none⟩)] 112) (.cells #[.int .i64 0] 3)
  have hb2 := hb0to (al_below w (.cells #[.pointer (some ⟨b, 0, none⟩)] 112)) (al_below _ (.cells #[.int .i64 0] 3))
  obtain ⟨W2, hW2⟩ : ∃ W2, (w.alloc (.cells #[.pointer (some ⟨b, 0, none⟩)] 112)).alloc (.cells #[.int .i64 0] 3) = W2 := ⟨_, rfl⟩
  rw [hW2] at h1 h2 hb2
  have q1 := cell_of_heap (o := 0) h1 rfl
  have q2 := cell_of_heap (o := 0) h2 rfl
  have q3 := frozen_of_heap h2
  have qb1 := heap_lt h1
  have qb2 := heap_lt h2
  have H1 := Lib.hid h1
  have H2 := Lib.hid h2
  have HB2 := Lib.hid hb2
  have HW := Lib.hid hW
  have HH := Lib.hid hH
  have HS := Lib.hid hS
  clear h1 h2 hb2 hW hH hS
  refine (callsIn_wide (n := 10)).1 ?_
  refine callsIn_of_wp_marks Try.func74 rfl trivial ?_ rfl
  simp only [Try.ntmps74, List.size_toArray, List.length_cons, List.length_nil, Nat.reduceAdd, Nat.reduceSub, Array.replicate_succ, Array.replicate_zero, List.push_toArray, List.append_toArray, List.nil_append, List.cons_append]
  gi_wp2_with (fail)
  have hI1 : MostI w b (-1) (W2.setCell ⟨w.heap.size + 1, 0, none⟩ (.int .i64 (-1))) := ⟨HB2.out.setCell (by show w.heap.size ≤ w.heap.size + 1; omega) _, (set_other_heap (heap_lt H1.out) (by omega)).trans H1.out, heap_set _ H2.out⟩
  have hz1 : (W2.setCell ⟨w.heap.size + 1, 0, none⟩ (.int .i64 (-1))).heap.size = W2.heap.size := by simp [World.setCell]
  obtain ⟨W1, hW1⟩ : ∃ W1, W2.setCell ⟨w.heap.size + 1, 0, none⟩ (.int .i64 (-1)) = W1 := ⟨_, rfl⟩
  rw [hW1] at hI1 hz1 ⊢
  have HI1 := Lib.hid hI1
  have hzw : w.heap.size + 2 ≤ W1.heap.size := by omega
  clear hW1 q1 q2 q3 hI1 hz1 hW2
  refine wpIn_rangeFunc_makes (S := fun k => k = w.heap.size + 1) (Sees := SeesC) (fb := #[.pointer (some ⟨b, 0, none⟩)]) (lb := #[]) (xs := crewsR s.bs.length s.ps.length []) (w0 := W1) rfl (by omega) rfl trivial (fun _ _ => rfl)
    (crews_makes 9 L s HS.out b W1 (HW.out.of (HI1.out.bl.block _ HW.out.lt)) (fun k => k = w.heap.size + 1) (by have := HW.out.lt; omega) (fun k hk => by omega)) (Below.refl _ _) (fun k hk => by omega)
    (fun B x args X hs => by obtain ⟨A, c, rfl, -⟩ := hs; rfl) (fun B x args X Y _ hs hk => hs.kept hk)
    (fun pre X => MostI w b (maxL (liftS s) pre) X)
    (fun c pre X => False)
    ?hI ?hIx ?h0 (fun x args a' X => a' = { tmps := #[.pointer (some ⟨b, 0, none⟩), .pointer (some ⟨w.heap.size, 0, none⟩), .int .i64 0, .pointer (some ⟨w.heap.size + 1, 0, none⟩), args.getD 0 undef, .pointer (some ⟨b, 0, none⟩), .func (.func 131) #[.pointer (some ⟨b, 0, none⟩)] #[], args.getD 0 undef, undef, undef, undef, undef, undef, undef], defers := [] }) ?hAx ?hassign ?hbody ?hdone ?hstop
  case hI =>
    intro q X Y hX h hk
    exact h.kp hk (fun k hs => by have := hs.1; omega)
  case hIx => exact fun _ _ _ _ _ h _ => h.elim
  case h0 =>
    intro X hX hb
    exact HI1.out.kp (kpB_of_below hb (S := fun _ => False)) (fun _ h => h.elim)
  case hAx => exact fun _ _ _ _ _ _ h _ => h
  case hassign =>
    intro l' x args X K hz hs hK
    obtain ⟨A, c, rfl, -⟩ := hs
    have hK' := hK _ X (.inl rfl) rfl
    clear hK
    simp only [List.zip_toArray, List.zip_cons_cons, List.zip_nil_right, List.foldl_toArray, List.foldl_cons, List.foldl_nil, List.setIfInBounds_toArray, List.set_cons_succ, List.set_cons_zero]
    gi_wp2
    exact hK'
  case hbody =>
    rintro l' pre x args a' X hX hpre hI hsee rfl
    obtain ⟨A, c, rfl, hA, -⟩ := hsee
    have hxm := mem_crews.1 (hpre.subset (List.mem_append_right _ (List.mem_singleton.2 rfl)))
    have H84 := Lib.hid (fun z => lifts_any L s HS.out b x A c (fun y hy => hxm.2.1 y hy) (Nat.le_of_eq hxm.1) (extB X z) ((HW.out.of (hI.bl.block _ HW.out.lt)).of ((extB_below X z).block _ (Nat.lt_of_lt_of_le HW.out.lt hI.bl.size))) (Nat.lt_of_lt_of_le HW.out.lt (Nat.le_trans hI.bl.size (extB_below X z).size)) ((HH.out.below hI.bl).below (extB_below X z)) (ints_later hA.ints (extB_below X z)))
    have HN := Lib.hid (maxL_snoc (liftS s) pre x)
    generalize hm : maxL (liftS s) pre = m at hI HN
    generalize hv : liftS s x = v at H84 HN
    have e0 := extB_cell (cell_of_heap (o := 0) hI.s rfl)
    have e1 := extB_cell (cell_of_heap (o := 0) hI.n rfl)
    have HI := Lib.hid hI
    clear hm hv hxm hI hA
    by_cases hlt : m < v
    · have hle : m ≤ v := by omega
      gi_wp2
      refine wpIn_region_tailX 5 (by rfl) (by rintro ⟨_, _, hh⟩; exact hh) (by rfl) (by kernel_rfl) (by kernel_rfl) (by kernel_rfl) (by kernel_rfl) ?_
      simp only [List.take_succ_cons, List.take_zero, List.getD_cons_succ, List.getD_cons_zero, List.cons_append, List.nil_append, idle]
      repeat (go_big_quiet_step ((go_at_call 80; exact ext_call (H84.out _))))
      refine wpQuiet_nil ?_
      rintro _ ⟨x1, rfl⟩
      have hI2 := HI.out.kp (S := fun _ => False) (kpB_of_below (extB_below X x1)) (fun _ h => h.elim)
      have e2 := cell_of_heap (o := 0) hI2.n rfl
      have e3 := frozen_of_heap hI2.n
      have hkx : KpB (fun k => k = w.heap.size + 1) X.heap.size X (extB X x1) := kpB_of_below (extB_below X x1)
      obtain ⟨W8, hW8⟩ : ∃ W8, extB X x1 = W8 := ⟨_, rfl⟩
      rw [hW8] at hI2 e2 e3 hkx ⊢
      clear hW8 e0 e1
      go_simp
      refine ⟨hkx.set _ _ (.inl rfl), ?_⟩
      show MostI w b (maxL (liftS s) (pre ++ [x])) _
      rw [HN.out, Int.max_eq_right hle]
      exact most_set hI2 _
    · have hle : v ≤ m := by omega
      gi_wp2
      refine wpIn_region_tailX 5 (by rfl) (by rintro ⟨_, _, hh⟩; exact hh) (by rfl) (by kernel_rfl) (by kernel_rfl) (by kernel_rfl) (by kernel_rfl) ?_
      simp only [List.take_succ_cons, List.take_zero, List.getD_cons_succ, List.getD_cons_zero, List.cons_append, List.nil_append, idle]
      repeat (go_big_quiet_step ((go_at_call 80; exact ext_call (H84.out _))))
      refine wpQuiet_nil ?_
      rintro _ ⟨x1, rfl⟩
      have hI2 := HI.out.kp (S := fun _ => False) (kpB_of_below (extB_below X x1)) (fun _ h => h.elim)
      have e2 := cell_of_heap (o := 0) hI2.n rfl
      have e3 := frozen_of_heap hI2.n
      have hkx : KpB (fun k => k = w.heap.size + 1) X.heap.size X (extB X x1) := kpB_of_below (extB_below X x1)
      obtain ⟨W8, hW8⟩ : ∃ W8, extB X x1 = W8 := ⟨_, rfl⟩
      rw [hW8] at hI2 e2 e3 hkx ⊢
      clear hW8 e0 e1
      go_simp
      refine ⟨hkx.set _ _ (.inl rfl), ?_⟩
      show MostI w b (maxL (liftS s) (pre ++ [x])) _
      rw [HN.out, Int.max_eq_left hle]
      exact most_set hI2 _
  case hdone =>
    rintro X hX hI hk
    have e1 := cell_of_heap (o := 0) hI.n rfl
    have HB := Lib.hid hI.bl
    have HK := Lib.hid hk
    clear hI hk
    gi_wp2
    refine ⟨by simp, .inl ⟨_, _, rfl, run_takeDeferred HK.out, ?_⟩⟩
    refine ⟨.int .i64 (maxL (liftS s) (crewsR s.bs.length s.ps.length [])), by simp [results, Try.results74, go_sem], rfl, ?_⟩
    exact HB.out.trans (KpB.belowOf (S := fun k => k = W1.heap.size) ((KpB.refl _ _ _).put _ _ (.inl rfl)) HB.out.size (fun k hk => by omega))
  case hstop => exact fun _ _ _ _ _ h => h.elim
end Go.Proofs.Ytmbcpmnigggbaaa.Li
