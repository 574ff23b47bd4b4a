import Derived.Test.YtmbcpmnigggbaabGreatC9
import Derived.Test.YtmbcpmnigggbaabGreatUF
namespace Go.Proofs.YtmbcpmnigggbaabGreat.Cu
open Go.RowKit
attribute [local go_sem] Oper.semAt_some
theorem within_any (n lo hi : Int) (w : World) : Calls Tryz.prog 73 #[.int .i64 n, .int .i64 lo, .int .i64 hi] w fun e w' => e = .returned (.bool (inR n lo hi)) ∧ w = w' := by
  go_enter Tryz.func73, Tryz.ntmps73
  by_cases h1 : lo ≤ n
  · by_cases h2 : n ≤ hi
    · have hr : inR n lo hi = true := inR_true.2 ⟨h1, h2⟩
      rw [hr]
      go_wp2
      go_ret
      exact ⟨rfl, rfl⟩
    · have hr : inR n lo hi = false := inR_false.2 (by omega)
      rw [hr]
      go_wp2
      go_ret
      exact ⟨rfl, rfl⟩
  · have hr : inR n lo hi = false := inR_false.2 (by omega)
    rw [hr]
    go_wp2
    go_ret
    exact ⟨rfl, rfl⟩
theorem slice31all (W : World) (b : Nat) : (Instr.sliceAt 124 (.pointer (some ⟨b, 0, none⟩)) none none none).run Tryz.prog W = .ok (.slice (some ⟨b, 0, none⟩) 31 31) W := by
  have e : Tryz.prog.arrayLen 124 = 31 := by kernel_rfl
  have e3 : Tryz.prog.elem 124 = 3 := by kernel_rfl
  have es : (sizeOf (Tryz.prog.elem 124)).run Tryz.prog W = .ok 1 W := by
    obtain ⟨i0, hi, hz0, hz1, hz2⟩ := info_parts info3'
    rw [e3]
    simp [sizeOf, typeInfo, hi, hz1]
  rw [run_sliceAt_array_all W 124 ⟨b, 0, none⟩ (by rw [e, e3]; exact Tryz.underlying124), es, e]
  simp [slicedAt, Addr.add_mid]
/-- What the body of a round knows. -/
structure BI (w : World) (A : Option Addr) (n c gf : Nat) (lb : Array Value) (ps : List (List Int)) (all : Int) (d b9 : Nat) (of wl wh sl sh pe : Int) (o : Nat) (own : List Int) (X wr : World) : Prop where
  m : LM w A n c gf lb 0 ps wr
  a : wr.heap[d]? = some (.cells #[.int .i64 all] 3 (0, 0))
  b : wr.heap[b9]? = some (.cells #[.int .i64 of, .int .i64 wl, .int .i64 wh, .int .i64 sl, .int .i64 sh, .int .i64 pe] 34 (0, 0))
  ob : CB wr o own
  k : KpB (fun k => k = w.heap.size + 1 + 1 ∨ k = w.heap.size + 1 + 1 + 1 ∨ k = d) X.heap.size X wr
  hd : w.heap.size + 5 ≤ d
  h9 : d < b9
  ho : b9 < o
  hx : X.heap.size ≤ o
section
variable {w : World} {A : Option Addr} {n c gf : Nat} {lb : Array Value} {ps : List (List Int)} {all : Int} {d b9 : Nat} {of wl wh sl sh pe : Int} {o : Nat} {own : List Int} {X wr : World}
theorem BI.next (M : BI w A n c gf lb ps all d b9 of wl wh sl sh pe o own X wr) {wn : World} (hb : Below wr.heap.size wr wn) : BI w A n c gf lb ps all d b9 of wl wh sl sh pe o own X wn :=
  ⟨M.m.kp (S := fun _ => False) (kpB_of_below hb) (fun _ h => h.elim), (hb.block _ (heap_lt M.a)).trans M.a, (hb.block _ (heap_lt M.b)).trans M.b, M.ob.next hb, M.k.trans ((kpB_of_below hb).mono M.k.size fun _ _ h => h), M.hd, M.h9, M.ho, M.hx⟩
theorem BI.away (M : BI w A n c gf lb ps all d b9 of wl wh sl sh pe o own X wr) {z : Nat} (hz : o < z) (u : Nat) (v : Value) : BI w A n c gf lb ps all d b9 of wl wh sl sh pe o own X (wr.setCell ⟨z, u, none⟩ v) := by
  have hd := M.hd; have h9 := M.h9; have ho := M.ho; have hx := M.hx
  exact ⟨M.m.kp (S := fun k => k = z) ((KpB.refl _ _ _).set u v (.inl rfl)) (fun k h => by omega), (set_other_heap (heap_lt M.a) (by omega)).trans M.a, (set_other_heap (heap_lt M.b) (by omega)).trans M.b, M.ob.other (by omega), M.k.set u v (.inr (by omega)), M.hd, M.h9, M.ho, M.hx⟩
theorem BI.setO (M : BI w A n c gf lb ps all d b9 of wl wh sl sh pe o own X wr) (u : Nat) (v : Int) : BI w A n c gf lb ps all d b9 of wl wh sl sh pe o (own.set u v) X (wr.setCell ⟨o, u, none⟩ (.int .i64 v)) := by
  have hd := M.hd; have h9 := M.h9; have ho := M.ho; have hx := M.hx
  exact ⟨M.m.kp (S := fun k => k = o) ((KpB.refl _ _ _).set u _ (.inl rfl)) (fun k h => by omega), (set_other_heap (heap_lt M.a) (by omega)).trans M.a, (set_other_heap (heap_lt M.b) (by omega)).trans M.b, M.ob.set u v, M.k.set u _ (.inr (by omega)), M.hd, M.h9, M.ho, M.hx⟩
theorem setCells_kpB {S : Nat → Prop} {n0 z : Nat} {w0 W : World} (h : KpB S n0 w0 W) (hz : S z ∨ n0 ≤ z) : ∀ (vs : List Value) (u : Nat), KpB S n0 w0 (W.setCells z u vs) := by
  intro vs
  induction vs generalizing W with
  | nil => intro u; exact h
  | cons v vs ih => intro u; rw [World.setCells]; exact ih (h.set u v hz) (u + 1)
theorem BI.putO (M : BI w A n c gf lb ps all d b9 of wl wh sl sh pe o own X wr) {l : List Int} (hl : l.length = own.length) : BI w A n c gf lb ps all d b9 of wl wh sl sh pe o l X (wr.setCells o 0 (vals l)) := by
  have hd := M.hd; have h9 := M.h9; have ho := M.ho; have hx := M.hx
  exact ⟨M.m.kp (S := fun k => k = o) (setCells_kpB (S := fun k => k = o) (KpB.refl _ _ _) (.inl rfl) _ _) (fun k h => by omega), (setCells_other _ _ (by omega) _ _ _ (heap_lt M.a)).trans M.a, (setCells_other _ _ (by omega) _ _ _ (heap_lt M.b)).trans M.b, M.ob.put hl, setCells_kpB M.k (.inr (by omega)) _ _, M.hd, M.h9, M.ho, M.hx⟩
/-- The pieces of another part are stored. -/
theorem BI.putP (M : BI w A n c gf lb ps all d b9 of wl wh sl sh pe o own X wr) {j : Nat} {q q' : List Int} (hq : ps[j]? = some q) (hl : q'.length = 31) : KpB (fun k => k = w.heap.size + 1 + 1 ∨ k = w.heap.size + 1 + 1 + 1 ∨ k = d) X.heap.size X (wr.setCells (w.heap.size + 1 + 1 + 1) (j * 31) (vals q')) ∧ LM w A n c gf lb 0 (ps.set j q') (wr.setCells (w.heap.size + 1 + 1 + 1) (j * 31) (vals q')) ∧ (wr.setCells (w.heap.size + 1 + 1 + 1) (j * 31) (vals q')).heap[d]? = some (.cells #[.int .i64 all] 3 (0, 0)) := by
  have hd := M.hd
  exact ⟨setCells_kpB M.k (.inl (.inr (.inl rfl))) _ _, M.m.put hq hl, (setCells_other _ _ (by omega) _ _ _ (heap_lt M.a)).trans M.a⟩
theorem BI.setA (M : BI w A n c gf lb ps all d b9 of wl wh sl sh pe o own X wr) (v : Int) : KpB (fun k => k = w.heap.size + 1 + 1 ∨ k = w.heap.size + 1 + 1 + 1 ∨ k = d) X.heap.size X (wr.setCell ⟨d, 0, none⟩ (.int .i64 v)) ∧ LM w A n c gf lb 0 ps (wr.setCell ⟨d, 0, none⟩ (.int .i64 v)) ∧ (wr.setCell ⟨d, 0, none⟩ (.int .i64 v)).heap[d]? = some (.cells #[.int .i64 v] 3 (0, 0)) := by
  have hd := M.hd
  exact ⟨M.k.set _ _ (.inl (.inr (.inr rfl))), M.m.kp (S := fun k => k = d) ((KpB.refl _ _ _).set 0 _ (.inl rfl)) (fun k h => by omega), heap_set _ M.a⟩
theorem BI.setR (M : BI w A n c gf lb ps all d b9 of wl wh sl sh pe o own X wr) (v : Int) : KpB (fun k => k = w.heap.size + 1 + 1 ∨ k = w.heap.size + 1 + 1 + 1 ∨ k = d) X.heap.size X (wr.setCell ⟨w.heap.size + 1 + 1, 0, none⟩ (.int .i64 v)) ∧ LM w A n c gf lb v ps (wr.setCell ⟨w.heap.size + 1 + 1, 0, none⟩ (.int .i64 v)) :=
  ⟨M.k.set _ _ (.inl (.inl rfl)), M.m.setR v⟩
end
set_option maxRecDepth 100000 in
set_option maxHeartbeats 4000000 in
theorem least_any (A : Option Addr) (c : Nat) (t : List CP) (hl : t.length ≤ 8) (gf : Nat) (lb : Array Value) (cost : Nat → Nat → Int) (w : World) (hT : TableAt w w.heap.size A t) (eg : ∀ args w, (callFunc gf args).run Tryz.prog w = .ok (.enter gf args) w)
    (hf : ∀ (i v : Nat) (X : World), i < t.length → v < 31 → Below w.heap.size w X → Calls Tryz.prog gf (#[.int .i64 i, .int .i64 v] ++ lb) X fun e X' => e = .returned (.int .i64 (cost i v)) ∧ Below X.heap.size X X')
    (hb : ∀ i v, cost i v = far ∨ (-3000 ≤ cost i v ∧ cost i v ≤ 3000)) (ho : ∀ (i : Nat) p, t[i]? = some p → p.of = -1 ∨ (0 ≤ p.of ∧ p.of < i)) :
    Calls Tryz.prog 75 #[.slice A t.length c, .func (.func gf) #[] lb] w fun e w' => e = .returned (.int .i64 (leastF t cost)) ∧ Below w.heap.size w w' := by
  have HT := Lib.hid hT
  have HF := Lib.hid hf
  have HB := Lib.hid hb
  have HO := Lib.hid ho
  clear hT hf hb ho
  refine (callsIn_wide (n := 10)).1 ?_
  refine callsIn_of_wp_marks Tryz.func75 rfl trivial ?_ rfl
  simp only [Tryz.ntmps75, List.size_toArray, List.length_cons, List.length_nil, Nat.reduceAdd, Nat.reduceSub, Array.replicate_succ, Array.replicate_zero, List.push_toArray, List.append_toArray, List.nil_append, List.cons_append]
  gi_wp2_with (refine wplIn_make224 rfl (.tmp 17) rfl t.length rfl (by omega) ?_)
  have hI := LM.new w A t.length c gf lb
  rw [fillP_zero] at hI
  obtain ⟨W1, hW1⟩ : ∃ W1, ((((w.alloc (.cells #[.slice A t.length c] 72)).alloc (.cells #[.func (.func gf) #[] lb] 108)).alloc (.cells #[.int .i64 0] 3)).alloc (.cells (vals (fillP t.length 0).flatten).toArray 124)).alloc (.cells #[.slice (some ⟨w.heap.size + 1 + 1 + 1, 0, none⟩) t.length t.length] 122) = W1 := ⟨_, rfl⟩
  rw [fillP_zero]
  rw [hW1] at hI ⊢
  have HI := Lib.hid hI
  clear hW1 hI
  gi_loopw [21] (fun i wr => ∃ k : Nat, k ≤ t.length ∧ i = .int .i64 k ∧ Hid (LM w A t.length c gf lb 0 (fillP t.length k) wr)) (fun i _ => t.length - (intOf i).toNat)
  case atStart => exact ⟨0, Nat.zero_le _, rfl, HI⟩
  case round =>
    clear HI
    obtain ⟨k, hk, rfl, HI⟩ := hrel
    have e4 := extB_cell (cell_of_heap (o := 0) HI.out.s rfl)
    by_cases hlt : k < t.length
    · have HN := Lib.hid (fun x => nothing_any (extB wr x))
      gi_wp2_with (fail)
      refine wpIn_wide.2 ?_
      refine wp_region_tailC 4 (by rfl) (by kernel_rfl) (by kernel_rfl) (by kernel_rfl) (by kernel_rfl) ?_
      simp only [List.take_succ_cons, List.take_zero, List.getD_cons_succ, List.getD_cons_zero, List.cons_append, List.nil_append, Li.idle]
      repeat (go_big_quiet_step ((go_at_call 89; exact ext_call (HN.out _))))
      refine wpQuiet_nil ?_
      rintro _ ⟨x1, rfl⟩
      have hI2 := HI.out.kp (S := fun _ => False) (kpB_of_below (extB_below wr x1)) (fun _ h => h.elim)
      obtain ⟨W8, hW8⟩ : ∃ W8, extB wr x1 = W8 := ⟨_, rfl⟩
      rw [hW8] at hI2 ⊢
      clear hW8 e4
      refine wp_storeO (.tmp 27) (.tmp 26) rfl (w.heap.size + 1 + 1 + 1) (k * 31) (by rfl) nothingL nothingL_len (by rfl) (hI2.p.there (fillP_at hlt)) ?_
      have hI3 := hI2.put (fillP_at hlt) nothingL_len
      rw [fillP_next hlt] at hI3
      obtain ⟨W9, hW9⟩ : ∃ W9, W8.setCells (w.heap.size + 1 + 1 + 1) (k * 31) (vals nothingL) = W9 := ⟨_, rfl⟩
      rw [hW9] at hI3 ⊢
      clear hW9
      gi_wp2_with (fail)
      go_roundw
      case rel => exact ⟨k + 1, by omega, by go_num, Lib.hid hI3⟩
      case measure => simp [intOf]; omega
    · obtain rfl : k = t.length := by omega
      clear hlt hk
      rw [fillP_all] at HI
      have hq := HI.out.lt
      have e0 := below_cell (al_below wr (.cells #[.int .i64 0] 3)) (cell_of_heap (o := 0) HI.out.t rfl)
      have HB0 := Lib.hid (fun x => back_any A c t.length x)
      gi_wp2_with (refine ⟨trivial, ?_⟩; gi_at_call 90; refine (CallsIn.mono (callsIn_wide.2 (HB0.out _)) ?_); rintro e W5 ⟨rfl, rfl⟩)
      have hbX := hb0to (al_below wr (.cells #[.int .i64 0] 3)) (al_below _ (.cells #[.slice A t.length c] 72))
      have hm1 := HI.out.kp (S := fun _ => False) (kpB_of_below hbX) (fun _ h => h.elim)
      have ha1 := heap_keep (o' := .cells #[.slice A t.length c] 72) (heap_new1 wr (.cells #[.int .i64 0] 3))
      have hg1 := heap_new2 wr (.cells #[.int .i64 0] 3) (.cells #[.slice A t.length c] 72)
      have hz1 : ((wr.alloc (.cells #[.int .i64 0] 3)).alloc (.cells #[.slice A t.length c] 72)).heap.size = wr.heap.size + 1 + 1 := by simp
      obtain ⟨W1, hW1⟩ : ∃ W1, (wr.alloc (.cells #[.int .i64 0] 3)).alloc (.cells #[.slice A t.length c] 72) = W1 := ⟨_, rfl⟩
      rw [hW1] at hm1 ha1 hg1 hz1 ⊢
      obtain ⟨d, hd⟩ : ∃ d, wr.heap.size = d := ⟨_, rfl⟩
      rw [hd] at ha1 hg1 hz1 hq ⊢
      have HM1 := Lib.hid hm1
      have HA1 := Lib.hid ha1
      have HG1 := Lib.hid hg1
      clear e0 e4 hbX hm1 ha1 hg1 hW1 HI HB0 hd
      refine wpIn_rangeFunc_makes (S := fun k => k = w.heap.size + 1 + 1 ∨ k = w.heap.size + 1 + 1 + 1 ∨ k = d) (Sees := SeesB) (fb := #[]) (lb := #[.pointer (some ⟨d + 1, 0, none⟩)]) (xs := backL t) (w0 := W1) rfl (by omega) rfl trivial (fun _ _ => rfl)
        (back_makes 9 A c t (by omega) (d + 1) w W1 HT.out HG1.out HM1.out.bl _ (by omega) (fun k hk => by omega)) (Below.refl _ _) (fun k hk => by omega)
        (fun B x args X hs => by cases hs; rfl) (fun B x args X Y _ hs hk => hs)
        (fun pre X => ∃ ps all, runC t cost pre.length = some (ps, all) ∧ LM w A t.length c gf lb 0 ps X ∧ X.heap[d]? = some (.cells #[.int .i64 all] 3 (0, 0)))
        (fun e pre X => e = .ret ∧ runC t cost pre.length = none ∧ ∃ ps, LM w A t.length c gf lb far ps X)
        ?hI ?hIx ?h0 (fun x args a' X => ∃ b9, W1.heap.size + 2 ≤ b9 ∧ X.heap[b9]? = some (.cells #[.int .i64 x.1.of, .int .i64 x.1.wl, .int .i64 x.1.wh, .int .i64 x.1.sl, .int .i64 x.1.sh, .int .i64 x.1.pe] 34 (0, 0)) ∧ a' = { tmps := #[.slice A t.length c, .func (.func gf) #[] lb, .pointer (some ⟨w.heap.size, 0, none⟩), .pointer (some ⟨w.heap.size + 1, 0, none⟩), .pointer (some ⟨w.heap.size + 1 + 1, 0, none⟩), .pointer (some ⟨w.heap.size + 1 + 1 + 1 + 1, 0, none⟩), u6, .pointer (some ⟨d, 0, none⟩), args.getD 0 undef, .pointer (some ⟨b9, 0, none⟩), undef, undef, undef, undef, undef, undef, .slice A t.length c, .int .i64 t.length, .slice (some ⟨w.heap.size + 1 + 1 + 1, 0, none⟩) t.length t.length, .slice (some ⟨w.heap.size + 1 + 1 + 1, 0, none⟩) t.length t.length, .int .i64 t.length, .int .i64 t.length, .bool false, u23, u24, u25, u26, u27, u28, .slice A t.length c, .func (.func 101) #[] #[.pointer (some ⟨d + 1, 0, none⟩)], args.getD 0 undef, args.getD 1 undef, undef, undef, undef, undef, undef, undef, undef, undef, undef, undef, undef, undef, undef, undef, undef, undef, undef, undef, undef, undef, undef, undef, undef, undef, undef, undef, undef, undef, undef, undef, undef, undef, undef, undef, undef, undef, undef, undef, undef, undef, undef, undef, undef, undef, undef, undef, undef, undef, undef, undef, undef, undef, undef, undef, undef, undef, undef, undef, undef, undef, undef, undef, undef, undef, undef, undef, undef, undef, undef, undef, undef], defers := [] }) ?hAx ?hassign ?hbody ?hdone ?hstop
      case hI =>
        rintro s X Y hX ⟨ps, all, h1, h2, h3⟩ hk
        exact ⟨ps, all, h1, h2.kp hk (fun k hs => by have := hs.1; omega), (hk.block _ (heap_lt h3) (fun hs => by have := hs.1; omega)).trans h3⟩
      case hIx =>
        rintro e s X Y hX ⟨h0, h1, ps, h2⟩ hk
        exact ⟨h0, h1, ps, h2.kp hk (fun k hs => by have := hs.1; omega)⟩
      case h0 =>
        intro X hX hb
        exact ⟨_, _, rfl, HM1.out.kp (S := fun _ => False) (kpB_of_below hb) (fun _ h => h.elim), (hb.block _ (heap_lt HA1.out)).trans HA1.out⟩
      case hAx =>
        rintro x args a' X Y hz ⟨b9, h1, h2, h3⟩ hk
        exact ⟨b9, h1, (hk.block _ (heap_lt h2) (fun hs => by have hs' : b9 < W1.heap.size + 2 := hs; omega)).trans h2, h3⟩
      case hassign =>
        intro l' x args X K hz hs hK
        cases hs
        have hK' := hK _ (X.alloc (.cells #[.int .i64 x.1.of, .int .i64 x.1.wl, .int .i64 x.1.wh, .int .i64 x.1.sl, .int .i64 x.1.sh, .int .i64 x.1.pe] 34)) (.inr ⟨_, rfl⟩) ⟨X.heap.size, by omega, World.alloc_heap_new X _, rfl⟩
        clear hK
        simp only [List.zip_toArray, List.zip_cons_cons, List.zip_nil_right, List.foldl_toArray, List.foldl_cons, List.foldl_nil, List.setIfInBounds_toArray, List.set_cons_succ, List.set_cons_zero]
        gi_wp2_with (fail)
        exact hK'
      case hbody =>
        rintro l' pre ⟨⟨of, wl, wh, sl, sh, pe⟩, i⟩ args a' X hX hpre ⟨ps, all, hrun, hm, ha⟩ hsee ⟨b9, hb9, hB9, rfl⟩
        cases hsee
        obtain ⟨hkl, hi, hp⟩ := back_pre_at hpre
        simp only at hi hp hB9
        have hrn := run_next t cost hp
        rw [← hi] at hp hrn
        rw [hrun] at hrn
        have hlen : (pre ++ [((⟨of, wl, wh, sl, sh, pe⟩ : CP), i)]).length = pre.length + 1 := by simp
        rw [← hlen] at hrn
        have hilt : i < t.length := by omega
        have hcf := HO.out i _ hp
        simp only at hcf
        obtain ⟨hps, hfin, hal1, hal2⟩ := run_fin HB.out pre.length ps all (by omega) hrun
        have hbn0 := bndC_nonneg pre.length
        have hbn8 := bndC_le pre.length (by omega)
        have hal3 : -8000000 ≤ all := by omega
        have hal4 : all ≤ 8000000 := by omega
        generalize bndC pre.length = bn at hfin hbn0 hbn8
        obtain ⟨pc, hpc⟩ : ∃ pc, ps[i]? = some pc := ⟨_, List.getElem?_eq_getElem (by omega)⟩
        have hpcF := hfin pc (List.mem_of_getElem? hpc)
        have hgd : ps.getD i [] = pc := by rw [List.getD_eq_getElem?_getD, hpc]; rfl
        have hbase := base_fin hbn0 (by unfold far; omega) t i ⟨of, wl, wh, sl, sh, pe⟩ hpcF
        have hown := own_fin hbase (HB.out i)
        have hcost := HB.out i
        simp only [stepC, hgd] at hrn
        have M := Lib.hid (show BI w A t.length c gf lb ps all d b9 of wl wh sl sh pe X.heap.size (List.replicate 31 0) X (X.alloc (.cells #[.int .i64 0, .int .i64 0, .int .i64 0, .int .i64 0, .int .i64 0, .int .i64 0, .int .i64 0, .int .i64 0, .int .i64 0, .int .i64 0, .int .i64 0, .int .i64 0, .int .i64 0, .int .i64 0, .int .i64 0, .int .i64 0, .int .i64 0, .int .i64 0, .int .i64 0, .int .i64 0, .int .i64 0, .int .i64 0, .int .i64 0, .int .i64 0, .int .i64 0, .int .i64 0, .int .i64 0, .int .i64 0, .int .i64 0, .int .i64 0, .int .i64 0] 124)) from ⟨hm.kp (S := fun _ => False) (kpB_of_below (al_below X _)) (fun _ h => h.elim), heap_keep ha, heap_keep hB9, CB.zero X, (KpB.refl _ _ _).alloc _ (Nat.le_refl _), by omega, by omega, heap_lt hB9, Nat.le_refl _⟩)
        have HC := Lib.hid (canCut_any A c t (by omega) i _ (HT.out.lt M.out.m.bl))
        have e0 := cell_of_heap (o := 0) M.out.m.t rfl
        have HRN := Lib.hid hrn
        have HPC := Lib.hid hpc
        have HPF := Lib.hid hpcF
        have HOW := Lib.hid hown
        have HBA := Lib.hid hbase
        have HCO := Lib.hid hcost
        have HFI := Lib.hid hfin
        have HCF := Lib.hid hcf
        have hXo : b9 < X.heap.size := heap_lt hB9
        obtain ⟨o, ho⟩ : ∃ o, X.heap.size = o := ⟨_, rfl⟩
        clear hrn hpc hpcF hown hbase hcost hfin hrun hm ha hB9 hlen hgd hcf hp hpre hi HA1 HM1 HG1
        cases hcc : canCut t i
        · rw [hcc] at HC
          gi_wp2_with (refine ⟨trivial, ?_⟩; gi_at_call 54; refine (CallsIn.mono (CallsIn.inRound l' (callsIn_wide.2 HC.out)) ?_); rintro e W5 ⟨rfl, hb5⟩; have M5 := Lib.hid (M.out.next hb5); have MN := M5; clear M e0 hb5 HC; have M := MN; clear MN M5)
          rw [ho] at M
          have HBE := Lib.hid (show baseL t i ⟨of, wl, wh, sl, sh, pe⟩ pc = List.replicate 31 0 by unfold baseL; rw [hcc]; rfl)
          obtain ⟨base, hbe⟩ : ∃ base, baseL t i ⟨of, wl, wh, sl, sh, pe⟩ pc = base := ⟨_, rfl⟩
          rw [← HBE.out, hbe] at M
          rw [hbe] at HRN HOW HBA
          clear HBE hbe
          gi_loopw [58] (fun iv wr => ∃ k : Nat, k ≤ 31 ∧ iv = .int .i64 k ∧ Hid (BI w A t.length c gf lb ps all d b9 of wl wh sl sh pe o (mixTo (ownL (cost i) base) base k) X wr)) (fun iv _ => 31 - (intOf iv).toNat)
          case atStart => exact ⟨0, Nat.zero_le _, rfl, by rw [mixTo_zero]; exact M⟩
          case round =>
            clear M
            obtain ⟨k, hk, rfl, M⟩ := hrel
            by_cases hlt : k < 31
            · have hd1 : decide ((k : Int) < 31) = true := decide_eq_true (by omega)
              have hki : (k : Int) < 31 := by omega
              have f1 := cell_of_heap (o := 0) M.out.m.f rfl
              have HC := Lib.hid (HF.out i k wr hilt hlt M.out.m.bl)
              have hv := HCO.out k
              have hy := cat_fin HBA.out k
              have hx := ownL_at (cost i) base hlt
              have hmx : (mixTo (ownL (cost i) base) base k)[k]? = some (cat base k) := by rw [mixTo_at (by rw [ownL_len]; exact hlt) (by rw [ownL_len]; exact HBA.out.1), cat_at (by rw [HBA.out.1]; exact hlt)]
              obtain ⟨y, hye⟩ : ∃ y, cat base k = y := ⟨_, rfl⟩
              obtain ⟨v, hve⟩ : ∃ v, cost i k = v := ⟨_, rfl⟩
              rw [hye] at hy hx hmx
              rw [hve] at hv hx HC
              have HX := Lib.hid hx
              have HMX := Lib.hid hmx
              clear hx hmx hye hve
              have hml : base.length = (ownL (cost i) base).length := by rw [ownL_len]; exact HBA.out.1
              have HML := Lib.hid hml
              clear hml
              by_cases hvf : v < far
              · have hvf' : v < 1099511627776 := hvf
                by_cases hyf : y < far
                · have hyf' : y < 1099511627776 := hyf
                  have hw : IntKind.i64.wrap (y + v) = y + v := IntWalk.i64_in _ (by unfold far at *; omega)
                  gi_wp2_with (refine ⟨trivial, ?_⟩; refine (CallsIn.mono (CallsIn.inRound l' (callsIn_wide.2 HC.out)) ?_); rintro e W5 ⟨rfl, hb5⟩; have M5 := Lib.hid (M.out.next hb5); have g1 := M5.out.ob.cell HMX.out; have g2 := M5.out.ob.frozen k; clear hb5)
                  go_roundw
                  case rel => exact ⟨k + 1, by omega, by go_num, Lib.hid (by have := M5.out.setO k (y + v); rwa [mixTo_set (by rw [HX.out, if_pos ⟨hvf, hyf⟩]) HML.out] at this)⟩
                  case measure => simp [intOf]; omega
                · have hyf' : ¬ y < 1099511627776 := hyf
                  gi_wp2_with (refine ⟨trivial, ?_⟩; refine (CallsIn.mono (CallsIn.inRound l' (callsIn_wide.2 HC.out)) ?_); rintro e W5 ⟨rfl, hb5⟩; have M5 := Lib.hid (M.out.next hb5); have g1 := M5.out.ob.cell HMX.out; have g2 := M5.out.ob.frozen k; clear hb5)
                  go_roundw
                  case rel => exact ⟨k + 1, by omega, by go_num, Lib.hid (by have := M5.out.setO k far; rwa [mixTo_set (by rw [HX.out, if_neg (fun h => by omega)]) HML.out] at this)⟩
                  case measure => simp [intOf]; omega
              · have hvf' : ¬ v < 1099511627776 := hvf
                gi_wp2_with (refine ⟨trivial, ?_⟩; refine (CallsIn.mono (CallsIn.inRound l' (callsIn_wide.2 HC.out)) ?_); rintro e W5 ⟨rfl, hb5⟩; have M5 := Lib.hid (M.out.next hb5); have g1 := M5.out.ob.cell HMX.out; have g2 := M5.out.ob.frozen k; clear hb5)
                go_roundw
                case rel => exact ⟨k + 1, by omega, by go_num, Lib.hid (by have := M5.out.setO k far; rwa [mixTo_set (by rw [HX.out, if_neg (fun h => by omega)]) HML.out] at this)⟩
                case measure => simp [intOf]; omega
            · obtain rfl : k = 31 := by omega
              rw [mixTo_all (ownL_len _ _) HBA.out.1] at M
              clear hlt hk
              obtain ⟨own, hoe⟩ : ∃ own, ownL (cost i) base = own := ⟨_, rfl⟩
              rw [hoe] at M HRN HOW
              clear hoe
              by_cases hof : of = -1
              · subst hof
                have hmf := min_fin HOW.out
                have HR2 := Lib.hid (show runC t cost _ = if far ≤ minL own then none else some (ps, all + minL own) from HRN.out.trans (if_neg (fun h => h rfl)))
                have f5 := cell_of_heap (o := 0) M.out.b rfl
                have e31 := slice31all wr o
                have HC := Lib.hid (min_any o own HOW.out.1 wr M.out.ob)
                have fd := cell_of_heap (o := 0) M.out.a rfl
                have fdz := frozen_of_heap M.out.a
                have fr := cell_of_heap (o := 0) M.out.m.r rfl
                have frz := frozen_of_heap M.out.m.r
                obtain ⟨m, hme⟩ : ∃ m, minL own = m := ⟨_, rfl⟩
                rw [hme] at hmf HR2 HC
                clear hme HRN
                by_cases hfm : far ≤ m
                · have hfm' : (1099511627776 : Int) ≤ m := hfm
                  gi_wp2_with (refine ⟨trivial, ?_⟩; gi_at_call 92; refine (CallsIn.mono (CallsIn.inRound l' (callsIn_wide.2 HC.out)) ?_); rintro e W5 ⟨rfl, rfl⟩)
                  obtain ⟨q1, q2⟩ := M.out.setR far
                  exact ⟨q1, rfl, HR2.out.trans (if_pos hfm), ps, q2⟩
                · have hfm' : ¬ (1099511627776 : Int) ≤ m := hfm
                  have hw : IntKind.i64.wrap (all + m) = all + m := IntWalk.i64_in _ (by unfold far at *; omega)
                  gi_wp2_with (refine ⟨trivial, ?_⟩; gi_at_call 92; refine (CallsIn.mono (CallsIn.inRound l' (callsIn_wide.2 HC.out)) ?_); rintro e W5 ⟨rfl, rfl⟩)
                  obtain ⟨q1, q2, q3⟩ := M.out.setA (all + m)
                  exact ⟨q1, ps, all + m, HR2.out.trans (if_neg (show ¬ far ≤ m by omega)), q2, q3⟩
              · obtain ⟨j, rfl⟩ : ∃ j : Nat, of = (j : Int) := ⟨of.toNat, by have := HCF.out; omega⟩
                have hji : j < i := by have := HCF.out; omega
                obtain ⟨pj, hpj⟩ : ∃ pj, ps[j]? = some pj := ⟨_, List.getElem?_eq_getElem (by omega)⟩
                have hpjF := HFI.out pj (List.mem_of_getElem? hpj)
                have HR2 := Lib.hid (show runC t cost _ = some (ps.set j (plusL pj own), all) from HRN.out.trans ((if_pos hof).trans (by rw [Int.toNat_natCast, List.getD_eq_getElem?_getD, hpj]; rfl)))
                have f5 := cell_of_heap (o := 0) M.out.b rfl
                have e4 := extB_cell (cell_of_heap (o := 0) M.out.m.s rfl)
                have e5 := extB_cell (cell_of_heap (o := 0) M.out.b rfl)
                have HC := Lib.hid (fun x => plus_any pj own bn (bn + 3000) hpjF HOW.out (by unfold far; omega) (extB wr x))
                have HPJ := Lib.hid hpj
                have HPL := Lib.hid hpjF.1
                have hd7 : decide ((j : Int) = -1) = false := decide_eq_false hof
                clear hpjF hpj HRN
                gi_wp2_with (fail)
                refine wpIn_region_tailC 11 (by rfl) (by rintro ⟨_, _, hh⟩; exact hh) (by rfl) (by kernel_rfl) (by kernel_rfl) (by kernel_rfl) (by kernel_rfl) ?_
                simp only [List.take_succ_cons, List.take_zero, List.getD_cons_succ, List.getD_cons_zero, List.cons_append, List.nil_append, Li.idle]
                repeat (first
                  | (refine wpQuiet_loadO rfl (.tmp 91) rfl (w.heap.size + 1 + 1 + 1) (j * 31) (by rfl) pj HPL.out (M.out.m.p.range HPJ.out) ?_; simp only [Act.put, List.setIfInBounds_toArray, List.set_cons_succ, List.set_cons_zero])
                  | (refine wpQuiet_loadO rfl (.tmp 10) rfl o 0 (by rfl) own HOW.out.1 M.out.ob.range ?_; simp only [Act.put, List.setIfInBounds_toArray, List.set_cons_succ, List.set_cons_zero])
                  | go_big_quiet_step ((go_at_call 91; exact ext_call (HC.out _))))
                refine wpQuiet_nil ?_
                rintro _ ⟨x1, rfl⟩
                have M8 := M.out.next (extB_below wr x1)
                obtain ⟨W8, hW8⟩ : ∃ W8, extB wr x1 = W8 := ⟨_, rfl⟩
                rw [hW8] at M8 ⊢
                clear hW8 e4 e5
                refine wp_storeO (.tmp 95) (.tmp 94) rfl (w.heap.size + 1 + 1 + 1) (j * 31) (by rfl) (plusL pj own) (plusL_len _ _) (by rfl) (M8.m.p.there HPJ.out) ?_
                obtain ⟨q1, q2, q3⟩ := M8.putP HPJ.out (plusL_len pj own)
                obtain ⟨W9, hW9⟩ : ∃ W9, W8.setCells (w.heap.size + 1 + 1 + 1) (j * 31) (vals (plusL pj own)) = W9 := ⟨_, rfl⟩
                rw [hW9] at q1 q2 q3 ⊢
                clear hW9
                gi_wp2_with (fail)
                exact ⟨q1, _, all, HR2.out, q2, q3⟩
        · rw [hcc] at HC
          gi_wp2_with (refine ⟨trivial, ?_⟩; gi_at_call 54; refine (CallsIn.mono (CallsIn.inRound l' (callsIn_wide.2 HC.out)) ?_); rintro e W5 ⟨rfl, hb5⟩; have M5 := Lib.hid (M.out.next hb5); have MN := M5; clear M e0 hb5 HC; have M := MN; clear MN M5)
          rw [ho] at M
          have hC6 := CB.zero W5
          have M6 := M.out.next (al_below W5 (.cells #[.int .i64 0, .int .i64 0, .int .i64 0, .int .i64 0, .int .i64 0, .int .i64 0, .int .i64 0, .int .i64 0, .int .i64 0, .int .i64 0, .int .i64 0, .int .i64 0, .int .i64 0, .int .i64 0, .int .i64 0, .int .i64 0, .int .i64 0, .int .i64 0, .int .i64 0, .int .i64 0, .int .i64 0, .int .i64 0, .int .i64 0, .int .i64 0, .int .i64 0, .int .i64 0, .int .i64 0, .int .i64 0, .int .i64 0, .int .i64 0, .int .i64 0] 124))
          have hoo2 : o < W5.heap.size := M.out.ob.lt
          obtain ⟨W6, hW6⟩ : ∃ W6, W5.alloc (.cells #[.int .i64 0, .int .i64 0, .int .i64 0, .int .i64 0, .int .i64 0, .int .i64 0, .int .i64 0, .int .i64 0, .int .i64 0, .int .i64 0, .int .i64 0, .int .i64 0, .int .i64 0, .int .i64 0, .int .i64 0, .int .i64 0, .int .i64 0, .int .i64 0, .int .i64 0, .int .i64 0, .int .i64 0, .int .i64 0, .int .i64 0, .int .i64 0, .int .i64 0, .int .i64 0, .int .i64 0, .int .i64 0, .int .i64 0, .int .i64 0, .int .i64 0] 124) = W6 := ⟨_, rfl⟩
          rw [hW6] at M6 hC6 ⊢
          obtain ⟨o2, ho2⟩ : ∃ o2, W5.heap.size = o2 := ⟨_, rfl⟩
          rw [ho2] at hC6 hoo2 ⊢
          have MN := Lib.hid M6
          have HC2 := Lib.hid hC6
          clear M M6 hC6 hW6 ho2
          have M := MN
          clear MN
          gi_loopw [36] (fun iv wr => ∃ k : Nat, k ≤ 31 ∧ iv = .int .i64 k ∧ Hid (BI w A t.length c gf lb ps all d b9 of wl wh sl sh pe o (List.replicate 31 0) X wr) ∧ Hid (CB wr o2 (mixTo (lostL ⟨of, wl, wh, sl, sh, pe⟩) (List.replicate 31 0) k))) (fun iv _ => 31 - (intOf iv).toNat)
          case atStart => exact ⟨0, Nat.zero_le _, rfl, M, by rw [mixTo_zero]; exact HC2⟩
          case round =>
            clear M HC2
            obtain ⟨k, hk, rfl, M, HC2⟩ := hrel
            by_cases hlt : k < 31
            · have hd1 : decide ((k : Int) < 31) = true := decide_eq_true (by omega)
              have hki : (k : Int) < 31 := by omega
              have hz31 : (List.replicate 31 (0 : Int)).length = (lostL ⟨of, wl, wh, sl, sh, pe⟩).length := by rw [lostL_len, List.length_replicate]
              have hmx : (mixTo (lostL ⟨of, wl, wh, sl, sh, pe⟩) (List.replicate 31 0) k)[k]? = some 0 := by rw [mixTo_at (by rw [lostL_len]; exact hlt) hz31]; exact List.getElem?_replicate_of_lt hlt
              have hmk : k < (mixTo (lostL ⟨of, wl, wh, sl, sh, pe⟩) (List.replicate 31 0) k).length := (List.getElem?_eq_some_iff.1 hmx).1
              have HX := Lib.hid (lostL_at ⟨of, wl, wh, sl, sh, pe⟩ hlt)
              have HZ31 := Lib.hid hz31
              have g1 := HC2.out.cell hmx
              have g2 := HC2.out.frozen k
              have M2 := M.out.away hoo2 k (.int .i64 1099511627776)
              have c2 := HC2.out.set k 1099511627776
              have f6 := cell_of_heap (o := 3) M2.b rfl
              have f7 := cell_of_heap (o := 4) M2.b rfl
              have g3 := c2.cell (List.getElem?_set_self hmk)
              have g4 := c2.frozen k
              have HW := Lib.hid (within_any k sl sh (wr.setCell ⟨o2, k, none⟩ (.int .i64 1099511627776)))
              have c3 := c2.set k 0
              rw [List.set_set] at c3
              have HC3 := Lib.hid c3
              have HCC := Lib.hid c2
              have HM2 := Lib.hid M2
              clear hmx hmk hz31 c3 c2 M2
              cases hr : inR k sl sh
              · rw [hr] at HW
                have hr' := inR_false.1 hr
                clear hr
                gi_wp2_with (refine ⟨trivial, ?_⟩; gi_at_call 73; refine (CallsIn.mono (CallsIn.inRound l' (callsIn_wide.2 HW.out)) ?_); rintro e W7 ⟨rfl, rfl⟩)
                go_roundw
                case rel => exact ⟨k + 1, by omega, by go_num, HM2, Lib.hid (by rw [← mixTo_set (by rw [HX.out, if_neg hr']) HZ31.out]; exact HCC.out)⟩
                case measure => simp [intOf]; omega
              · rw [hr] at HW
                have hr' := inR_true.1 hr
                clear hr
                gi_wp2_with (refine ⟨trivial, ?_⟩; gi_at_call 73; refine (CallsIn.mono (CallsIn.inRound l' (callsIn_wide.2 HW.out)) ?_); rintro e W7 ⟨rfl, rfl⟩)
                go_roundw
                case rel => exact ⟨k + 1, by omega, by go_num, Lib.hid (HM2.out.away hoo2 k (.int .i64 0)), Lib.hid (by rw [← mixTo_set (by rw [HX.out, if_pos hr']) HZ31.out]; exact HC3.out)⟩
                case measure => simp [intOf]; omega
            · obtain rfl : k = 31 := by omega
              rw [mixTo_all (lostL_len _) List.length_replicate] at HC2
              clear hlt hk
              have e4 := extB_cell (cell_of_heap (o := 0) M.out.m.s rfl)
              have HC := Lib.hid (fun x => plus_any pc (lostL ⟨of, wl, wh, sl, sh, pe⟩) bn 0 HPF.out (lost_fin _) (by unfold far; omega) (extB wr x))
              gi_wp2_with (fail)
              refine wpIn_region_tailC 6 (by rfl) (by rintro ⟨_, _, hh⟩; exact hh) (by rfl) (by kernel_rfl) (by kernel_rfl) (by kernel_rfl) (by kernel_rfl) ?_
              simp only [List.take_succ_cons, List.take_zero, List.getD_cons_succ, List.getD_cons_zero, List.cons_append, List.nil_append, Li.idle]
              repeat (first
                | (refine wpQuiet_loadO rfl (.tmp 54) rfl (w.heap.size + 1 + 1 + 1) (i * 31) (by rfl) pc HPF.out.1 (M.out.m.p.range HPC.out) ?_; simp only [Act.put, List.setIfInBounds_toArray, List.set_cons_succ, List.set_cons_zero])
                | (refine wpQuiet_loadO rfl (.tmp 11) rfl o2 0 (by rfl) (lostL ⟨of, wl, wh, sl, sh, pe⟩) (lostL_len _) HC2.out.range ?_; simp only [Act.put, List.setIfInBounds_toArray, List.set_cons_succ, List.set_cons_zero])
                | go_big_quiet_step ((go_at_call 91; exact ext_call (HC.out _))))
              refine wpQuiet_nil ?_
              rintro _ ⟨x1, rfl⟩
              have M8 := M.out.next (extB_below wr x1)
              obtain ⟨W8, hW8⟩ : ∃ W8, extB wr x1 = W8 := ⟨_, rfl⟩
              rw [hW8] at M8 ⊢
              clear hW8 e4 HC M
              refine wp_storeO (.tmp 10) (.tmp 57) rfl o 0 (by rfl) (plusL pc (lostL ⟨of, wl, wh, sl, sh, pe⟩)) (plusL_len _ _) (by rfl) (by have := M8.ob.there; rwa [List.length_replicate] at this) ?_
              have M := Lib.hid (M8.putO (l := plusL pc (lostL ⟨of, wl, wh, sl, sh, pe⟩)) (by rw [plusL_len, List.length_replicate]))
              obtain ⟨W9, hW9⟩ : ∃ W9, W8.setCells o 0 (vals (plusL pc (lostL ⟨of, wl, wh, sl, sh, pe⟩))) = W9 := ⟨_, rfl⟩
              rw [hW9] at M ⊢
              clear hW9 M8
              have HBE := Lib.hid (show baseL t i ⟨of, wl, wh, sl, sh, pe⟩ pc = plusL pc (lostL ⟨of, wl, wh, sl, sh, pe⟩) by unfold baseL; rw [hcc]; rfl)
              obtain ⟨base, hbe⟩ : ∃ base, baseL t i ⟨of, wl, wh, sl, sh, pe⟩ pc = base := ⟨_, rfl⟩
              rw [← HBE.out, hbe] at M
              rw [hbe] at HRN HOW HBA
              clear HBE hbe HC2
              gi_wp2_with (fail)
              gi_loopw [58] (fun iv wr => ∃ k : Nat, k ≤ 31 ∧ iv = .int .i64 k ∧ Hid (BI w A t.length c gf lb ps all d b9 of wl wh sl sh pe o (mixTo (ownL (cost i) base) base k) X wr)) (fun iv _ => 31 - (intOf iv).toNat)
              case atStart => exact ⟨0, Nat.zero_le _, rfl, by rw [mixTo_zero]; exact M⟩
              case round =>
                clear M
                obtain ⟨k, hk, rfl, M⟩ := hrel
                by_cases hlt : k < 31
                · have hd1 : decide ((k : Int) < 31) = true := decide_eq_true (by omega)
                  have hki : (k : Int) < 31 := by omega
                  have f1 := cell_of_heap (o := 0) M.out.m.f rfl
                  have HC := Lib.hid (HF.out i k wr hilt hlt M.out.m.bl)
                  have hv := HCO.out k
                  have hy := cat_fin HBA.out k
                  have hx := ownL_at (cost i) base hlt
                  have hmx : (mixTo (ownL (cost i) base) base k)[k]? = some (cat base k) := by rw [mixTo_at (by rw [ownL_len]; exact hlt) (by rw [ownL_len]; exact HBA.out.1), cat_at (by rw [HBA.out.1]; exact hlt)]
                  obtain ⟨y, hye⟩ : ∃ y, cat base k = y := ⟨_, rfl⟩
                  obtain ⟨v, hve⟩ : ∃ v, cost i k = v := ⟨_, rfl⟩
                  rw [hye] at hy hx hmx
                  rw [hve] at hv hx HC
                  have HX := Lib.hid hx
                  have HMX := Lib.hid hmx
                  clear hx hmx hye hve
                  have hml : base.length = (ownL (cost i) base).length := by rw [ownL_len]; exact HBA.out.1
                  have HML := Lib.hid hml
                  clear hml
                  by_cases hvf : v < far
                  · have hvf' : v < 1099511627776 := hvf
                    by_cases hyf : y < far
                    · have hyf' : y < 1099511627776 := hyf
                      have hw : IntKind.i64.wrap (y + v) = y + v := IntWalk.i64_in _ (by unfold far at *; omega)
                      gi_wp2_with (refine ⟨trivial, ?_⟩; refine (CallsIn.mono (CallsIn.inRound l' (callsIn_wide.2 HC.out)) ?_); rintro e W5 ⟨rfl, hb5⟩; have M5 := Lib.hid (M.out.next hb5); have g1 := M5.out.ob.cell HMX.out; have g2 := M5.out.ob.frozen k; clear hb5)
                      go_roundw
                      case rel => exact ⟨k + 1, by omega, by go_num, Lib.hid (by have := M5.out.setO k (y + v); rwa [mixTo_set (by rw [HX.out, if_pos ⟨hvf, hyf⟩]) HML.out] at this)⟩
                      case measure => simp [intOf]; omega
                    · have hyf' : ¬ y < 1099511627776 := hyf
                      gi_wp2_with (refine ⟨trivial, ?_⟩; refine (CallsIn.mono (CallsIn.inRound l' (callsIn_wide.2 HC.out)) ?_); rintro e W5 ⟨rfl, hb5⟩; have M5 := Lib.hid (M.out.next hb5); have g1 := M5.out.ob.cell HMX.out; have g2 := M5.out.ob.frozen k; clear hb5)
                      go_roundw
                      case rel => exact ⟨k + 1, by omega, by go_num, Lib.hid (by have := M5.out.setO k far; rwa [mixTo_set (by rw [HX.out, if_neg (fun h => by omega)]) HML.out] at this)⟩
                      case measure => simp [intOf]; omega
                  · have hvf' : ¬ v < 1099511627776 := hvf
                    gi_wp2_with (refine ⟨trivial, ?_⟩; refine (CallsIn.mono (CallsIn.inRound l' (callsIn_wide.2 HC.out)) ?_); rintro e W5 ⟨rfl, hb5⟩; have M5 := Lib.hid (M.out.next hb5); have g1 := M5.out.ob.cell HMX.out; have g2 := M5.out.ob.frozen k; clear hb5)
                    go_roundw
                    case rel => exact ⟨k + 1, by omega, by go_num, Lib.hid (by have := M5.out.setO k far; rwa [mixTo_set (by rw [HX.out, if_neg (fun h => by omega)]) HML.out] at this)⟩
                    case measure => simp [intOf]; omega
                · obtain rfl : k = 31 := by omega
                  rw [mixTo_all (ownL_len _ _) HBA.out.1] at M
                  clear hlt hk
                  obtain ⟨own, hoe⟩ : ∃ own, ownL (cost i) base = own := ⟨_, rfl⟩
                  rw [hoe] at M HRN HOW
                  clear hoe
                  by_cases hof : of = -1
                  · subst hof
                    have hmf := min_fin HOW.out
                    have HR2 := Lib.hid (show runC t cost _ = if far ≤ minL own then none else some (ps, all + minL own) from HRN.out.trans (if_neg (fun h => h rfl)))
                    have f5 := cell_of_heap (o := 0) M.out.b rfl
                    have e31 := slice31all wr o
                    have HC := Lib.hid (min_any o own HOW.out.1 wr M.out.ob)
                    have fd := cell_of_heap (o := 0) M.out.a rfl
                    have fdz := frozen_of_heap M.out.a
                    have fr := cell_of_heap (o := 0) M.out.m.r rfl
                    have frz := frozen_of_heap M.out.m.r
                    obtain ⟨m, hme⟩ : ∃ m, minL own = m := ⟨_, rfl⟩
                    rw [hme] at hmf HR2 HC
                    clear hme HRN
                    by_cases hfm : far ≤ m
                    · have hfm' : (1099511627776 : Int) ≤ m := hfm
                      gi_wp2_with (refine ⟨trivial, ?_⟩; gi_at_call 92; refine (CallsIn.mono (CallsIn.inRound l' (callsIn_wide.2 HC.out)) ?_); rintro e W5 ⟨rfl, rfl⟩)
                      obtain ⟨q1, q2⟩ := M.out.setR far
                      exact ⟨q1, rfl, HR2.out.trans (if_pos hfm), ps, q2⟩
                    · have hfm' : ¬ (1099511627776 : Int) ≤ m := hfm
                      have hw : IntKind.i64.wrap (all + m) = all + m := IntWalk.i64_in _ (by unfold far at *; omega)
                      gi_wp2_with (refine ⟨trivial, ?_⟩; gi_at_call 92; refine (CallsIn.mono (CallsIn.inRound l' (callsIn_wide.2 HC.out)) ?_); rintro e W5 ⟨rfl, rfl⟩)
                      obtain ⟨q1, q2, q3⟩ := M.out.setA (all + m)
                      exact ⟨q1, ps, all + m, HR2.out.trans (if_neg (show ¬ far ≤ m by omega)), q2, q3⟩
                  · obtain ⟨j, rfl⟩ : ∃ j : Nat, of = (j : Int) := ⟨of.toNat, by have := HCF.out; omega⟩
                    have hji : j < i := by have := HCF.out; omega
                    obtain ⟨pj, hpj⟩ : ∃ pj, ps[j]? = some pj := ⟨_, List.getElem?_eq_getElem (by omega)⟩
                    have hpjF := HFI.out pj (List.mem_of_getElem? hpj)
                    have HR2 := Lib.hid (show runC t cost _ = some (ps.set j (plusL pj own), all) from HRN.out.trans ((if_pos hof).trans (by rw [Int.toNat_natCast, List.getD_eq_getElem?_getD, hpj]; rfl)))
                    have f5 := cell_of_heap (o := 0) M.out.b rfl
                    have e4 := extB_cell (cell_of_heap (o := 0) M.out.m.s rfl)
                    have e5 := extB_cell (cell_of_heap (o := 0) M.out.b rfl)
                    have HC := Lib.hid (fun x => plus_any pj own bn (bn + 3000) hpjF HOW.out (by unfold far; omega) (extB wr x))
                    have HPJ := Lib.hid hpj
                    have HPL := Lib.hid hpjF.1
                    have hd7 : decide ((j : Int) = -1) = false := decide_eq_false hof
                    clear hpjF hpj HRN
                    gi_wp2_with (fail)
                    refine wpIn_region_tailC 11 (by rfl) (by rintro ⟨_, _, hh⟩; exact hh) (by rfl) (by kernel_rfl) (by kernel_rfl) (by kernel_rfl) (by kernel_rfl) ?_
                    simp only [List.take_succ_cons, List.take_zero, List.getD_cons_succ, List.getD_cons_zero, List.cons_append, List.nil_append, Li.idle]
                    repeat (first
                      | (refine wpQuiet_loadO rfl (.tmp 91) rfl (w.heap.size + 1 + 1 + 1) (j * 31) (by rfl) pj HPL.out (M.out.m.p.range HPJ.out) ?_; simp only [Act.put, List.setIfInBounds_toArray, List.set_cons_succ, List.set_cons_zero])
                      | (refine wpQuiet_loadO rfl (.tmp 10) rfl o 0 (by rfl) own HOW.out.1 M.out.ob.range ?_; simp only [Act.put, List.setIfInBounds_toArray, List.set_cons_succ, List.set_cons_zero])
                      | go_big_quiet_step ((go_at_call 91; exact ext_call (HC.out _))))
                    refine wpQuiet_nil ?_
                    rintro _ ⟨x1, rfl⟩
                    have M8 := M.out.next (extB_below wr x1)
                    obtain ⟨W8, hW8⟩ : ∃ W8, extB wr x1 = W8 := ⟨_, rfl⟩
                    rw [hW8] at M8 ⊢
                    clear hW8 e4 e5
                    refine wp_storeO (.tmp 95) (.tmp 94) rfl (w.heap.size + 1 + 1 + 1) (j * 31) (by rfl) (plusL pj own) (plusL_len _ _) (by rfl) (M8.m.p.there HPJ.out) ?_
                    obtain ⟨q1, q2, q3⟩ := M8.putP HPJ.out (plusL_len pj own)
                    obtain ⟨W9, hW9⟩ : ∃ W9, W8.setCells (w.heap.size + 1 + 1 + 1) (j * 31) (vals (plusL pj own)) = W9 := ⟨_, rfl⟩
                    rw [hW9] at q1 q2 q3 ⊢
                    clear hW9
                    gi_wp2_with (fail)
                    exact ⟨q1, _, all, HR2.out, q2, q3⟩
      case hdone =>
        rintro X hX ⟨ps, all, hrun, hm, ha⟩ hk
        have HRUN := Lib.hid (show leastF t cost = all by
          unfold leastF
          rw [show (backL t).length = t.length by simp [backL]] at hrun
          rw [hrun])
        have e1 := cell_of_heap (o := 0) ha rfl
        have e2 := cell_of_heap (o := 0) hm.r rfl
        have e3 := frozen_of_heap hm.r
        have e5 : ((X.setCell ⟨w.heap.size + 1 + 1, 0, none⟩ (.int .i64 all)).putObj W1.heap.size (.deferred none)).cell? ⟨w.heap.size + 1 + 1, 0, none⟩ = some (.int .i64 all) := (World.cell?_of_block (a := ⟨w.heap.size + 1 + 1, 0, none⟩) (World.putObj_heap_other (by show w.heap.size + 1 + 1 ≠ _; omega))).trans (cell_of_heap (o := 0) (hm.setR all).r rfl)
        have HK := Lib.hid hk
        have HM := Lib.hid hm
        clear hm hk ha hrun
        gi_wp2_with (fail)
        refine ⟨by simp, .inl ⟨_, _, rfl, run_takeDeferred (by rw [set_other_heap (heap_lt HK.out) (by omega)]; exact HK.out), ?_⟩⟩
        refine ⟨.int .i64 (leastF t cost), by rw [HRUN.out]; simp [results, Tryz.results75, go_sem, e5], rfl, ?_⟩
        exact (HM.out.setR all).bl.trans (KpB.belowOf (S := fun k => k = W1.heap.size) ((KpB.refl _ _ _).put _ _ (.inl rfl)) (by have := HM.out.bl.size; simp; omega) (fun k hk => by omega))
      case hstop =>
        rintro e pre X hX hpre ⟨rfl, hrun, ps, hm⟩ hk
        have HRUN := Lib.hid (show leastF t cost = far by
          have hle : pre.length ≤ t.length := by have := hpre.length_le; simpa [backL] using this
          have := run_none t cost hrun (t.length - pre.length)
          unfold leastF
          rw [show t.length = pre.length + (t.length - pre.length) by omega, this])
        have e5 : (X.putObj W1.heap.size (.deferred none)).cell? ⟨w.heap.size + 1 + 1, 0, none⟩ = some (.int .i64 far) := (World.cell?_of_block (a := ⟨w.heap.size + 1 + 1, 0, none⟩) (World.putObj_heap_other (by show w.heap.size + 1 + 1 ≠ _; omega))).trans (cell_of_heap (o := 0) hm.r rfl)
        have HK := Lib.hid hk
        have HM := Lib.hid hm
        clear hm hk hrun
        gi_wp2_with (fail)
        refine ⟨by simp, .inl ⟨_, _, rfl, run_takeDeferred HK.out, ?_⟩⟩
        refine ⟨.int .i64 (leastF t cost), by rw [HRUN.out]; simp [results, Tryz.results75, go_sem, e5], rfl, ?_⟩
        exact HM.out.bl.trans (KpB.belowOf (S := fun k => k = W1.heap.size) ((KpB.refl _ _ _).put _ _ (.inl rfl)) (by have := HM.out.bl.size; omega) (fun k hk => by omega))

end Go.Proofs.YtmbcpmnigggbaabGreat.Cu
namespace Go.Proofs.YtmbcpmnigggbaabGreat.Cu
open Go.RowKit
attribute [local go_sem] Oper.semAt_some
def pcost (p : CP) (v : Nat) (k : Int) : Int := if p.wl ≤ (v : Int) ∧ (v : Int) ≤ p.wh then k else far
/-- A cost that is there in truths alone. -/
def truthC (t : List CP) (cost : Nat → Nat → Int) (i v : Nat) : Int := match t[i]? with
  | none => far
  | some p => pcost p v (cost i v)
theorem truthC_at {t : List CP} {cost : Nat → Nat → Int} {i v : Nat} {p : CP} (hp : t[i]? = some p) : truthC t cost i v = pcost p v (cost i v) := by unfold truthC; rw [hp]
/-- A valid table. -/
structure TOK (t : List CP) : Prop where
  n : t.length ≤ 8
  ok : ∀ (i : Nat) p, t[i]? = some p → (-1 ≤ p.of ∧ p.of < (i : Int)) ∧ (0 ≤ p.wl ∧ p.wl ≤ p.wh ∧ p.wh ≤ 30) ∧ (0 ≤ p.sl ∧ p.sl ≤ p.sh ∧ p.sh ≤ 30) ∧ (0 ≤ p.pe ∧ p.pe ≤ 99)
theorem truthC_fin {t : List CP} (hT : TOK t) {cost : Nat → Nat → Int} (h : ∀ i v : Nat, (v : Int) ≤ 30 → -3000 ≤ cost i v ∧ cost i v ≤ 3000) (i v : Nat) : truthC t cost i v = far ∨ (-3000 ≤ truthC t cost i v ∧ truthC t cost i v ≤ 3000) := by
  unfold truthC
  split
  · exact .inl rfl
  · rename_i p hp
    have := hT.ok i p hp
    unfold pcost
    split
    · exact .inr (h i v (by omega))
    · exact .inl rfl
set_option maxRecDepth 100000 in
set_option maxHeartbeats 4000000 in
theorem truth1_any (A : Option Addr) (c : Nat) (t : List CP) (hl : t.length ≤ 8) (b1 b2 gf : Nat) (lb : Array Value) (i v : Nat) (k : Int) (p : CP) (hp : t[i]? = some p) (w : World) (h1 : w.cell? ⟨b1, 0, none⟩ = some (.slice A t.length c)) (h2 : w.cell? ⟨b2, 0, none⟩ = some (.func (.func gf) #[] lb))
    (hT : TableAt w w.heap.size A t) (eg : ∀ args w, (callFunc gf args).run Tryz.prog w = .ok (.enter gf args) w) (hc : ∀ X, Below w.heap.size w X → Calls Tryz.prog gf (#[.int .i64 i, .int .i64 v] ++ lb) X fun e X' => e = .returned (.int .i64 k) ∧ Below X.heap.size X X') :
    Calls Tryz.prog 93 #[.int .i64 i, .int .i64 v, .pointer (some ⟨b1, 0, none⟩), .pointer (some ⟨b2, 0, none⟩)] w fun e w' => e = .returned (.int .i64 (pcost p v k)) ∧ Below w.heap.size w w' := by
  have hil := (List.getElem?_eq_some_iff.1 hp).1
  obtain ⟨b, off, rfl, hbb, d1, d2, d3, d4, d5, d6⟩ := hT.at_ hp
  obtain ⟨of, wl, wh, sl, sh, pe⟩ := p
  simp only at d1 d2 d3 d4 d5 d6
  have hb := al_below w (.cells #[.int .i64 of, .int .i64 wl, .int .i64 wh, .int .i64 sl, .int .i64 sh, .int .i64 pe] 34)
  have e2 := below_cell hb h2
  have HC := Lib.hid (hc _ hb)
  have HB := Lib.hid hb
  clear hc hT hb hp
  have HW := Lib.hid (fun x => within_any v wl wh x)
  cases hr : inR v wl wh
  all_goals
    rw [hr] at HW
    go_enter Tryz.func93, Tryz.ntmps93
    go_wp2_with (first
      | (go_at_call 73; refine (HW.out _).mono ?_; rintro e w1 ⟨rfl, rfl⟩)
      | (refine HC.out.mono ?_; rintro e w1 ⟨rfl, hb1⟩; have HB1 := Lib.hid hb1; clear hb1))
    go_ret
  · exact ⟨by unfold pcost; rw [if_neg (inR_false.1 hr)]; rfl, HB.out⟩
  · exact ⟨by unfold pcost; rw [if_pos (inR_true.1 hr)]; rfl, hb0to HB.out HB1.out⟩
theorem truth_any (A : Option Addr) (c n gf : Nat) (lb : Array Value) (w : World) : Calls Tryz.prog 76 #[.slice A n c, .func (.func gf) #[] lb] w fun e w' => e = .returned (.func (.func 93) #[] #[.pointer (some ⟨w.heap.size, 0, none⟩), .pointer (some ⟨w.heap.size + 1, 0, none⟩)]) ∧ w' = (w.alloc (.cells #[.slice A n c] 72)).alloc (.cells #[.func (.func gf) #[] lb] 108) := by
  go_enter Tryz.func76, Tryz.ntmps76
  go_wp2
  go_ret
  exact ⟨rfl, rfl⟩
set_option maxRecDepth 100000 in
set_option maxHeartbeats 4000000 in
theorem each169_any (b3 ge : Nat) (lbe : Array Value) (i v : Nat) (k : Int) (hk : 0 ≤ k ∧ k ≤ 99) (hv : v < 31) (w : World) (h3 : w.cell? ⟨b3, 0, none⟩ = some (.func (.func ge) #[] lbe)) (eg : ∀ args w, (callFunc ge args).run Tryz.prog w = .ok (.enter ge args) w)
    (hc : Calls Tryz.prog ge (#[.int .i64 i] ++ lbe) w fun e X' => e = .returned (.int .i64 k) ∧ Below w.heap.size w X') :
    Calls Tryz.prog 77 #[.int .i64 i, .int .i64 v, .pointer (some ⟨b3, 0, none⟩)] w fun e w' => e = .returned (.int .i64 (k * (v : Int))) ∧ Below w.heap.size w w' := by
  have HC := Lib.hid hc
  have hm0 : 0 ≤ k * (v : Int) := Int.mul_nonneg hk.1 (by omega)
  have hm1 : k * (v : Int) ≤ 99 * 31 := Int.mul_le_mul hk.2 (by omega) (by omega) (by omega)
  have hw1 : IntKind.i64.wrap (-k) = -k := IntWalk.i64_in _ (by omega)
  have hn : -k * (v : Int) = -(k * (v : Int)) := Int.neg_mul _ _
  have hw2 : IntKind.i64.wrap (k * (v : Int)) = k * (v : Int) := IntWalk.i64_in _ (by omega)
  have hw3 : IntKind.i64.wrap (-k * (v : Int)) = -k * (v : Int) := IntWalk.i64_in _ (by omega)
  clear hc
  go_enter Tryz.func77, Tryz.ntmps77
  go_wp2_with (refine HC.out.mono ?_; rintro e w1 ⟨rfl, hb1⟩; have HB1 := Lib.hid hb1; clear hb1)
  go_ret
  exact ⟨rfl, HB1.out⟩
set_option maxRecDepth 100000 in
set_option maxHeartbeats 4000000 in
theorem each170_any (b3 ge : Nat) (lbe : Array Value) (i v : Nat) (k : Int) (hk : 0 ≤ k ∧ k ≤ 99) (hv : v < 31) (w : World) (h3 : w.cell? ⟨b3, 0, none⟩ = some (.func (.func ge) #[] lbe)) (eg : ∀ args w, (callFunc ge args).run Tryz.prog w = .ok (.enter ge args) w)
    (hc : Calls Tryz.prog ge (#[.int .i64 i] ++ lbe) w fun e X' => e = .returned (.int .i64 k) ∧ Below w.heap.size w X') :
    Calls Tryz.prog 78 #[.int .i64 i, .int .i64 v, .pointer (some ⟨b3, 0, none⟩)] w fun e w' => e = .returned (.int .i64 (-(k * (v : Int)))) ∧ Below w.heap.size w w' := by
  have HC := Lib.hid hc
  have hm0 : 0 ≤ k * (v : Int) := Int.mul_nonneg hk.1 (by omega)
  have hm1 : k * (v : Int) ≤ 99 * 31 := Int.mul_le_mul hk.2 (by omega) (by omega) (by omega)
  have hw1 : IntKind.i64.wrap (-k) = -k := IntWalk.i64_in _ (by omega)
  have hn : -k * (v : Int) = -(k * (v : Int)) := Int.neg_mul _ _
  have hw2 : IntKind.i64.wrap (k * (v : Int)) = k * (v : Int) := IntWalk.i64_in _ (by omega)
  have hw3 : IntKind.i64.wrap (-k * (v : Int)) = -k * (v : Int) := IntWalk.i64_in _ (by omega)
  clear hc
  go_enter Tryz.func78, Tryz.ntmps78
  go_wp2_with (refine HC.out.mono ?_; rintro e w1 ⟨rfl, hb1⟩; have HB1 := Lib.hid hb1; clear hb1)
  go_ret
  exact ⟨rfl, HB1.out⟩

theorem load35 {W : World} {b : Nat} {x y : Int} (h : W.heap[b]? = some (.cells #[.int .i64 x, .int .i64 y] 32 (0, 0))) : (Instr.loadAt 32 (.pointer (some ⟨b, 0, none⟩))).run Tryz.prog W = .ok (.agg #[.int .i64 x, .int .i64 y]) W :=
  run_loadAt_mid W b 0 32 [.int .i64 x, .int .i64 y] _ (fun j v hj => cell_of_heap (o := 0 + j) h (by rw [Nat.zero_add, List.getElem?_toArray]; exact hj)) Tryz.underlying32 rfl (by kernel_rfl)
theorem results_ct {P : Program} {fn : Func} {t1 t2 : Tmp} {ty1 : TypeId} (h : fn.results = #[.cell t1 ty1, .tmp t2]) {tmps : Array Value} {w : World} {v1 v2 : Value} {p1 : Addr} (ht1 : tmps.getD t1 undef = .pointer (some p1)) (ht2 : tmps.getD t2 undef = v2)
    (hl1 : (Instr.loadAt ty1 (.pointer (some p1))).run P w = .ok v1 w) : (results fn tmps).run P w = .ok (.tuple #[v1, v2]) w := by
  have a1 : tmps[t1]?.getD undef = .pointer (some p1) := by simpa using ht1
  have a2 : tmps[t2]?.getD undef = v2 := by simpa using ht2
  simp [Instr.loadAt, Instr.sureAddr, asAddr] at hl1
  simp [results, h, a1, a2, Instr.loadAt, Instr.sureAddr, asAddr, hl1]
def lowF (t : List CP) (each : Nat → Int) : Int := leastF t (truthC t fun i v => each i * (v : Int))
def highF (t : List CP) (each : Nat → Int) : Int := -leastF t (truthC t fun i v => -(each i * (v : Int)))
theorem least_bd {t : List CP} {cost : Nat → Nat → Int} (ht : t.length ≤ 8) (hc : ∀ i v, cost i v = far ∨ (-3000 ≤ cost i v ∧ cost i v ≤ 3000)) : leastF t cost = far ∨ (-8000000 ≤ leastF t cost ∧ leastF t cost ≤ 8000000) := by
  unfold leastF
  cases h : runC t cost t.length with
  | none => exact .inl rfl
  | some q =>
    obtain ⟨ps, all⟩ := q
    have := run_fin hc t.length ps all ht h
    exact .inr (by simp only; omega)
theorem mul_bd {k : Int} {v : Nat} (hk : 0 ≤ k ∧ k ≤ 99) (hv : (v : Int) ≤ 30) : 0 ≤ k * (v : Int) ∧ k * (v : Int) ≤ 2970 :=
  ⟨Int.mul_nonneg hk.1 (by omega), by
    have : k * (v : Int) ≤ 99 * 30 := Int.mul_le_mul hk.2 hv (by omega) (by omega)
    omega⟩
theorem low_fin {t : List CP} (hT : TOK t) {each : Nat → Int} (he : ∀ i, 0 ≤ each i ∧ each i ≤ 99) (i v : Nat) : truthC t (fun i v => each i * (v : Int)) i v = far ∨ (-3000 ≤ truthC t (fun i v => each i * (v : Int)) i v ∧ truthC t (fun i v => each i * (v : Int)) i v ≤ 3000) :=
  truthC_fin hT (fun i v hv => by have := mul_bd (he i) hv; omega) i v
theorem high_fin {t : List CP} (hT : TOK t) {each : Nat → Int} (he : ∀ i, 0 ≤ each i ∧ each i ≤ 99) (i v : Nat) : truthC t (fun i v => -(each i * (v : Int))) i v = far ∨ (-3000 ≤ truthC t (fun i v => -(each i * (v : Int))) i v ∧ truthC t (fun i v => -(each i * (v : Int))) i v ≤ 3000) :=
  truthC_fin hT (fun i v hv => by have := mul_bd (he i) hv; omega) i v
/-- least of a truth, each part of which has so many a pound (169). -/
theorem least_truth169 (A : Option Addr) (c : Nat) (t : List CP) (hOK : TOK t) (ge b3 : Nat) (lbe : Array Value) (each : Nat → Int) (he : ∀ i, 0 ≤ each i ∧ each i ≤ 99) (w : World) (hT : TableAt w w.heap.size A t) (h3 : w.cell? ⟨b3, 0, none⟩ = some (.func (.func ge) #[] lbe)) (eg : ∀ args w, (callFunc ge args).run Tryz.prog w = .ok (.enter ge args) w)
    (hc : ∀ (i : Nat) (X : World), i < t.length → Below w.heap.size w X → Calls Tryz.prog ge (#[.int .i64 i] ++ lbe) X fun e X' => e = .returned (.int .i64 (each i)) ∧ Below X.heap.size X X') :
    Calls Tryz.prog 75 #[.slice A t.length c, .func (.func 93) #[] #[.pointer (some ⟨w.heap.size, 0, none⟩), .pointer (some ⟨w.heap.size + 1, 0, none⟩)]] ((w.alloc (.cells #[.slice A t.length c] 72)).alloc (.cells #[.func (.func 77) #[] #[.pointer (some ⟨b3, 0, none⟩)]] 108)) fun e w' =>
      e = .returned (.int .i64 (leastF t (truthC t fun i v => each i * (v : Int)))) ∧ Below w.heap.size w w' := by
  have hb := hb0to (al_below w (.cells #[.slice A t.length c] 72)) (al_below _ (.cells #[.func (.func 77) #[] #[.pointer (some ⟨b3, 0, none⟩)]] 108))
  have q1 := cell_of_heap (o := 0) (heap_keep (o' := .cells #[.func (.func 77) #[] #[.pointer (some ⟨b3, 0, none⟩)]] 108) (heap_new1 w (.cells #[.slice A t.length c] 72))) rfl
  have q2 := cell_of_heap (o := 0) (heap_new2 w (.cells #[.slice A t.length c] 72) (.cells #[.func (.func 77) #[] #[.pointer (some ⟨b3, 0, none⟩)]] 108)) rfl
  refine (least_any A c t hOK.n 93 _ (truthC t fun i v => each i * (v : Int)) _ (hT.lt hb) (enters_of Tryz.func93 (by kernel_rfl) rfl) ?_ (low_fin hOK he) (fun i p hp => by have := hOK.ok i p hp; omega)).mono ?_
  · intro i v X hi hv hX
    obtain ⟨p, hp⟩ : ∃ p, t[i]? = some p := ⟨_, List.getElem?_eq_getElem hi⟩
    rw [truthC_at hp]
    exact truth1_any A c t hOK.n _ _ 77 _ i v _ p hp X (below_cell hX q1) (below_cell hX q2) ((hT.lt hb).lt hX) (enters_of Tryz.func77 (by kernel_rfl) rfl) fun Y hY =>
      each169_any b3 ge lbe i v (each i) (he i) hv Y (below_cell hY (below_cell hX (below_cell hb h3))) eg (hc i Y hi (hb0to hb (hb0to hX hY)))
  · rintro e w' ⟨rfl, hb'⟩
    exact ⟨rfl, hb0to hb hb'⟩
/-- least of a truth, each part of which has so many a pound (170). -/
theorem least_truth170 (A : Option Addr) (c : Nat) (t : List CP) (hOK : TOK t) (ge b3 : Nat) (lbe : Array Value) (each : Nat → Int) (he : ∀ i, 0 ≤ each i ∧ each i ≤ 99) (w : World) (hT : TableAt w w.heap.size A t) (h3 : w.cell? ⟨b3, 0, none⟩ = some (.func (.func ge) #[] lbe)) (eg : ∀ args w, (callFunc ge args).run Tryz.prog w = .ok (.enter ge args) w)
    (hc : ∀ (i : Nat) (X : World), i < t.length → Below w.heap.size w X → Calls Tryz.prog ge (#[.int .i64 i] ++ lbe) X fun e X' => e = .returned (.int .i64 (each i)) ∧ Below X.heap.size X X') :
    Calls Tryz.prog 75 #[.slice A t.length c, .func (.func 93) #[] #[.pointer (some ⟨w.heap.size, 0, none⟩), .pointer (some ⟨w.heap.size + 1, 0, none⟩)]] ((w.alloc (.cells #[.slice A t.length c] 72)).alloc (.cells #[.func (.func 78) #[] #[.pointer (some ⟨b3, 0, none⟩)]] 108)) fun e w' =>
      e = .returned (.int .i64 (leastF t (truthC t fun i v => -(each i * (v : Int))))) ∧ Below w.heap.size w w' := by
  have hb := hb0to (al_below w (.cells #[.slice A t.length c] 72)) (al_below _ (.cells #[.func (.func 78) #[] #[.pointer (some ⟨b3, 0, none⟩)]] 108))
  have q1 := cell_of_heap (o := 0) (heap_keep (o' := .cells #[.func (.func 78) #[] #[.pointer (some ⟨b3, 0, none⟩)]] 108) (heap_new1 w (.cells #[.slice A t.length c] 72))) rfl
  have q2 := cell_of_heap (o := 0) (heap_new2 w (.cells #[.slice A t.length c] 72) (.cells #[.func (.func 78) #[] #[.pointer (some ⟨b3, 0, none⟩)]] 108)) rfl
  refine (least_any A c t hOK.n 93 _ (truthC t fun i v => -(each i * (v : Int))) _ (hT.lt hb) (enters_of Tryz.func93 (by kernel_rfl) rfl) ?_ (high_fin hOK he) (fun i p hp => by have := hOK.ok i p hp; omega)).mono ?_
  · intro i v X hi hv hX
    obtain ⟨p, hp⟩ : ∃ p, t[i]? = some p := ⟨_, List.getElem?_eq_getElem hi⟩
    rw [truthC_at hp]
    exact truth1_any A c t hOK.n _ _ 78 _ i v _ p hp X (below_cell hX q1) (below_cell hX q2) ((hT.lt hb).lt hX) (enters_of Tryz.func78 (by kernel_rfl) rfl) fun Y hY =>
      each170_any b3 ge lbe i v (each i) (he i) hv Y (below_cell hY (below_cell hX (below_cell hb h3))) eg (hc i Y hi (hb0to hb (hb0to hX hY)))
  · rintro e w' ⟨rfl, hb'⟩
    exact ⟨rfl, hb0to hb hb'⟩
set_option maxRecDepth 100000 in
set_option maxHeartbeats 4000000 in
theorem between_any (A : Option Addr) (c : Nat) (t : List CP) (hOK : TOK t) (ge : Nat) (lbe : Array Value) (each : Nat → Int) (he : ∀ i, 0 ≤ each i ∧ each i ≤ 99) (w : World) (hT : TableAt w w.heap.size A t) (eg : ∀ args w, (callFunc ge args).run Tryz.prog w = .ok (.enter ge args) w)
    (hc : ∀ (i : Nat) (X : World), i < t.length → Below w.heap.size w X → Calls Tryz.prog ge (#[.int .i64 i] ++ lbe) X fun e X' => e = .returned (.int .i64 (each i)) ∧ Below X.heap.size X X') :
    Calls Tryz.prog 52 #[.slice A t.length c, .func (.func ge) #[] lbe] w fun e w' => e = .returned (.tuple #[.agg #[.int .i64 (lowF t each), .int .i64 (highF t each)], .bool (decide (lowF t each < far))]) ∧ Below w.heap.size w w' := by
  have hb := hb0to (al_below w (.cells #[.func (.func ge) #[] lbe] 76)) (al_below _ (.cells #[.int .i64 0, .int .i64 0] 32))
  have q3 := cell_of_heap (o := 0) (heap_keep (o' := .cells #[.int .i64 0, .int .i64 0] 32) (heap_new1 w (.cells #[.func (.func ge) #[] lbe] 76))) rfl
  have q4 := heap_new2 w (.cells #[.func (.func ge) #[] lbe] 76) (.cells #[.int .i64 0, .int .i64 0] 32)
  obtain ⟨W0, hW0⟩ : ∃ W0, (w.alloc (.cells #[.func (.func ge) #[] lbe] 76)).alloc (.cells #[.int .i64 0, .int .i64 0] 32) = W0 := ⟨_, rfl⟩
  rw [hW0] at hb q3 q4
  have HT := Lib.hid (fun (W : World) (hW : Below W0.heap.size W0 W) => ((hT.lt hb).lt hW))
  have HL := Lib.hid (fun (W : World) (hW : Below W0.heap.size W0 W) => least_truth169 A c t hOK ge w.heap.size lbe each he W (HT.out W hW) (below_cell hW q3) eg (fun i X hi hX => hc i X hi (hb0to hb (hb0to hW hX))))
  have HH := Lib.hid (fun (W : World) (hW : Below W0.heap.size W0 W) => least_truth170 A c t hOK ge w.heap.size lbe each he W (HT.out W hW) (below_cell hW q3) eg (fun i X hi hX => hc i X hi (hb0to hb (hb0to hW hX))))
  have hbd1 := least_bd hOK.n (low_fin hOK he)
  have hbd2 := least_bd hOK.n (high_fin hOK he)
  unfold lowF highF
  obtain ⟨lo, hlo⟩ : ∃ lo, leastF t (truthC t fun i v => each i * (v : Int)) = lo := ⟨_, rfl⟩
  obtain ⟨hi, hhi⟩ : ∃ hi, leastF t (truthC t fun i v => -(each i * (v : Int))) = hi := ⟨_, rfl⟩
  rw [hlo] at HL hbd1 ⊢
  rw [hhi] at HH hbd2 ⊢
  have hwn : IntKind.i64.wrap (-hi) = -hi := IntWalk.i64_in _ (by unfold far at *; omega)
  have HB := Lib.hid hb
  have HW0 := Lib.hid hW0
  have HQ4 := Lib.hid q4
  clear hlo hhi hT hc HT hbd1 hbd2 hb hW0 q3 q4
  have T1 := Lib.hid (truth_any A c t.length 77)
  have T2 := Lib.hid (truth_any A c t.length 78)
  go_enter Tryz.func52, Tryz.ntmps52
  go_upto_region 1 with (fail)
  have e := HW0.out
  rw [e]
  clear e HW0
  go_wp2_with (first
    | (go_at_call 76; have TX := T1; clear T1; refine (TX.out _ _).mono ?_; clear TX; rintro e w1 ⟨rfl, rfl⟩)
    | (go_at_call 76; refine (T2.out _ _).mono ?_; clear T2; rintro e w1 ⟨rfl, rfl⟩)
    | (go_at_call 75; have HX := HL; clear HL; refine (HX.out W0 (Below.refl _ _)).mono ?_; clear HX; rintro e w5 ⟨rfl, hb5⟩; have HB5 := Lib.hid hb5; clear hb5)
    | (go_at_call 75; refine (HH.out w5 HB5.out).mono ?_; clear HH; rintro e w6 ⟨rfl, hb6⟩; have HB6 := Lib.hid (hb0to HB5.out hb6); have k4 := (HB6.out.block _ (heap_lt HQ4.out)).trans HQ4.out; have k5 := cell_of_heap (o := 0) k4 rfl; have k6 := cell_of_heap (o := 1) k4 rfl; have k7 := frozen_of_heap k4; clear hb6 k4))
  have hb6 := hb0to HB.out HB6.out
  have hk4 := (HB6.out.block _ (heap_lt HQ4.out)).trans HQ4.out
  have hk5 := heap_set (o := 1) (.int .i64 (-hi)) (heap_set (o := 0) (.int .i64 lo) hk4)
  have hb9 := (hb6.setCell (p := ⟨w.heap.size + 1, 0, none⟩) (by show w.heap.size ≤ w.heap.size + 1; omega) (.int .i64 lo)).setCell (p := ⟨w.heap.size + 1, 1, none⟩) (by show w.heap.size ≤ w.heap.size + 1; omega) (.int .i64 (-hi))
  obtain ⟨W9, hW9⟩ : ∃ W9, (w6.setCell ⟨w.heap.size + 1, 0, none⟩ (.int .i64 lo)).setCell ⟨w.heap.size + 1, 1, none⟩ (.int .i64 (-hi)) = W9 := ⟨_, rfl⟩
  rw [hW9] at hk5 hb9 ⊢
  clear hW9 k5 k6 k7 hk4
  (try simp only [Exit.inBlock, Exit.then])
  refine bodyPost_ret (results_ct rfl rfl rfl (load35 hk5)) rfl ?_
  exact ⟨rfl, hb9⟩

end Go.Proofs.YtmbcpmnigggbaabGreat.Cu
namespace Go.Proofs.YtmbcpmnigggbaabGreat.Cu
open Go.RowKit
attribute [local go_sem] Oper.semAt_some
set_option maxRecDepth 100000 in
set_option maxHeartbeats 4000000 in
theorem isSpanY_any (lo hi : Int) (h : 0 ≤ lo ∧ lo ≤ hi ∧ hi ≤ 30) (w : World) : Calls Tryz.prog 74 #[.agg #[.int .i64 lo, .int .i64 hi]] w fun e w' => e = .returned (.bool true) ∧ Below w.heap.size w w' := by
  have hb := al_below w (.cells #[.int .i64 lo, .int .i64 hi] 32)
  have HW := Lib.hid (fun x => within_any lo 0 hi x)
  rw [inR_true.2 ⟨h.1, h.2.1⟩] at HW
  obtain ⟨h1, h2, h3⟩ := h
  have HB := Lib.hid hb
  clear hb
  go_enter Tryz.func74, Tryz.ntmps74
  go_wp2_with (go_at_call 73; refine (HW.out _).mono ?_; rintro e w1 ⟨rfl, rfl⟩)
  go_ret
  exact ⟨rfl, HB.out⟩
set_option maxRecDepth 100000 in
set_option maxHeartbeats 4000000 in
theorem checkY_any (A : Option Addr) (c : Nat) (t : List CP) (hOK : TOK t) (w : World) (hT : TableAt w w.heap.size A t) : Calls Tryz.prog 51 #[.slice A t.length c] w fun e w' => e = .returned (.int .i64 0) ∧ Below w.heap.size w w' := by
  have hl := hOK.n
  have HT := Lib.hid hT
  have HOK := Lib.hid hOK
  clear hT hOK
  go_enter Tryz.func51, Tryz.ntmps51
  go_wp2
  go_loopw [10] (fun i wr => ∃ k : Nat, k ≤ t.length ∧ i = .int .i64 k ∧ Below w.heap.size w wr) (fun i _ => t.length - (intOf i).toNat)
  case atStart => exact ⟨0, Nat.zero_le _, rfl, Below.refl _ _⟩
  case round =>
    obtain ⟨k, hk, rfl, hb⟩ := hrel
    by_cases hlt : k < t.length
    · obtain ⟨p, hp⟩ : ∃ p, t[k]? = some p := ⟨_, List.getElem?_eq_getElem hlt⟩
      have hok := HOK.out.ok k p hp
      obtain ⟨b, off, rfl, hbb, d1, d2, d3, d4, d5, d6⟩ := (HT.out.lt hb).at_ hp
      obtain ⟨of, wl, wh, sl, sh, pe⟩ := p
      simp only at d1 d2 d3 d4 d5 d6 hok
      obtain ⟨⟨o1, o2⟩, o3, o4, o5, o6⟩ := hok
      have hbP := al_below wr (.cells #[.int .i64 of, .int .i64 wl, .int .i64 wh, .int .i64 sl, .int .i64 sh, .int .i64 pe] 34)
      have HBP := Lib.hid (hb0to hb hbP)
      have HW1 := Lib.hid (fun x => within_any of (-1) ((k : Int) - 1) x)
      rw [inR_true.2 ⟨by omega, by omega⟩] at HW1
      have HW2 := Lib.hid (fun x => within_any pe 0 99 x)
      rw [inR_true.2 ⟨o5, o6⟩] at HW2
      have HS1 := Lib.hid (fun x => isSpanY_any wl wh o3 x)
      have HS2 := Lib.hid (fun x => isSpanY_any sl sh o4 x)
      have hwk : IntKind.i64.wrap ((k : Int) - 1) = (k : Int) - 1 := IntWalk.i64_in _ (by omega)
      have hq := heap_new1 wr (.cells #[.int .i64 of, .int .i64 wl, .int .i64 wh, .int .i64 sl, .int .i64 sh, .int .i64 pe] 34)
      have HQ := Lib.hid hq
      have f4 := cell_of_heap (o := 5) hq rfl
      clear hp hbP hq o1 o2 o3 o4 o5 o6
      go_wp2_with (first
        | (go_at_call 73; have HX := HW1; clear HW1; refine (HX.out _).mono ?_; clear HX; rintro e w1 ⟨rfl, rfl⟩)
        | (go_at_call 73; refine (HW2.out _).mono ?_; rintro e w1 ⟨rfl, rfl⟩)
        | (go_at_call 74; have HX := HS1; clear HS1; refine (HX.out _).mono ?_; clear HX; rintro e w4 ⟨rfl, hb4⟩; have HB4 := Lib.hid hb4; have hq4 := (hb4.block _ (heap_lt HQ.out)).trans HQ.out; have f5 := cell_of_heap (o := 3) hq4 rfl; have f6 := cell_of_heap (o := 4) hq4 rfl; clear hb4 hq4)
        | (go_at_call 74; refine (HS2.out _).mono ?_; rintro e w5 ⟨rfl, hb5⟩; have HB5 := Lib.hid (hb0to HB4.out hb5); have hq5 := (HB5.out.block _ (heap_lt HQ.out)).trans HQ.out; have f7 := cell_of_heap (o := 5) hq5 rfl; clear hb5 hq5))
      go_roundw
      case rel => exact ⟨k + 1, by omega, by go_num, hb0to HBP.out HB5.out⟩
      case measure => simp [intOf]; omega
    · obtain rfl : k = t.length := by omega
      go_wp2
      go_ret
      exact ⟨rfl, hb⟩
theorem askY_any (A : Option Addr) (c : Nat) (t : List CP) (hOK : TOK t) (w : World) (hT : TableAt w w.heap.size A t) : Calls Tryz.prog 30 #[.slice A t.length c, .bool true] w fun e w' => e = .returned (.int .i64 0) ∧ Below w.heap.size w w' := by
  have H := Lib.hid (checkY_any A c t hOK w hT)
  clear hT hOK
  go_enter Tryz.func30, Tryz.ntmps30
  go_wp2_with (go_at_call 51; refine H.out.mono ?_; rintro e w1 ⟨rfl, hb1⟩; have HB1 := Lib.hid hb1; clear hb1)
  go_ret
  exact ⟨rfl, HB1.out⟩

end Go.Proofs.YtmbcpmnigggbaabGreat.Cu
namespace Go.Proofs.YtmbcpmnigggbaabGreat.Cu
open Go.RowKit
attribute [local go_sem] Oper.semAt_some
set_option maxRecDepth 100000 in
set_option maxHeartbeats 4000000 in
theorem span_any (A : Option Addr) (c : Nat) (t : List CP) (hOK : TOK t) (ge : Nat) (lbe : Array Value) (each : Nat → Int) (he : ∀ i, 0 ≤ each i ∧ each i ≤ 99) (w : World) (hT : TableAt w w.heap.size A t) (eg : ∀ args w, (callFunc ge args).run Tryz.prog w = .ok (.enter ge args) w)
    (hc : ∀ (i : Nat) (X : World), i < t.length → Below w.heap.size w X → Calls Tryz.prog ge (#[.int .i64 i] ++ lbe) X fun e X' => e = .returned (.int .i64 (each i)) ∧ Below X.heap.size X X') (hlow : lowF t each < far) :
    Calls Tryz.prog 31 #[.slice A t.length c, .bool true, .func (.func ge) #[] lbe] w fun e w' => e = .returned (.tuple #[.agg #[.int .i64 (lowF t each), .int .i64 (highF t each)], .int .i64 0]) ∧ Below w.heap.size w w' := by
  have hb0 := al_below w (.cells #[.int .i64 0, .int .i64 0] 32)
  have HA := Lib.hid (askY_any A c t hOK _ (hT.lt hb0))
  have HBT := Lib.hid (fun (X : World) (hX : Below w.heap.size w X) => between_any A c t hOK ge lbe each he X (hT.lt hX) eg (fun i Y hi hY => hc i Y hi (hb0to hX hY)))
  rw [decide_eq_true hlow] at HBT
  have hq0 := heap_new1 w (.cells #[.int .i64 0, .int .i64 0] 32)
  have HQ := Lib.hid hq0
  have HB0 := Lib.hid hb0
  obtain ⟨lo, hlo⟩ : ∃ lo, lowF t each = lo := ⟨_, rfl⟩
  obtain ⟨hi, hhi⟩ : ∃ hi, highF t each = hi := ⟨_, rfl⟩
  rw [hlo, hhi] at HBT
  rw [hlo, hhi]
  clear hlo hhi hT hc hb0 hq0 hlow
  go_enter Tryz.func31, Tryz.ntmps31
  go_wp2_with (first
    | (go_at_call 30; refine HA.out.mono ?_; clear HA; rintro e w1 ⟨rfl, hb1⟩; have HB1 := Lib.hid (hb0to HB0.out hb1); have HQ1 := Lib.hid ((hb1.block _ (heap_lt HQ.out)).trans HQ.out); clear hb1)
    | (go_at_call 52; refine (HBT.out _ HB1.out).mono ?_; clear HBT; rintro e w5 ⟨rfl, hb5⟩; have HB6 := Lib.hid (hb0to HB1.out hb5); have HQ5 := Lib.hid ((hb5.block _ (heap_lt HQ1.out)).trans HQ1.out);
        have g1 := cell_of_heap (o := 0) (heap_keep (o' := .cells #[.int .i64 lo, .int .i64 hi] 32) HQ5.out) rfl; have g2 := cell_of_heap (o := 1) (heap_keep (o' := .cells #[.int .i64 lo, .int .i64 hi] 32) HQ5.out) rfl; have g3 := frozen_of_heap (heap_keep (o' := .cells #[.int .i64 lo, .int .i64 hi] 32) HQ5.out); clear hb5))
  clear g1 g2 g3
  have hb6 := hb0to HB6.out (al_below w5 (.cells #[.int .i64 lo, .int .i64 hi] 32))
  have hk4 := heap_keep (o' := .cells #[.int .i64 lo, .int .i64 hi] 32) HQ5.out
  obtain ⟨w6, hw6⟩ : ∃ w6, w5.alloc (.cells #[.int .i64 lo, .int .i64 hi] 32) = w6 := ⟨_, rfl⟩
  rw [hw6] at hb6 hk4 ⊢
  clear hw6
  have hk5 := heap_set (o := 1) (.int .i64 hi) (heap_set (o := 0) (.int .i64 lo) hk4)
  have hb9 := (hb6.setCell (p := ⟨w.heap.size, 0, none⟩) (by show w.heap.size ≤ w.heap.size; omega) (.int .i64 lo)).setCell (p := ⟨w.heap.size, 1, none⟩) (by show w.heap.size ≤ w.heap.size; omega) (.int .i64 hi)
  obtain ⟨W9, hW9⟩ : ∃ W9, (w6.setCell ⟨w.heap.size, 0, none⟩ (.int .i64 lo)).setCell ⟨w.heap.size, 1, none⟩ (.int .i64 hi) = W9 := ⟨_, rfl⟩
  rw [hW9] at hk5 hb9 ⊢
  clear hW9
  (try simp only [Exit.inBlock, Exit.then])
  refine bodyPost_ret (results_ct rfl rfl rfl (load35 hk5)) rfl ?_
  exact ⟨rfl, hb9⟩
def eachW (part : Nat) (i : Nat) : Int := if i = part then 1 else 0
def eachA (t : List CP) (i : Nat) : Int := match t[i]? with
  | none => 0
  | some p => if p.of = -1 then 1 else 0
theorem isPartY_any (A : Option Addr) (n c i : Nat) (hn : n ≤ 8) (hi : i < n) (w : World) : Calls Tryz.prog 53 #[.slice A n c, .int .i64 i] w fun e w' => e = .returned (.bool true) ∧ w = w' := by
  have HW := Lib.hid (fun x => within_any i 0 ((n : Int) - 1) x)
  rw [inR_true.2 ⟨by omega, by omega⟩] at HW
  have hwk : IntKind.i64.wrap ((n : Int) - 1) = (n : Int) - 1 := IntWalk.i64_in _ (by omega)
  go_enter Tryz.func53, Tryz.ntmps53
  go_wp2_with (go_at_call 73; refine (HW.out _).mono ?_; rintro e w1 ⟨rfl, rfl⟩)
  go_ret
  exact ⟨rfl, rfl⟩
end Go.Proofs.YtmbcpmnigggbaabGreat.Cu
namespace Go.Proofs.YtmbcpmnigggbaabGreat.Cu
open Go.RowKit
attribute [local go_sem] Oper.semAt_some
theorem within7_any (n lo hi : Int) (w : World) : Calls Tryz.prog 15 #[.int .i64 n, .int .i64 lo, .int .i64 hi] w fun e w' => e = .returned (.bool (inR n lo hi)) ∧ w = w' := by
  have H := Lib.hid (within1_any n lo hi w)
  go_enter Tryz.func15, Tryz.ntmps15
  go_wp2_with (go_at_call 41; refine H.out.mono ?_; rintro e w1 ⟨rfl, rfl⟩)
  go_ret
  exact ⟨rfl, rfl⟩
def spanB (lo hi : Int) : Bool := inR hi 0 30 && inR lo 0 hi
set_option maxRecDepth 100000 in
set_option maxHeartbeats 4000000 in
theorem isSpan7_any (lo hi : Int) (w : World) : Calls Tryz.prog 16 #[.agg #[.int .i64 lo, .int .i64 hi]] w fun e w' => e = .returned (.bool (spanB lo hi)) ∧ Below w.heap.size w w' := by
  have HB := Lib.hid (al_below w (.cells #[.int .i64 lo, .int .i64 hi] 32))
  have H1 := Lib.hid (fun x => within7_any hi 0 30 x)
  have H2 := Lib.hid (fun x => within7_any lo 0 hi x)
  cases h1 : inR hi 0 30
  · rw [h1] at H1
    go_enter Tryz.func16, Tryz.ntmps16
    go_wp2_with (go_at_call 15; refine (H1.out _).mono ?_; rintro e w1 ⟨rfl, rfl⟩)
    go_ret
    exact ⟨by unfold spanB; rw [h1]; rfl, HB.out⟩
  · rw [h1] at H1
    go_enter Tryz.func16, Tryz.ntmps16
    go_wp2_with (first
      | (go_at_call 15; have HX := H1; clear H1; refine (HX.out _).mono ?_; clear HX; rintro e w1 ⟨rfl, rfl⟩)
      | (go_at_call 15; refine (H2.out _).mono ?_; rintro e w1 ⟨rfl, rfl⟩))
    go_ret
    exact ⟨by unfold spanB; rw [h1]; rfl, HB.out⟩
/-- A part is valid. -/
def partB (i : Nat) (p : CP) : Bool := inR p.of (-1) ((i : Int) - 1) && (spanB p.wl p.wh && (spanB p.sl p.sh && inR p.pe 0 99))
def chkTo (t : List CP) (k : Nat) : Prop := ∀ (i : Nat) p, i < k → t[i]? = some p → partB i p = true
instance (t : List CP) : Decidable (chkTo t t.length) := decidable_of_iff (∀ i : _root_.Fin t.length, partB i.1 t[i.1] = true) ⟨fun h i p hi hp => by
  obtain ⟨hl, rfl⟩ := List.getElem?_eq_some_iff.1 hp
  exact h ⟨i, hl⟩, fun h i => h i.1 _ i.2 (List.getElem?_eq_getElem i.2)⟩
/-- Whether a table is valid. -/
def chkT (t : List CP) : Bool := decide (t.length ≤ 8) && decide (chkTo t t.length)
def errT (t : List CP) : Int := if chkT t then 0 else 70
theorem errT_no {t : List CP} (h : chkT t = false) : errT t = 70 := by unfold errT; rw [h]; rfl
theorem errT_yes {t : List CP} (h : chkT t = true) : errT t = 0 := by unfold errT; rw [h]; rfl
theorem chkT_ok {t : List CP} (h : chkT t = true) : TOK t := by
  unfold chkT at h
  rw [Bool.and_eq_true, decide_eq_true_iff, decide_eq_true_iff] at h
  refine ⟨h.1, fun i p hp => ?_⟩
  have := h.2 i p (List.getElem?_eq_some_iff.1 hp).1 hp
  simp only [partB, spanB, Bool.and_eq_true, inR_true] at this
  omega
set_option maxRecDepth 100000 in
set_option maxHeartbeats 4000000 in
theorem check7_any (A : Option Addr) (c : Nat) (t : List CP) (hl : t.length ≤ 40) (w : World) (hT : TableAt w w.heap.size A t) : Calls Tryz.prog 4 #[.slice A t.length c] w fun e w' => e = .returned (.int .i64 (errT t)) ∧ Below w.heap.size w w' := by
  by_cases h8 : t.length ≤ 8
  · have HT := Lib.hid hT
    have HR := Lib.hid (show chkT t = decide (chkTo t t.length) by unfold chkT; rw [decide_eq_true h8, Bool.true_and])
    clear hT
    go_enter Tryz.func4, Tryz.ntmps4
    go_wp2
    go_loopw [3] (fun i wr => ∃ k : Nat, k ≤ t.length ∧ i = .int .i64 k ∧ Below w.heap.size w wr ∧ Hid (chkTo t k)) (fun i _ => t.length - (intOf i).toNat)
    case atStart => exact ⟨0, Nat.zero_le _, rfl, Below.refl _ _, Lib.hid fun i p h => by omega⟩
    case round =>
      obtain ⟨k, hk, rfl, hb, HK⟩ := hrel
      by_cases hlt : k < t.length
      · obtain ⟨p, hp⟩ : ∃ p, t[k]? = some p := ⟨_, List.getElem?_eq_getElem hlt⟩
        have HP := Lib.hid hp
        obtain ⟨b, off, rfl, hbb, d1, d2, d3, d4, d5, d6⟩ := (HT.out.lt hb).at_ hp
        obtain ⟨of, wl, wh, sl, sh, pe⟩ := p
        simp only at d1 d2 d3 d4 d5 d6
        have HBP := Lib.hid (hb0to hb (al_below wr (.cells #[.int .i64 of, .int .i64 wl, .int .i64 wh, .int .i64 sl, .int .i64 sh, .int .i64 pe] 34)))
        have HW1 := Lib.hid (fun x => within7_any of (-1) ((k : Int) - 1) x)
        have HW2 := Lib.hid (fun x => within7_any pe 0 99 x)
        have HS1 := Lib.hid (fun x => isSpan7_any wl wh x)
        have HS2 := Lib.hid (fun x => isSpan7_any sl sh x)
        have hwk : IntKind.i64.wrap ((k : Int) - 1) = (k : Int) - 1 := IntWalk.i64_in _ (by omega)
        have hq := heap_new1 wr (.cells #[.int .i64 of, .int .i64 wl, .int .i64 wh, .int .i64 sl, .int .i64 sh, .int .i64 pe] 34)
        have HQ := Lib.hid hq
        clear hp hq
        have HNO := Lib.hid (show ∀ b, partB k ⟨of, wl, wh, sl, sh, pe⟩ = b → b = false → chkT t = false from fun b h1 h2 => by
          rw [HR.out]
          exact decide_eq_false fun h => by
            have := h k _ hlt HP.out
            rw [h1, h2] at this
            cases this)
        cases h1 : inR of (-1) ((k : Int) - 1)
        · rw [h1] at HW1
          go_wp2_with (go_at_call 15; refine (HW1.out _).mono ?_; rintro e w1 ⟨rfl, rfl⟩)
          go_ret
          exact ⟨by rw [errT_no (HNO.out _ (by rw [partB, h1]; rfl) rfl)]; rfl, HBP.out⟩
        · rw [h1] at HW1
          cases h2 : spanB wl wh
          · rw [h2] at HS1
            go_wp2_with (first
              | (go_at_call 15; have HX := HW1; clear HW1; refine (HX.out _).mono ?_; clear HX; rintro e w1 ⟨rfl, rfl⟩)
              | (go_at_call 16; have HX := HS1; clear HS1; refine (HX.out _).mono ?_; clear HX; rintro e w4 ⟨rfl, hb4⟩; have HB4 := Lib.hid hb4; have hq4 := (hb4.block _ (heap_lt HQ.out)).trans HQ.out; have f5 := cell_of_heap (o := 3) hq4 rfl; have f6 := cell_of_heap (o := 4) hq4 rfl; clear hb4 hq4))
            go_ret
            exact ⟨by rw [errT_no (HNO.out _ (by rw [partB, h1, h2]; rfl) rfl)]; rfl, hb0to HBP.out HB4.out⟩
          · rw [h2] at HS1
            cases h3 : spanB sl sh
            · rw [h3] at HS2
              go_wp2_with (first
                | (go_at_call 15; have HX := HW1; clear HW1; refine (HX.out _).mono ?_; clear HX; rintro e w1 ⟨rfl, rfl⟩)
                | (go_at_call 16; have HX := HS1; clear HS1; refine (HX.out _).mono ?_; clear HX; rintro e w4 ⟨rfl, hb4⟩; have HB4 := Lib.hid hb4; have hq4 := (hb4.block _ (heap_lt HQ.out)).trans HQ.out; have f5 := cell_of_heap (o := 3) hq4 rfl; have f6 := cell_of_heap (o := 4) hq4 rfl; clear hb4 hq4)
                | (go_at_call 16; refine (HS2.out _).mono ?_; rintro e w5 ⟨rfl, hb5⟩; have HB5 := Lib.hid (hb0to HB4.out hb5); have hq5 := (HB5.out.block _ (heap_lt HQ.out)).trans HQ.out; have f7 := cell_of_heap (o := 5) hq5 rfl; clear hb5 hq5))
              go_ret
              exact ⟨by rw [errT_no (HNO.out _ (by rw [partB, h1, h2, h3]; rfl) rfl)]; rfl, hb0to HBP.out HB5.out⟩
            · rw [h3] at HS2
              cases h4 : inR pe 0 99
              · rw [h4] at HW2
                go_wp2_with (first
                  | (go_at_call 15; have HX := HW1; clear HW1; refine (HX.out _).mono ?_; clear HX; rintro e w1 ⟨rfl, rfl⟩)
                  | (go_at_call 15; refine (HW2.out _).mono ?_; rintro e w1 ⟨rfl, rfl⟩)
                  | (go_at_call 16; have HX := HS1; clear HS1; refine (HX.out _).mono ?_; clear HX; rintro e w4 ⟨rfl, hb4⟩; have HB4 := Lib.hid hb4; have hq4 := (hb4.block _ (heap_lt HQ.out)).trans HQ.out; have f5 := cell_of_heap (o := 3) hq4 rfl; have f6 := cell_of_heap (o := 4) hq4 rfl; clear hb4 hq4)
                  | (go_at_call 16; refine (HS2.out _).mono ?_; rintro e w5 ⟨rfl, hb5⟩; have HB5 := Lib.hid (hb0to HB4.out hb5); have hq5 := (HB5.out.block _ (heap_lt HQ.out)).trans HQ.out; have f7 := cell_of_heap (o := 5) hq5 rfl; clear hb5 hq5))
                go_ret
                exact ⟨by rw [errT_no (HNO.out _ (by rw [partB, h1, h2, h3, h4]; rfl) rfl)]; rfl, hb0to HBP.out HB5.out⟩
              · rw [h4] at HW2
                go_wp2_with (first
                  | (go_at_call 15; have HX := HW1; clear HW1; refine (HX.out _).mono ?_; clear HX; rintro e w1 ⟨rfl, rfl⟩)
                  | (go_at_call 15; refine (HW2.out _).mono ?_; rintro e w1 ⟨rfl, rfl⟩)
                  | (go_at_call 16; have HX := HS1; clear HS1; refine (HX.out _).mono ?_; clear HX; rintro e w4 ⟨rfl, hb4⟩; have HB4 := Lib.hid hb4; have hq4 := (hb4.block _ (heap_lt HQ.out)).trans HQ.out; have f5 := cell_of_heap (o := 3) hq4 rfl; have f6 := cell_of_heap (o := 4) hq4 rfl; clear hb4 hq4)
                  | (go_at_call 16; refine (HS2.out _).mono ?_; rintro e w5 ⟨rfl, hb5⟩; have HB5 := Lib.hid (hb0to HB4.out hb5); have hq5 := (HB5.out.block _ (heap_lt HQ.out)).trans HQ.out; have f7 := cell_of_heap (o := 5) hq5 rfl; clear hb5 hq5))
                go_roundw
                case rel => exact ⟨k + 1, by omega, by go_num, hb0to HBP.out HB5.out, Lib.hid fun i p hi hp => by
                  by_cases hik : i = k
                  · subst hik
                    rw [HP.out] at hp
                    cases hp
                    rw [partB, h1, h2, h3, h4]; rfl
                  · exact HK.out i p (by omega) hp⟩
                case measure => simp [intOf]; omega
      · obtain rfl : k = t.length := by omega
        have HY := Lib.hid (show chkT t = true by rw [HR.out]; exact decide_eq_true HK.out)
        go_wp2
        go_ret
        exact ⟨by rw [errT_yes HY.out]; rfl, hb⟩
  · have HR := Lib.hid (show chkT t = false by unfold chkT; rw [decide_eq_false h8, Bool.false_and])
    have hgt : decide ((8 : Int) < (t.length : Int)) = true := decide_eq_true (by omega)
    go_enter Tryz.func4, Tryz.ntmps4
    go_wp2
    go_ret
    exact ⟨by rw [errT_no HR.out]; rfl, Below.refl _ _⟩

end Go.Proofs.YtmbcpmnigggbaabGreat.Cu
