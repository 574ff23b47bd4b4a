import Derived.Test.YtmbcpmnigggbaaaC9
namespace Go.Proofs.Ytmbcpmnigggbaaa.Cu
open Go.RowKit
attribute [local go_sem] Oper.semAt_some
theorem within_any (n lo hi : Int) (w : World) : Calls Try.prog 122 #[.int .i64 n, .int .i64 lo, .int .i64 hi] w fun e w' => e = .returned (.bool (inR n lo hi)) ∧ w = w' := by
  go_enter Try.func122, Try.ntmps122
  by_cases h1 : lo ≤ n
  · by_cases h2 : n ≤ hi
    · have hr : inR n lo hi = true := inR_true.2 ⟨h1, h2⟩
      rw [hr]
      go_wp2
      go_ret
      exact ⟨rfl, rfl⟩
    · have hr : inR n lo hi = false := inR_false.2 (by omega)
      rw [hr]
      go_wp2
      go_ret
      exact ⟨rfl, rfl⟩
  · have hr : inR n lo hi = false := inR_false.2 (by omega)
    rw [hr]
    go_wp2
    go_ret
    exact ⟨rfl, rfl⟩
theorem slice31all (W : World) (b : Nat) : (Instr.sliceAt 226 (.pointer (some ⟨b, 0, none⟩)) none none none).run Try.prog W = .ok (.slice (some ⟨b, 0, none⟩) 31 31) W := by
  have e : Try.prog.arrayLen 226 = 31 := by kernel_rfl
  have e3 : Try.prog.elem 226 = 3 := by kernel_rfl
  have es : (sizeOf (Try.prog.elem 226)).run Try.prog W = .ok 1 W := by
    obtain ⟨i0, hi, hz0, hz1, hz2⟩ := info_parts info3'
    rw [e3]
    simp [sizeOf, typeInfo, hi, hz1]
  rw [run_sliceAt_array_all W 226 ⟨b, 0, none⟩ (by rw [e, e3]; exact Try.underlying226), es, e]
  simp [slicedAt, Addr.add_mid]
/-- What the body of a round knows. -/
structure BI (w : World) (A : Option Addr) (n c gf : Nat) (lb : Array Value) (ps : List (List Int)) (all : Int) (d b9 : Nat) (of wl wh sl sh pe : Int) (o : Nat) (own : List Int) (X wr : World) : Prop where
  m : LM w A n c gf lb 0 ps wr
  a : wr.heap[d]? = some (.cells #[.int .i64 all] 3 (0, 0))
  b : wr.heap[b9]? = some (.cells #[.int .i64 of, .int .i64 wl, .int .i64 wh, .int .i64 sl, .int .i64 sh, .int .i64 pe] 51 (0, 0))
  ob : CB wr o own
  k : KpB (fun k => k = w.heap.size + 1 + 1 ∨ k = w.heap.size + 1 + 1 + 1 ∨ k = d) X.heap.size X wr
  hd : w.heap.size + 5 ≤ d
  h9 : d < b9
  ho : b9 < o
  hx : X.heap.size ≤ o
section
variable {w : World} {A : Option Addr} {n c gf : Nat} {lb : Array Value} {ps : List (List Int)} {all : Int} {d b9 : Nat} {of wl wh sl sh pe : Int} {o : Nat} {own : List Int} {X wr : World}
theorem BI.next (M : BI w A n c gf lb ps all d b9 of wl wh sl sh pe o own X wr) {wn : World} (hb : Below wr.heap.size wr wn) : BI w A n c gf lb ps all d b9 of wl wh sl sh pe o own X wn :=
  ⟨M.m.kp (S := fun _ => False) (kpB_of_below hb) (fun _ h => h.elim), (hb.block _ (heap_lt M.a)).trans M.a, (hb.block _ (heap_lt M.b)).trans M.b, M.ob.next hb, M.k.trans ((kpB_of_below hb).mono M.k.size fun _ _ h => h), M.hd, M.h9, M.ho, M.hx⟩
theorem BI.away (M : BI w A n c gf lb ps all d b9 of wl wh sl sh pe o own X wr) {z : Nat} (hz : o < z) (u : Nat) (v : Value) : BI w A n c gf lb ps all d b9 of wl wh sl sh pe o own X (wr.setCell ⟨z, u, none⟩ v) := by
  have hd := M.hd; have h9 := M.h9; have ho := M.ho; have hx := M.hx
  exact ⟨M.m.kp (S := fun k => k = z) ((KpB.refl _ _ _).set u v (.inl rfl)) (fun k h => by omega), (set_other_heap (heap_lt M.a) (by omega)).trans M.a, (set_other_heap (heap_lt M.b) (by omega)).trans M.b, M.ob.other (by omega), M.k.set u v (.inr (by omega)), M.hd, M.h9, M.ho, M.hx⟩
theorem BI.setO (M : BI w A n c gf lb ps all d b9 of wl wh sl sh pe o own X wr) (u : Nat) (v : Int) : BI w A n c gf lb ps all d b9 of wl wh sl sh pe o (own.set u v) X (wr.setCell ⟨o, u, none⟩ (.int .i64 v)) := by
  have hd := M.hd; have h9 := M.h9; have ho := M.ho; have hx := M.hx
  exact ⟨M.m.kp (S := fun k => k = o) ((KpB.refl _ _ _).set u _ (.inl rfl)) (fun k h => by omega), (set_other_heap (heap_lt M.a) (by omega)).trans M.a, (set_other_heap (heap_lt M.b) (by omega)).trans M.b, M.ob.set u v, M.k.set u _ (.inr (by omega)), M.hd, M.h9, M.ho, M.hx⟩
theorem setCells_kpB {S : Nat → Prop} {n0 z : Nat} {w0 W : World} (h : KpB S n0 w0 W) (hz : S z ∨ n0 ≤ z) : ∀ (vs : List Value) (u : Nat), KpB S n0 w0 (W.setCells z u vs) := by
  intro vs
  induction vs generalizing W with
  | nil => intro u; exact h
  | cons v vs ih => intro u; rw [World.setCells]; exact ih (h.set u v hz) (u + 1)
theorem BI.putO (M : BI w A n c gf lb ps all d b9 of wl wh sl sh pe o own X wr) {l : List Int} (hl : l.length = own.length) : BI w A n c gf lb ps all d b9 of wl wh sl sh pe o l X (wr.setCells o 0 (vals l)) := by
  have hd := M.hd; have h9 := M.h9; have ho := M.ho; have hx := M.hx
  exact ⟨M.m.kp (S := fun k => k = o) (setCells_kpB (S := fun k => k = o) (KpB.refl _ _ _) (.inl rfl) _ _) (fun k h => by omega), (setCells_other _ _ (by omega) _ _ _ (heap_lt M.a)).trans M.a, (setCells_other _ _ (by omega) _ _ _ (heap_lt M.b)).trans M.b, M.ob.put hl, setCells_kpB M.k (.inr (by omega)) _ _, M.hd, M.h9, M.ho, M.hx⟩
/-- The pieces of another part are stored. -/
theorem BI.putP (M : BI w A n c gf lb ps all d b9 of wl wh sl sh pe o own X wr) {j : Nat} {q q' : List Int} (hq : ps[j]? = some q) (hl : q'.length = 31) : KpB (fun k => k = w.heap.size + 1 + 1 ∨ k = w.heap.size + 1 + 1 + 1 ∨ k = d) X.heap.size X (wr.setCells (w.heap.size + 1 + 1 + 1) (j * 31) (vals q')) ∧ LM w A n c gf lb 0 (ps.set j q') (wr.setCells (w.heap.size + 1 + 1 + 1) (j * 31) (vals q')) ∧ (wr.setCells (w.heap.size + 1 + 1 + 1) (j * 31) (vals q')).heap[d]? = some (.cells #[.int .i64 all] 3 (0, 0)) := by
  have hd := M.hd
  exact ⟨setCells_kpB M.k (.inl (.inr (.inl rfl))) _ _, M.m.put hq hl, (setCells_other _ _ (by omega) _ _ _ (heap_lt M.a)).trans M.a⟩
theorem BI.setA (M : BI w A n c gf lb ps all d b9 of wl wh sl sh pe o own X wr) (v : Int) : KpB (fun k => k = w.heap.size + 1 + 1 ∨ k = w.heap.size + 1 + 1 + 1 ∨ k = d) X.heap.size X (wr.setCell ⟨d, 0, none⟩ (.int .i64 v)) ∧ LM w A n c gf lb 0 ps (wr.setCell ⟨d, 0, none⟩ (.int .i64 v)) ∧ (wr.setCell ⟨d, 0, none⟩ (.int .i64 v)).heap[d]? = some (.cells #[.int .i64 v] 3 (0, 0)) := by
  have hd := M.hd
  exact ⟨M.k.set _ _ (.inl (.inr (.inr rfl))), M.m.kp (S := fun k => k = d) ((KpB.refl _ _ _).set 0 _ (.inl rfl)) (fun k h => by omega), heap_set _ M.a⟩
theorem BI.setR (M : BI w A n c gf lb ps all d b9 of wl wh sl sh pe o own X wr) (v : Int) : KpB (fun k => k = w.heap.size + 1 + 1 ∨ k = w.heap.size + 1 + 1 + 1 ∨ k = d) X.heap.size X (wr.setCell ⟨w.heap.size + 1 + 1, 0, none⟩ (.int .i64 v)) ∧ LM w A n c gf lb v ps (wr.setCell ⟨w.heap.size + 1 + 1, 0, none⟩ (.int .i64 v)) :=
  ⟨M.k.set _ _ (.inl (.inl rfl)), M.m.setR v⟩
end
set_option maxRecDepth 100000 in
set_option maxHeartbeats 4000000 in
theorem least_any (A : Option Addr) (c : Nat) (t : List CP) (hl : t.length ≤ 8) (gf : Nat) (lb : Array Value) (cost : Nat → Nat → Int) (w : World) (hT : TableAt w w.heap.size A t) (eg : ∀ args w, (callFunc gf args).run Try.prog w = .ok (.enter gf args) w)
    (hf : ∀ (i v : Nat) (X : World), i < t.length → v < 31 → Below w.heap.size w X → Calls Try.prog gf (#[.int .i64 i, .int .i64 v] ++ lb) X fun e X' => e = .returned (.int .i64 (cost i v)) ∧ Below X.heap.size X X')
    (hb : ∀ i v, cost i v = far ∨ (-3000 ≤ cost i v ∧ cost i v ≤ 3000)) (ho : ∀ (i : Nat) p, t[i]? = some p → p.of = -1 ∨ (0 ≤ p.of ∧ p.of < i)) :
    Calls Try.prog 167 #[.slice A t.length c, .func (.func gf) #[] lb] w fun e w' => e = .returned (.int .i64 (leastF t cost)) ∧ Below w.heap.size w w' := by
  have HT := Lib.hid hT
  have HF := Lib.hid hf
  have HB := Lib.hid hb
  have HO := Lib.hid ho
  clear hT hf hb ho
  refine (callsIn_wide (n := 10)).1 ?_
  refine callsIn_of_wp_marks Try.func167 rfl trivial ?_ rfl
  simp only [Try.ntmps167, List.size_toArray, List.length_cons, List.length_nil, Nat.reduceAdd, Nat.reduceSub, Array.replicate_succ, Array.replicate_zero, List.push_toArray, List.append_toArray, List.nil_append, List.cons_append]
  gi_wp2_with (refine wplIn_make224 rfl (.tmp 17) rfl t.length rfl (by omega) ?_)
  have hI := LM.new w A t.length c gf lb
  rw [fillP_zero] at hI
  obtain ⟨W1, hW1⟩ : ∃ W1, ((((w.alloc (.cells #[.slice A t.length c] 103)).alloc (.cells #[.func (.func gf) #[] lb] 183)).alloc (.cells #[.int .i64 0] 3)).alloc (.cells (vals (fillP t.length 0).flatten).toArray 226)).alloc (.cells #[.slice (some ⟨w.heap.size + 1 + 1 + 1, 0, none⟩) t.length t.length] 224) = W1 := ⟨_, rfl⟩
  rw [fillP_zero]
  rw [hW1] at hI ⊢
  have HI := Lib.hid hI
  clear hW1 hI
  gi_loopw [21] (fun i wr => ∃ k : Nat, k ≤ t.length ∧ i = .int .i64 k ∧ Hid (LM w A t.length c gf lb 0 (fillP t.length k) wr)) (fun i _ => t.length - (intOf i).toNat)
  case atStart => exact ⟨0, Nat.zero_le _, rfl, HI⟩
  case round =>
    clear HI
    obtain ⟨k, hk, rfl, HI⟩ := hrel
    have e4 := extB_cell (cell_of_heap (o := 0) HI.out.s rfl)
    by_cases hlt : k < t.length
    · have HN := Lib.hid (fun x => nothing_any (extB wr x))
      gi_wp2_with (fail)
      refine wpIn_wide.2 ?_
      refine wp_region_tailC 4 (by rfl) (by kernel_rfl) (by kernel_rfl) (by kernel_rfl) (by kernel_rfl) ?_
      simp only [List.take_succ_cons, List.take_zero, List.getD_cons_succ, List.getD_cons_zero, List.cons_append, List.nil_append, Li.idle]
      repeat (go_big_quiet_step ((go_at_call 190; exact ext_call (HN.out _))))
      refine wpQuiet_nil ?_
      rintro _ ⟨x1, rfl⟩
      have hI2 := HI.out.kp (S := fun _ => False) (kpB_of_below (extB_below wr x1)) (fun _ h => h.elim)
      obtain ⟨W8, hW8⟩ : ∃ W8, extB wr x1 = W8 := ⟨_, rfl⟩
      rw [hW8] at hI2 ⊢
      clear hW8 e4
      refine wp_storeO (.tmp 27) (.tmp 26) rfl (w.heap.size + 1 + 1 + 1) (k * 31) (by rfl) nothingL nothingL_len (by rfl) (hI2.p.there (fillP_at hlt)) ?_
      have hI3 := hI2.put (fillP_at hlt) nothingL_len
      rw [fillP_next hlt] at hI3
      obtain ⟨W9, hW9⟩ : ∃ W9, W8.setCells (w.heap.size + 1 + 1 + 1) (k * 31) (vals nothingL) = W9 := ⟨_, rfl⟩
      rw [hW9] at hI3 ⊢
      clear hW9
      gi_wp2_with (fail)
      go_roundw
      case rel => exact ⟨k + 1, by omega, by go_num, Lib.hid hI3⟩
      case measure => simp [intOf]; omega
    · obtain rfl : k = t.length := by omega
      clear hlt hk
      rw [fillP_all] at HI
      have hq := HI.out.lt
      have e0 := below_cell (al_below wr (.cells #[.int .i64 0] 3)) (cell_of_heap (o := 0) HI.out.t rfl)
      have HB0 := Lib.hid (fun x => back_any A c t.length x)
      gi_wp2_with (refine ⟨trivial, ?_⟩; gi_at_call 191; refine (CallsIn.mono (callsIn_wide.2 (HB0.out _)) ?_); rintro e W5 ⟨rfl, rfl⟩)
      have hbX := hb0to (al_below wr (.cells #[.int .i64 0] 3)) (al_below _ (.cells #[.slice A t.length c] 103))
      have hm1 := HI.out.kp (S := fun _ => False) (kpB_of_below hbX) (fun _ h => h.elim)
      have ha1 := heap_keep (o' := .cells #[.slice A t.length c] 103) (heap_new1 wr (.cells #[.int .i64 0] 3))
      have hg1 := heap_new2 wr (.cells #[.int .i64 0] 3) (.cells #[.slice A t.length c] 103)
      have hz1 : ((wr.alloc (.cells #[.int .i64 0] 3)).alloc (.cells #[.slice A t.length c] 103)).heap.size = wr.heap.size + 1 + 1 := by simp
      obtain ⟨W1, hW1⟩ : ∃ W1, (wr.alloc (.cells #[.int .i64 0] 3)).alloc (.cells #[.slice A t.length c] 103) = W1 := ⟨_, rfl⟩
      rw [hW1] at hm1 ha1 hg1 hz1 ⊢
      obtain ⟨d, hd⟩ : ∃ d, wr.heap.size = d := ⟨_, rfl⟩
      rw [hd] at ha1 hg1 hz1 hq ⊢
      have HM1 := Lib.hid hm1
      have HA1 := Lib.hid ha1
      have HG1 := Lib.hid hg1
      clear e0 e4 hbX hm1 ha1 hg1 hW1 HI HB0 hd
      refine wpIn_rangeFunc_makes (S := fun k => k = w.heap.size + 1 + 1 ∨ k = w.heap.size + 1 + 1 + 1 ∨ k = d) (Sees := SeesB) (fb := #[]) (lb := #[.pointer (some ⟨d + 1, 0, none⟩)]) (xs := backL t) (w0 := W1) rfl (by omega) rfl trivial (fun _ _ => rfl)
        (back_makes 9 A c t (by omega) (d + 1) w W1 HT.out HG1.out HM1.out.bl _ (by omega) (fun k hk => by omega)) (Below.refl _ _) (fun k hk => by omega)
        (fun B x args X hs => by cases hs; rfl) (fun B x args X Y _ hs hk => hs)
        (fun pre X => ∃ ps all, runC t cost pre.length = some (ps, all) ∧ LM w A t.length c gf lb 0 ps X ∧ X.heap[d]? = some (.cells #[.int .i64 all] 3 (0, 0)))
        (fun e pre X => e = .ret ∧ runC t cost pre.length = none ∧ ∃ ps, LM w A t.length c gf lb far ps X)
        ?hI ?hIx ?h0 (fun x args a' X => ∃ b9, W1.heap.size + 2 ≤ b9 ∧ X.heap[b9]? = some (.cells #[.int .i64 x.1.of, .int .i64 x.1.wl, .int .i64 x.1.wh, .int .i64 x.1.sl, .int .i64 x.1.sh, .int .i64 x.1.pe] 51 (0, 0)) ∧ a' = { tmps := #[.slice A t.length c, .func (.func gf) #[] lb, .pointer (some ⟨w.heap.size, 0, none⟩), .pointer (some ⟨w.heap.size + 1, 0, none⟩), .pointer (some ⟨w.heap.size + 1 + 1, 0, none⟩), .pointer (some ⟨w.heap.size + 1 + 1 + 1 + 1, 0, none⟩), u6, .pointer (some ⟨d, 0, none⟩), args.getD 0 undef, .pointer (some ⟨b9, 0, none⟩), undef, undef, undef, undef, undef, undef, .slice A t.length c, .int .i64 t.length, .slice (some ⟨w.heap.size + 1 + 1 + 1, 0, none⟩) t.length t.length, .slice (some ⟨w.heap.size + 1 + 1 + 1, 0, none⟩) t.length t.length, .int .i64 t.length, .int .i64 t.length, .bool false, u23, u24, u25, u26, u27, u28, .slice A t.length c, .func (.func 205) #[] #[.pointer (some ⟨d + 1, 0, none⟩)], args.getD 0 undef, args.getD 1 undef, undef, undef, undef, undef, undef, undef, undef, undef, undef, undef, undef, undef, undef, undef, undef, undef, undef, undef, undef, undef, undef, undef, undef, undef, undef, undef, undef, undef, undef, undef, undef, undef, undef, undef, undef, undef, undef, undef, undef, undef, undef, undef, undef, undef, undef, undef, undef, undef, undef, undef, undef, undef, undef, undef, undef, undef, undef, undef, undef, undef, undef, undef, undef, undef, undef, undef, undef, undef, undef, undef, undef], defers := [] }) ?hAx ?hassign ?hbody ?hdone ?hstop
      case hI =>
        rintro s X Y hX ⟨ps, all, h1, h2, h3⟩ hk
        exact ⟨ps, all, h1, h2.kp hk (fun k hs => by have := hs.1; omega), (hk.block _ (heap_lt h3) (fun hs => by have := hs.1; omega)).trans h3⟩
      case hIx =>
        rintro e s X Y hX ⟨h0, h1, ps, h2⟩ hk
        exact ⟨h0, h1, ps, h2.kp hk (fun k hs => by have := hs.1; omega)⟩
      case h0 =>
        intro X hX hb
        exact ⟨_, _, rfl, HM1.out.kp (S := fun _ => False) (kpB_of_below hb) (fun _ h => h.elim), (hb.block _ (heap_lt HA1.out)).trans HA1.out⟩
      case hAx =>
        rintro x args a' X Y hz ⟨b9, h1, h2, h3⟩ hk
        exact ⟨b9, h1, (hk.block _ (heap_lt h2) (fun hs => by have hs' : b9 < W1.heap.size + 2 := hs; omega)).trans h2, h3⟩
      case hassign =>
        intro l' x args X K hz hs hK
        cases hs
        have hK' := hK _ (X.alloc (.cells #[.int .i64 x.1.of, .int .i64 x.1.wl, .int .i64 x.1.wh, .int .i64 x.1.sl, .int .i64 x.1.sh, .int .i64 x.1.pe] 51)) (.inr ⟨_, rfl⟩) ⟨X.heap.size, by omega, World.alloc_heap_new X _, rfl⟩
        clear hK
        simp only [List.zip_toArray, List.zip_cons_cons, List.zip_nil_right, List.foldl_toArray, List.foldl_cons, List.foldl_nil, List.setIfInBounds_toArray, List.set_cons_succ, List.set_cons_zero]
        gi_wp2_with (fail)
        exact hK'
      case hbody =>
        rintro l' pre ⟨⟨of, wl, wh, sl, sh, pe⟩, i⟩ args a' X hX hpre ⟨ps, all, hrun, hm, ha⟩ hsee ⟨b9, hb9, hB9, rfl⟩
        cases hsee
        obtain ⟨hkl, hi, hp⟩ := back_pre_at hpre
        simp only at hi hp hB9
        have hrn := run_next t cost hp
        rw [← hi] at hp hrn
        rw [hrun] at hrn
        have hlen : (pre ++ [((⟨of, wl, wh, sl, sh, pe⟩ : CP), i)]).length = pre.length + 1 := by simp
        rw [← hlen] at hrn
        have hilt : i < t.length := by omega
        have hcf := HO.out i _ hp
        simp only at hcf
        obtain ⟨hps, hfin, hal1, hal2⟩ := run_fin HB.out pre.length ps all (by omega) hrun
        have hbn0 := bndC_nonneg pre.length
        have hbn8 := bndC_le pre.length (by omega)
        have hal3 : -8000000 ≤ all := by omega
        have hal4 : all ≤ 8000000 := by omega
        generalize bndC pre.length = bn at hfin hbn0 hbn8
        obtain ⟨pc, hpc⟩ : ∃ pc, ps[i]? = some pc := ⟨_, List.getElem?_eq_getElem (by omega)⟩
        have hpcF := hfin pc (List.mem_of_getElem? hpc)
        have hgd : ps.getD i [] = pc := by rw [List.getD_eq_getElem?_getD, hpc]; rfl
        have hbase := base_fin hbn0 (by unfold far; omega) t i ⟨of, wl, wh, sl, sh, pe⟩ hpcF
        have hown := own_fin hbase (HB.out i)
        have hcost := HB.out i
        simp only [stepC, hgd] at hrn
        have M := Lib.hid (show BI w A t.length c gf lb ps all d b9 of wl wh sl sh pe X.heap.size (List.replicate 31 0) X (X.alloc (.cells #[.int .i64 0, .int .i64 0, .int .i64 0, .int .i64 0, .int .i64 0, .int .i64 0, .int .i64 0, .int .i64 0, .int .i64 0, .int .i64 0, .int .i64 0, .int .i64 0, .int .i64 0, .int .i64 0, .int .i64 0, .int .i64 0, .int .i64 0, .int .i64 0, .int .i64 0, .int .i64 0, .int .i64 0, .int .i64 0, .int .i64 0, .int .i64 0, .int .i64 0, .int .i64 0, .int .i64 0, .int .i64 0, .int .i64 0, .int .i64 0, .int .i64 0] 226)) from ⟨hm.kp (S := fun _ => False) (kpB_of_below (al_below X _)) (fun _ h => h.elim), heap_keep ha, heap_keep hB9, CB.zero X, (KpB.refl _ _ _).alloc _ (Nat.le_refl _), by omega, by omega, heap_lt hB9, Nat.le_refl _⟩)
        have HC := Lib.hid (canCut_any A c t (by omega) i _ (HT.out.lt M.out.m.bl))
        have e0 := cell_of_heap (o := 0) M.out.m.t rfl
        have HRN := Lib.hid hrn
        have HPC := Lib.hid hpc
        have HPF := Lib.hid hpcF
        have HOW := Lib.hid hown
        have HBA := Lib.hid hbase
        have HCO := Lib.hid hcost
        have HFI := Lib.hid hfin
        have HCF := Lib.hid hcf
        have hXo : b9 < X.heap.size := heap_lt hB9
        obtain ⟨o, ho⟩ : ∃ o, X.heap.size = o := ⟨_, rfl⟩
        clear hrn hpc hpcF hown hbase hcost hfin hrun hm ha hB9 hlen hgd hcf hp hpre hi HA1 HM1 HG1
        cases hcc : canCut t i
        · rw [hcc] at HC
          gi_wp2_with (refine ⟨trivial, ?_⟩; gi_at_call 192; refine (CallsIn.mono (CallsIn.inRound l' (callsIn_wide.2 HC.out)) ?_); rintro e W5 ⟨rfl, hb5⟩; have M5 := Lib.hid (M.out.next hb5); have MN := M5; clear M e0 hb5 HC; have M := MN; clear MN M5)
          rw [ho] at M
          have HBE := Lib.hid (show baseL t i ⟨of, wl, wh, sl, sh, pe⟩ pc = List.replicate 31 0 by unfold baseL; rw [hcc]; rfl)
          obtain ⟨base, hbe⟩ : ∃ base, baseL t i ⟨of, wl, wh, sl, sh, pe⟩ pc = base := ⟨_, rfl⟩
          rw [← HBE.out, hbe] at M
          rw [hbe] at HRN HOW HBA
          clear HBE hbe
          gi_loopw [58] (fun iv wr => ∃ k : Nat, k ≤ 31 ∧ iv = .int .i64 k ∧ Hid (BI w A t.length c gf lb ps all d b9 of wl wh sl sh pe o (mixTo (ownL (cost i) base) base k) X wr)) (fun iv _ => 31 - (intOf iv).toNat)
          case atStart => exact ⟨0, Nat.zero_le _, rfl, by rw [mixTo_zero]; exact M⟩
          case round =>
            clear M
            obtain ⟨k, hk, rfl, M⟩ := hrel
            by_cases hlt : k < 31
            · have hd1 : decide ((k : Int) < 31) = true := decide_eq_true (by omega)
              have hki : (k : Int) < 31 := by omega
              have f1 := cell_of_heap (o := 0) M.out.m.f rfl
              have HC := Lib.hid (HF.out i k wr hilt hlt M.out.m.bl)
              have hv := HCO.out k
              have hy := cat_fin HBA.out k
              have hx := ownL_at (cost i) base hlt
              have hmx : (mixTo (ownL (cost i) base) base k)[k]? = some (cat base k) := by rw [mixTo_at (by rw [ownL_len]; exact hlt) (by rw [ownL_len]; exact HBA.out.1), cat_at (by rw [HBA.out.1]; exact hlt)]
              obtain ⟨y, hye⟩ : ∃ y, cat base k = y := ⟨_, rfl⟩
              obtain ⟨v, hve⟩ : ∃ v, cost i k = v := ⟨_, rfl⟩
              rw [hye] at hy hx hmx
              rw [hve] at hv hx HC
              have HX := Lib.hid hx
              have HMX := Lib.hid hmx
              clear hx hmx hye hve
              have hml : base.length = (ownL (cost i) base).length := by rw [ownL_len]; exact HBA.out.1
              have HML := Lib.hid hml
              clear hml
              by_cases hvf : v < far
              · have hvf' : v < 1099511627776 := hvf
                by_cases hyf : y < far
                · have hyf' : y < 1099511627776 := hyf
                  have hw : IntKind.i64.wrap (y + v) = y + v := IntWalk.i64_in _ (by unfold far at *; omega)
                  gi_wp2_with (refine ⟨trivial, ?_⟩; refine (CallsIn.mono (CallsIn.inRound l' (callsIn_wide.2 HC.out)) ?_); rintro e W5 ⟨rfl, hb5⟩; have M5 := Lib.hid (M.out.next hb5); have g1 := M5.out.ob.cell HMX.out; have g2 := M5.out.ob.frozen k; clear hb5)
                  go_roundw
                  case rel => exact ⟨k + 1, by omega, by go_num, Lib.hid (by have := M5.out.setO k (y + v); rwa [mixTo_set (by rw [HX.out, if_pos ⟨hvf, hyf⟩]) HML.out] at this)⟩
                  case measure => simp [intOf]; omega
                · have hyf' : ¬ y < 1099511627776 := hyf
                  gi_wp2_with (refine ⟨trivial, ?_⟩; refine (CallsIn.mono (CallsIn.inRound l' (callsIn_wide.2 HC.out)) ?_); rintro e W5 ⟨rfl, hb5⟩; have M5 := Lib.hid (M.out.next hb5); have g1 := M5.out.ob.cell HMX.out; have g2 := M5.out.ob.frozen k; clear hb5)
                  go_roundw
                  case rel => exact ⟨k + 1, by omega, by go_num, Lib.hid (by have := M5.out.setO k far; rwa [mixTo_set (by rw [HX.out, if_neg (fun h => by omega)]) HML.out] at this)⟩
                  case measure => simp [intOf]; omega
              · have hvf' : ¬ v < 1099511627776 := hvf
                gi_wp2_with (refine ⟨trivial, ?_⟩; refine (CallsIn.mono (CallsIn.inRound l' (callsIn_wide.2 HC.out)) ?_); rintro e W5 ⟨rfl, hb5⟩; have M5 := Lib.hid (M.out.next hb5); have g1 := M5.out.ob.cell HMX.out; have g2 := M5.out.ob.frozen k; clear hb5)
                go_roundw
                case rel => exact ⟨k + 1, by omega, by go_num, Lib.hid (by have := M5.out.setO k far; rwa [mixTo_set (by rw [HX.out, if_neg (fun h => by omega)]) HML.out] at this)⟩
                case measure => simp [intOf]; omega
            · obtain rfl : k = 31 := by omega
              rw [mixTo_all (ownL_len _ _) HBA.out.1] at M
              clear hlt hk
              obtain ⟨own, hoe⟩ : ∃ own, ownL (cost i) base = own := ⟨_, rfl⟩
              rw [hoe] at M HRN HOW
              clear hoe
              by_cases hof : of = -1
              · subst hof
                have hmf := min_fin HOW.out
                have HR2 := Lib.hid (show runC t cost _ = if far ≤ minL own then none else some (ps, all + minL own) from HRN.out.trans (if_neg (fun h => h rfl)))
                have f5 := cell_of_heap (o := 0) M.out.b rfl
                have e31 := slice31all wr o
                have HC := Lib.hid (min_any o own HOW.out.1 wr M.out.ob)
                have fd := cell_of_heap (o := 0) M.out.a rfl
                have fdz := frozen_of_heap M.out.a
                have fr := cell_of_heap (o := 0) M.out.m.r rfl
                have frz := frozen_of_heap M.out.m.r
                obtain ⟨m, hme⟩ : ∃ m, minL own = m := ⟨_, rfl⟩
                rw [hme] at hmf HR2 HC
                clear hme HRN
                by_cases hfm : far ≤ m
                · have hfm' : (1099511627776 : Int) ≤ m := hfm
                  gi_wp2_with (refine ⟨trivial, ?_⟩; gi_at_call 194; refine (CallsIn.mono (CallsIn.inRound l' (callsIn_wide.2 HC.out)) ?_); rintro e W5 ⟨rfl, rfl⟩)
                  obtain ⟨q1, q2⟩ := M.out.setR far
                  exact ⟨q1, rfl, HR2.out.trans (if_pos hfm), ps, q2⟩
                · have hfm' : ¬ (1099511627776 : Int) ≤ m := hfm
                  have hw : IntKind.i64.wrap (all + m) = all + m := IntWalk.i64_in _ (by unfold far at *; omega)
                  gi_wp2_with (refine ⟨trivial, ?_⟩; gi_at_call 194; refine (CallsIn.mono (CallsIn.inRound l' (callsIn_wide.2 HC.out)) ?_); rintro e W5 ⟨rfl, rfl⟩)
                  obtain ⟨q1, q2, q3⟩ := M.out.setA (all + m)
                  exact ⟨q1, ps, all + m, HR2.out.trans (if_neg (show ¬ far ≤ m by omega)), q2, q3⟩
              · obtain ⟨j, rfl⟩ : ∃ j : Nat, of = (j : Int) := ⟨of.toNat, by have := HCF.out; omega⟩
                have hji : j < i := by have := HCF.out; omega
                obtain ⟨pj, hpj⟩ : ∃ pj, ps[j]? = some pj := ⟨_, List.getElem?_eq_getElem (by omega)⟩
                have hpjF := HFI.out pj (List.mem_of_getElem? hpj)
                have HR2 := Lib.hid (show runC t cost _ = some (ps.set j (plusL pj own), all) from HRN.out.trans ((if_pos hof).trans (by rw [Int.toNat_natCast, List.getD_eq_getElem?_getD, hpj]; rfl)))
                have f5 := cell_of_heap (o := 0) M.out.b rfl
                have e4 := extB_cell (cell_of_heap (o := 0) M.out.m.s rfl)
                have e5 := extB_cell (cell_of_heap (o := 0) M.out.b rfl)
                have HC := Lib.hid (fun x => plus_any pj own bn (bn + 3000) hpjF HOW.out (by unfold far; omega) (extB wr x))
                have HPJ := Lib.hid hpj
                have HPL := Lib.hid hpjF.1
                have hd7 : decide ((j : Int) = -1) = false := decide_eq_false hof
                clear hpjF hpj HRN
                gi_wp2_with (fail)
                refine wpIn_region_tailC 11 (by rfl) (by rintro ⟨_, _, hh⟩; exact hh) (by rfl) (by kernel_rfl) (by kernel_rfl) (by kernel_rfl) (by kernel_rfl) ?_
                simp only [List.take_succ_cons, List.take_zero, List.getD_cons_succ, List.getD_cons_zero, List.cons_append, List.nil_append, Li.idle]
                repeat (first
                  | (refine wpQuiet_loadO rfl (.tmp 91) rfl (w.heap.size + 1 + 1 + 1) (j * 31) (by rfl) pj HPL.out (M.out.m.p.range HPJ.out) ?_; simp only [Act.put, List.setIfInBounds_toArray, List.set_cons_succ, List.set_cons_zero])
                  | (refine wpQuiet_loadO rfl (.tmp 10) rfl o 0 (by rfl) own HOW.out.1 M.out.ob.range ?_; simp only [Act.put, List.setIfInBounds_toArray, List.set_cons_succ, List.set_cons_zero])
                  | go_big_quiet_step ((go_at_call 193; exact ext_call (HC.out _))))
                refine wpQuiet_nil ?_
                rintro _ ⟨x1, rfl⟩
                have M8 := M.out.next (extB_below wr x1)
                obtain ⟨W8, hW8⟩ : ∃ W8, extB wr x1 = W8 := ⟨_, rfl⟩
                rw [hW8] at M8 ⊢
                clear hW8 e4 e5
                refine wp_storeO (.tmp 95) (.tmp 94) rfl (w.heap.size + 1 + 1 + 1) (j * 31) (by rfl) (plusL pj own) (plusL_len _ _) (by rfl) (M8.m.p.there HPJ.out) ?_
                obtain ⟨q1, q2, q3⟩ := M8.putP HPJ.out (plusL_len pj own)
                obtain ⟨W9, hW9⟩ : ∃ W9, W8.setCells (w.heap.size + 1 + 1 + 1) (j * 31) (vals (plusL pj own)) = W9 := ⟨_, rfl⟩
                rw [hW9] at q1 q2 q3 ⊢
                clear hW9
                gi_wp2_with (fail)
                exact ⟨q1, _, all, HR2.out, q2, q3⟩
        · rw [hcc] at HC
          gi_wp2_with (refine ⟨trivial, ?_⟩; gi_at_call 192; refine (CallsIn.mono (CallsIn.inRound l' (callsIn_wide.2 HC.out)) ?_); rintro e W5 ⟨rfl, hb5⟩; have M5 := Lib.hid (M.out.next hb5); have MN := M5; clear M e0 hb5 HC; have M := MN; clear MN M5)
          rw [ho] at M
          have hC6 := CB.zero W5
          have M6 := M.out.next (al_below W5 (.cells #[.int .i64 0, .int .i64 0, .int .i64 0, .int .i64 0, .int .i64 0, .int .i64 0, .int .i64 0, .int .i64 0, .int .i64 0, .int .i64 0, .int .i64 0, .int .i64 0, .int .i64 0, .int .i64 0, .int .i64 0, .int .i64 0, .int .i64 0, .int .i64 0, .int .i64 0, .int .i64 0, .int .i64 0, .int .i64 0, .int .i64 0, .int .i64 0, .int .i64 0, .int .i64 0, .int .i64 0, .int .i64 0, .int .i64 0, .int .i64 0, .int .i64 0] 226))
          have hoo2 : o < W5.heap.size := M.out.ob.lt
          obtain ⟨W6, hW6⟩ : ∃ W6, W5.alloc (.cells #[.int .i64 0, .int .i64 0, .int .i64 0, .int .i64 0, .int .i64 0, .int .i64 0, .int .i64 0, .int .i64 0, .int .i64 0, .int .i64 0, .int .i64 0, .int .i64 0, .int .i64 0, .int .i64 0, .int .i64 0, .int .i64 0, .int .i64 0, .int .i64 0, .int .i64 0, .int .i64 0, .int .i64 0, .int .i64 0, .int .i64 0, .int .i64 0, .int .i64 0, .int .i64 0, .int .i64 0, .int .i64 0, .int .i64 0, .int .i64 0, .int .i64 0] 226) = W6 := ⟨_, rfl⟩
          rw [hW6] at M6 hC6 ⊢
          obtain ⟨o2, ho2⟩ : ∃ o2, W5.heap.size = o2 := ⟨_, rfl⟩
          rw [ho2] at hC6 hoo2 ⊢
          have MN := Lib.hid M6
          have HC2 := Lib.hid hC6
          clear M M6 hC6 hW6 ho2
          have M := MN
          clear MN
          gi_loopw [36] (fun iv wr => ∃ k : Nat, k ≤ 31 ∧ iv = .int .i64 k ∧ Hid (BI w A t.length c gf lb ps all d b9 of wl wh sl sh pe o (List.replicate 31 0) X wr) ∧ Hid (CB wr o2 (mixTo (lostL ⟨of, wl, wh, sl, sh, pe⟩) (List.replicate 31 0) k))) (fun iv _ => 31 - (intOf iv).toNat)
          case atStart => exact ⟨0, Nat.zero_le _, rfl, M, by rw [mixTo_zero]; exact HC2⟩
          case round =>
            clear M HC2
            obtain ⟨k, hk, rfl, M, HC2⟩ := hrel
            by_cases hlt : k < 31
            · have hd1 : decide ((k : Int) < 31) = true := decide_eq_true (by omega)
              have hki : (k : Int) < 31 := by omega
              have hz31 : (List.replicate 31 (0 : Int)).length = (lostL ⟨of, wl, wh, sl, sh, pe⟩).length := by rw [lostL_len, List.length_replicate]
              have hmx : (mixTo (lostL ⟨of, wl, wh, sl, sh, pe⟩) (List.replicate 31 0) k)[k]? = some 0 := by rw [mixTo_at (by rw [lostL_len]; exact hlt) hz31]; exact List.getElem?_replicate_of_lt hlt
              have hmk : k < (mixTo (lostL ⟨of, wl, wh, sl, sh, pe⟩) (List.replicate 31 0) k).length := (List.getElem?_eq_some_iff.1 hmx).1
              have HX := Lib.hid (lostL_at ⟨of, wl, wh, sl, sh, pe⟩ hlt)
              have HZ31 := Lib.hid hz31
              have g1 := HC2.out.cell hmx
              have g2 := HC2.out.frozen k
              have M2 := M.out.away hoo2 k (.int .i64 1099511627776)
              have c2 := HC2.out.set k 1099511627776
              have f6 := cell_of_heap (o := 3) M2.b rfl
              have f7 := cell_of_heap (o := 4) M2.b rfl
              have g3 := c2.cell (List.getElem?_set_self hmk)
              have g4 := c2.frozen k
              have HW := Lib.hid (within_any k sl sh (wr.setCell ⟨o2, k, none⟩ (.int .i64 1099511627776)))
              have c3 := c2.set k 0
              rw [List.set_set] at c3
              have HC3 := Lib.hid c3
              have HCC := Lib.hid c2
              have HM2 := Lib.hid M2
              clear hmx hmk hz31 c3 c2 M2
              cases hr : inR k sl sh
              · rw [hr] at HW
                have hr' := inR_false.1 hr
                clear hr
                gi_wp2_with (refine ⟨trivial, ?_⟩; gi_at_call 122; refine (CallsIn.mono (CallsIn.inRound l' (callsIn_wide.2 HW.out)) ?_); rintro e W7 ⟨rfl, rfl⟩)
                go_roundw
                case rel => exact ⟨k + 1, by omega, by go_num, HM2, Lib.hid (by rw [← mixTo_set (by rw [HX.out, if_neg hr']) HZ31.out]; exact HCC.out)⟩
                case measure => simp [intOf]; omega
              · rw [hr] at HW
                have hr' := inR_true.1 hr
                clear hr
                gi_wp2_with (refine ⟨trivial, ?_⟩; gi_at_call 122; refine (CallsIn.mono (CallsIn.inRound l' (callsIn_wide.2 HW.out)) ?_); rintro e W7 ⟨rfl, rfl⟩)
                go_roundw
                case rel => exact ⟨k + 1, by omega, by go_num, Lib.hid (HM2.out.away hoo2 k (.int .i64 0)), Lib.hid (by rw [← mixTo_set (by rw [HX.out, if_pos hr']) HZ31.out]; exact HC3.out)⟩
                case measure => simp [intOf]; omega
            · obtain rfl : k = 31 := by omega
              rw [mixTo_all (lostL_len _) List.length_replicate] at HC2
              clear hlt hk
              have e4 := extB_cell (cell_of_heap (o := 0) M.out.m.s rfl)
              have HC := Lib.hid (fun x => plus_any pc (lostL ⟨of, wl, wh, sl, sh, pe⟩) bn 0 HPF.out (lost_fin _) (by unfold far; omega) (extB wr x))
              gi_wp2_with (fail)
              refine wpIn_region_tailC 6 (by rfl) (by rintro ⟨_, _, hh⟩; exact hh) (by rfl) (by kernel_rfl) (by kernel_rfl) (by kernel_rfl) (by kernel_rfl) ?_
              simp only [List.take_succ_cons, List.take_zero, List.getD_cons_succ, List.getD_cons_zero, List.cons_append, List.nil_append, Li.idle]
              repeat (first
                | (refine wpQuiet_loadO rfl (.tmp 54) rfl (w.heap.size + 1 + 1 + 1) (i * 31) (by rfl) pc HPF.out.1 (M.out.m.p.range HPC.out) ?_; simp only [Act.put, List.setIfInBounds_toArray, List.set_cons_succ, List.set_cons_zero])
                | (refine wpQuiet_loadO rfl (.tmp 11) rfl o2 0 (by rfl) (lostL ⟨of, wl, wh, sl, sh, pe⟩) (lostL_len _) HC2.out.range ?_; simp only [Act.put, List.setIfInBounds_toArray, List.set_cons_succ, List.set_cons_zero])
                | go_big_quiet_step ((go_at_call 193; exact ext_call (HC.out _))))
              refine wpQuiet_nil ?_
              rintro _ ⟨x1, rfl⟩
              have M8 := M.out.next (extB_below wr x1)
              obtain ⟨W8, hW8⟩ : ∃ W8, extB wr x1 = W8 := ⟨_, rfl⟩
              rw [hW8] at M8 ⊢
              clear hW8 e4 HC M
              refine wp_storeO (.tmp 10) (.tmp 57) rfl o 0 (by rfl) (plusL pc (lostL ⟨of, wl, wh, sl, sh, pe⟩)) (plusL_len _ _) (by rfl) (by have := M8.ob.there; rwa [List.length_replicate] at this) ?_
              have M := Lib.hid (M8.putO (l := plusL pc (lostL ⟨of, wl, wh, sl, sh, pe⟩)) (by rw [plusL_len, List.length_replicate]))
              obtain ⟨W9, hW9⟩ : ∃ W9, W8.setCells o 0 (vals (plusL pc (lostL ⟨of, wl, wh, sl, sh, pe⟩))) = W9 := ⟨_, rfl⟩
              rw [hW9] at M ⊢
              clear hW9 M8
              have HBE := Lib.hid (show baseL t i ⟨of, wl, wh, sl, sh, pe⟩ pc = plusL pc (lostL ⟨of, wl, wh, sl, sh, pe⟩) by unfold baseL; rw [hcc]; rfl)
              obtain ⟨base, hbe⟩ : ∃ base, baseL t i ⟨of, wl, wh, sl, sh, pe⟩ pc = base := ⟨_, rfl⟩
              rw [← HBE.out, hbe] at M
              rw [hbe] at HRN HOW HBA
              clear HBE hbe HC2
              gi_wp2_with (fail)
              gi_loopw [58] (fun iv wr => ∃ k : Nat, k ≤ 31 ∧ iv = .int .i64 k ∧ Hid (BI w A t.length c gf lb ps all d b9 of wl wh sl sh pe o (mixTo (ownL (cost i) base) base k) X wr)) (fun iv _ => 31 - (intOf iv).toNat)
              case atStart => exact ⟨0, Nat.zero_le _, rfl, by rw [mixTo_zero]; exact M⟩
              case round =>
                clear M
                obtain ⟨k, hk, rfl, M⟩ := hrel
                by_cases hlt : k < 31
                · have hd1 : decide ((k : Int) < 31) = true := decide_eq_true (by omega)
                  have hki : (k : Int) < 31 := by omega
                  have f1 := cell_of_heap (o := 0) M.out.m.f rfl
                  have HC := Lib.hid (HF.out i k wr hilt hlt M.out.m.bl)
                  have hv := HCO.out k
                  have hy := cat_fin HBA.out k
                  have hx := ownL_at (cost i) base hlt
                  have hmx : (mixTo (ownL (cost i) base) base k)[k]? = some (cat base k) := by rw [mixTo_at (by rw [ownL_len]; exact hlt) (by rw [ownL_len]; exact HBA.out.1), cat_at (by rw [HBA.out.1]; exact hlt)]
                  obtain ⟨y, hye⟩ : ∃ y, cat base k = y := ⟨_, rfl⟩
                  obtain ⟨v, hve⟩ : ∃ v, cost i k = v := ⟨_, rfl⟩
                  rw [hye] at hy hx hmx
                  rw [hve] at hv hx HC
                  have HX := Lib.hid hx
                  have HMX := Lib.hid hmx
                  clear hx hmx hye hve
                  have hml : base.length = (ownL (cost i) base).length := by rw [ownL_len]; exact HBA.out.1
                  have HML := Lib.hid hml
                  clear hml
                  by_cases hvf : v < far
                  · have hvf' : v < 1099511627776 := hvf
                    by_cases hyf : y < far
                    · have hyf' : y < 1099511627776 := hyf
                      have hw : IntKind.i64.wrap (y + v) = y + v := IntWalk.i64_in _ (by unfold far at *; omega)
                      gi_wp2_with (refine ⟨trivial, ?_⟩; refine (CallsIn.mono (CallsIn.inRound l' (callsIn_wide.2 HC.out)) ?_); rintro e W5 ⟨rfl, hb5⟩; have M5 := Lib.hid (M.out.next hb5); have g1 := M5.out.ob.cell HMX.out; have g2 := M5.out.ob.frozen k; clear hb5)
                      go_roundw
                      case rel => exact ⟨k + 1, by omega, by go_num, Lib.hid (by have := M5.out.setO k (y + v); rwa [mixTo_set (by rw [HX.out, if_pos ⟨hvf, hyf⟩]) HML.out] at this)⟩
                      case measure => simp [intOf]; omega
                    · have hyf' : ¬ y < 1099511627776 := hyf
                      gi_wp2_with (refine ⟨trivial, ?_⟩; refine (CallsIn.mono (CallsIn.inRound l' (callsIn_wide.2 HC.out)) ?_); rintro e W5 ⟨rfl, hb5⟩; have M5 := Lib.hid (M.out.next hb5); have g1 := M5.out.ob.cell HMX.out; have g2 := M5.out.ob.frozen k; clear hb5)
                      go_roundw
                      case rel => exact ⟨k + 1, by omega, by go_num, Lib.hid (by have := M5.out.setO k far; rwa [mixTo_set (by rw [HX.out, if_neg (fun h => by omega)]) HML.out] at this)⟩
                      case measure => simp [intOf]; omega
                  · have hvf' : ¬ v < 1099511627776 := hvf
                    gi_wp2_with (refine ⟨trivial, ?_⟩; refine (CallsIn.mono (CallsIn.inRound l' (callsIn_wide.2 HC.out)) ?_); rintro e W5 ⟨rfl, hb5⟩; have M5 := Lib.hid (M.out.next hb5); have g1 := M5.out.ob.cell HMX.out; have g2 := M5.out.ob.frozen k; clear hb5)
                    go_roundw
                    case rel => exact ⟨k + 1, by omega, by go_num, Lib.hid (by have := M5.out.setO k far; rwa [mixTo_set (by rw [HX.out, if_neg (fun h => by omega)]) HML.out] at this)⟩
                    case measure => simp [intOf]; omega
                · obtain rfl : k = 31 := by omega
                  rw [mixTo_all (ownL_len _ _) HBA.out.1] at M
                  clear hlt hk
                  obtain ⟨own, hoe⟩ : ∃ own, ownL (cost i) base = own := ⟨_, rfl⟩
                  rw [hoe] at M HRN HOW
                  clear hoe
                  by_cases hof : of = -1
                  · subst hof
                    have hmf := min_fin HOW.out
                    have HR2 := Lib.hid (show runC t cost _ = if far ≤ minL own then none else some (ps, all + minL own) from HRN.out.trans (if_neg (fun h => h rfl)))
                    have f5 := cell_of_heap (o := 0) M.out.b rfl
                    have e31 := slice31all wr o
                    have HC := Lib.hid (min_any o own HOW.out.1 wr M.out.ob)
                    have fd := cell_of_heap (o := 0) M.out.a rfl
                    have fdz := frozen_of_heap M.out.a
                    have fr := cell_of_heap (o := 0) M.out.m.r rfl
                    have frz := frozen_of_heap M.out.m.r
                    obtain ⟨m, hme⟩ : ∃ m, minL own = m := ⟨_, rfl⟩
                    rw [hme] at hmf HR2 HC
                    clear hme HRN
                    by_cases hfm : far ≤ m
                    · have hfm' : (1099511627776 : Int) ≤ m := hfm
                      gi_wp2_with (refine ⟨trivial, ?_⟩; gi_at_call 194; refine (CallsIn.mono (CallsIn.inRound l' (callsIn_wide.2 HC.out)) ?_); rintro e W5 ⟨rfl, rfl⟩)
                      obtain ⟨q1, q2⟩ := M.out.setR far
                      exact ⟨q1, rfl, HR2.out.trans (if_pos hfm), ps, q2⟩
                    · have hfm' : ¬ (1099511627776 : Int) ≤ m := hfm
                      have hw : IntKind.i64.wrap (all + m) = all + m := IntWalk.i64_in _ (by unfold far at *; omega)
                      gi_wp2_with (refine ⟨trivial, ?_⟩; gi_at_call 194; refine (CallsIn.mono (CallsIn.inRound l' (callsIn_wide.2 HC.out)) ?_); rintro e W5 ⟨rfl, rfl⟩)
                      obtain ⟨q1, q2, q3⟩ := M.out.setA (all + m)
                      exact ⟨q1, ps, all + m, HR2.out.trans (if_neg (show ¬ far ≤ m by omega)), q2, q3⟩
                  · obtain ⟨j, rfl⟩ : ∃ j : Nat, of = (j : Int) := ⟨of.toNat, by have := HCF.out; omega⟩
                    have hji : j < i := by have := HCF.out; omega
                    obtain ⟨pj, hpj⟩ : ∃ pj, ps[j]? = some pj := ⟨_, List.getElem?_eq_getElem (by omega)⟩
                    have hpjF := HFI.out pj (List.mem_of_getElem? hpj)
                    have HR2 := Lib.hid (show runC t cost _ = some (ps.set j (plusL pj own), all) from HRN.out.trans ((if_pos hof).trans (by rw [Int.toNat_natCast, List.getD_eq_getElem?_getD, hpj]; rfl)))
                    have f5 := cell_of_heap (o := 0) M.out.b rfl
                    have e4 := extB_cell (cell_of_heap (o := 0) M.out.m.s rfl)
                    have e5 := extB_cell (cell_of_heap (o := 0) M.out.b rfl)
                    have HC := Lib.hid (fun x => plus_any pj own bn (bn + 3000) hpjF HOW.out (by unfold far; omega) (extB wr x))
                    have HPJ := Lib.hid hpj
                    have HPL := Lib.hid hpjF.1
                    have hd7 : decide ((j : Int) = -1) = false := decide_eq_false hof
                    clear hpjF hpj HRN
                    gi_wp2_with (fail)
                    refine wpIn_region_tailC 11 (by rfl) (by rintro ⟨_, _, hh⟩; exact hh) (by rfl) (by kernel_rfl) (by kernel_rfl) (by kernel_rfl) (by kernel_rfl) ?_
                    simp only [List.take_succ_cons, List.take_zero, List.getD_cons_succ, List.getD_cons_zero, List.cons_append, List.nil_append, Li.idle]
                    repeat (first
                      | (refine wpQuiet_loadO rfl (.tmp 91) rfl (w.heap.size + 1 + 1 + 1) (j * 31) (by rfl) pj HPL.out (M.out.m.p.range HPJ.out) ?_; simp only [Act.put, List.setIfInBounds_toArray, List.set_cons_succ, List.set_cons_zero])
                      | (refine wpQuiet_loadO rfl (.tmp 10) rfl o 0 (by rfl) own HOW.out.1 M.out.ob.range ?_; simp only [Act.put, List.setIfInBounds_toArray, List.set_cons_succ, List.set_cons_zero])
                      | go_big_quiet_step ((go_at_call 193; exact ext_call (HC.out _))))
                    refine wpQuiet_nil ?_
                    rintro _ ⟨x1, rfl⟩
                    have M8 := M.out.next (extB_below wr x1)
                    obtain ⟨W8, hW8⟩ : ∃ W8, extB wr x1 = W8 := ⟨_, rfl⟩
                    rw [hW8] at M8 ⊢
                    clear hW8 e4 e5
                    refine wp_storeO (.tmp 95) (.tmp 94) rfl (w.heap.size + 1 + 1 + 1) (j * 31) (by rfl) (plusL pj own) (plusL_len _ _) (by rfl) (M8.m.p.there HPJ.out) ?_
                    obtain ⟨q1, q2, q3⟩ := M8.putP HPJ.out (plusL_len pj own)
                    obtain ⟨W9, hW9⟩ : ∃ W9, W8.setCells (w.heap.size + 1 + 1 + 1) (j * 31) (vals (plusL pj own)) = W9 := ⟨_, rfl⟩
                    rw [hW9] at q1 q2 q3 ⊢
                    clear hW9
                    gi_wp2_with (fail)
                    exact ⟨q1, _, all, HR2.out, q2, q3⟩
      case hdone =>
        rintro X hX ⟨ps, all, hrun, hm, ha⟩ hk
        have HRUN := Lib.hid (show leastF t cost = all by
          unfold leastF
          rw [show (backL t).length = t.length by simp [backL]] at hrun
          rw [hrun])
        have e1 := cell_of_heap (o := 0) ha rfl
        have e2 := cell_of_heap (o := 0) hm.r rfl
        have e3 := frozen_of_heap hm.r
        have e5 : ((X.setCell ⟨w.heap.size + 1 + 1, 0, none⟩ (.int .i64 all)).putObj W1.heap.size (.deferred none)).cell? ⟨w.heap.size + 1 + 1, 0, none⟩ = some (.int .i64 all) := (World.cell?_of_block (a := ⟨w.heap.size + 1 + 1, 0, none⟩) (World.putObj_heap_other (by show w.heap.size + 1 + 1 ≠ _; omega))).trans (cell_of_heap (o := 0) (hm.setR all).r rfl)
        have HK := Lib.hid hk
        have HM := Lib.hid hm
        clear hm hk ha hrun
        gi_wp2_with (fail)
        refine ⟨by simp, .inl ⟨_, _, rfl, run_takeDeferred (by rw [set_other_heap (heap_lt HK.out) (by omega)]; exact HK.out), ?_⟩⟩
        refine ⟨.int .i64 (leastF t cost), by rw [HRUN.out]; simp [results, Try.results167, go_sem, e5], rfl, ?_⟩
        exact (HM.out.setR all).bl.trans (KpB.belowOf (S := fun k => k = W1.heap.size) ((KpB.refl _ _ _).put _ _ (.inl rfl)) (by have := HM.out.bl.size; simp; omega) (fun k hk => by omega))
      case hstop =>
        rintro e pre X hX hpre ⟨rfl, hrun, ps, hm⟩ hk
        have HRUN := Lib.hid (show leastF t cost = far by
          have hle : pre.length ≤ t.length := by have := hpre.length_le; simpa [backL] using this
          have := run_none t cost hrun (t.length - pre.length)
          unfold leastF
          rw [show t.length = pre.length + (t.length - pre.length) by omega, this])
        have e5 : (X.putObj W1.heap.size (.deferred none)).cell? ⟨w.heap.size + 1 + 1, 0, none⟩ = some (.int .i64 far) := (World.cell?_of_block (a := ⟨w.heap.size + 1 + 1, 0, none⟩) (World.putObj_heap_other (by show w.heap.size + 1 + 1 ≠ _; omega))).trans (cell_of_heap (o := 0) hm.r rfl)
        have HK := Lib.hid hk
        have HM := Lib.hid hm
        clear hm hk hrun
        gi_wp2_with (fail)
        refine ⟨by simp, .inl ⟨_, _, rfl, run_takeDeferred HK.out, ?_⟩⟩
        refine ⟨.int .i64 (leastF t cost), by rw [HRUN.out]; simp [results, Try.results167, go_sem, e5], rfl, ?_⟩
        exact HM.out.bl.trans (KpB.belowOf (S := fun k => k = W1.heap.size) ((KpB.refl _ _ _).put _ _ (.inl rfl)) (by have := HM.out.bl.size; omega) (fun k hk => by omega))

end Go.Proofs.Ytmbcpmnigggbaaa.Cu
