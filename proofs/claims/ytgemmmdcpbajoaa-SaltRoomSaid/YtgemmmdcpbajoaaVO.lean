import Derived.Test.YtgemmmdcpbajoaaVJ
import Derived.Test.YtgemmmdcpbajoaaVN
namespace Go.Proofs.Ytgemmmdcpbajoaa
open Go.RowKit

/-! Without: a copy with one part less. -/
/-- 'append(out, xs...)' of pairs, at a step of a region that draws its order. -/
theorem step_copyP2 {ops : Array Oper} {o : Oper} {a : Act} {w : World} {K : Act → World → Prop} {Q : Exit → Act → World → Prop} {E : Prop} (hgd : o.guard = none) (s x : Operand) (st et : TypeId) {it : TypeInfo}
    (hst : Try.prog.underlying st = some (.slice et)) (hi : Try.prog.info? et = some it) (hz0 : it.zero = some (.agg #[.int .i64 0, .int .i64 0])) (hz1 : it.size = 2) (hz2 : it.bytes = 16)
    (ho : o.op = .call { callee := .builtin .append, args := #[s, x], argTypes := #[st, st] }) (n₀ : Nat) (v : Value) (l0 : List (Int × Int)) (hs : a.eval s = v) (hown : OwnsP w et n₀ v l0)
    (A : Option Addr) (c m : Nat) (ns : List (Int × Int)) (hm : ns.length = m) (hA : A = none → c = 0 ∧ ns = []) (hx : a.eval x = .slice A m c) (hN : PairsAt w w.heap.size A ns) (hl0 : l0.length ≤ 1000) (hl : ns.length ≤ 1000) (hn : n₀ ≤ w.heap.size)
    (h : ∀ v' w', OwnsP w' et n₀ v' (l0 ++ ns) → Below n₀ w w' → w.grownBy w' v.ownBlock → K (a.put o.dst v') w') :
    if Region.wanted o (yielded ops a.tmps) = true then Oper.wp Try.prog o a w K Q else E := by
  subst hm
  have hw : Region.wanted o (yielded ops a.tmps) = true := by simp [Region.wanted, hgd]
  rw [if_pos hw]
  cases A with
  | none =>
    obtain ⟨rfl, rfl⟩ := hA rfl
    have hrun := run_append_owned_none (P := Try.prog) (w := w) n₀ st o.type et it 2 hst hi v l0.length _ hown
    have hk := h v w (by rw [List.append_nil]; exact hown) (Below.refl _ _) ⟨rfl, rfl, rfl, Nat.le_refl _, fun _ _ _ => rfl⟩
    unfold Oper.wp
    simp [execOp, ho, resolve, invoke, builtin, hs, hx, hrun, Result.andThen]
    exact hk
  | some ad =>
    refine wp_append_own w s x st ho n₀ et it _ 2 16 hst hi hz0 hz1 hz2 rfl (by decide) v l0.length _ hs hown ad ns.length c (pairCells ns) hx (pairCells_len ns) (pairs_news hN) (pairCells_one ns) ?_ ?_ hn ?_
    · unfold maxLen; omega
    · omega
    · intro v' w' h2 h3 _
      refine h v' w' ?_ (own_below hown h3 hn (Nat.le_refl _)) h3
      unfold OwnsP
      rw [List.length_append, pairCells_app]
      exact h2
/-- 's[:k]' and 's[k+1:]'. -/
theorem cut_slices (b off n d k : Nat) (hk : k < n) (hd : n ≤ d) : ∃ Bt : Addr, (∀ W, (Instr.slice 23 (.slice (some ⟨b, off, none⟩) n d) none (some (.int .i64 k)) none).run Try.prog W = .ok (.slice (some ⟨b, off, none⟩) k d) W) ∧
    (∀ W, (Instr.slice 23 (.slice (some ⟨b, off, none⟩) n d) (some (.int .i64 ((k : Int) + 1))) none none).run Try.prog W = .ok (.slice (some Bt) (n - (k + 1)) (d - (k + 1))) W) ∧
    ∀ (W : World) (ps : List (Int × Int)), PairsAt W W.heap.size (some ⟨b, off, none⟩) ps → ps.length = n → PairsAt W W.heap.size (some ⟨b, off, none⟩) (ps.take k) ∧ PairsAt W W.heap.size (some Bt) (ps.drop (k + 1)) := by
  have hs : Try.prog.cellsOf 38 = 2 := by kernel_rfl
  have h0 : ∀ W : World, (Instr.slice 23 (.slice (some ⟨b, off, none⟩) n d) none (some (.int .i64 k)) none).run Try.prog W = .ok (.slice (some ⟨b, off, none⟩) k d) W := fun W => by
    have : k ≤ d := by omega
    by_cases e : d = 0
    · omega
    · simp [Instr.slice, Instr.sliceBounds, Instr.sliceBound, go_sem, this]
  have htake : ∀ (W : World) (ps : List (Int × Int)), PairsAt W W.heap.size (some ⟨b, off, none⟩) ps → ps.length = n → PairsAt W W.heap.size (some ⟨b, off, none⟩) (ps.take k) := fun W ps h hl => by
    rcases h with rfl | ⟨b', off', e, hlt, hc⟩
    · exact .inl (by simp)
    · refine .inr ⟨b', off', e, hlt, fun i x hx => hc i x ?_⟩
      rw [List.getElem?_take] at hx
      split at hx
      · exact hx
      · cases hx
  by_cases h1 : d = k + 1
  · refine ⟨⟨b, off, none⟩, h0, fun W => ?_, fun W ps h hl => ⟨htake W ps h hl, .inl (List.drop_eq_nil_of_le (by omega))⟩⟩
    have e1 : n = k + 1 := by omega
    subst h1 e1
    simp [Instr.slice, Instr.sliceBounds, Instr.sliceBound, go_sem]
    omega
  · refine ⟨⟨b, off + (k + 1) * 2, none⟩, h0, fun W => ?_, fun W ps h hl => ⟨htake W ps h hl, ?_⟩⟩
    · have e2 : (k : Int) + 1 ≤ n := by omega
      have e3 : 0 ≤ (k : Int) + 1 := by omega
      have e4 : ((k : Int) + 1).toNat = k + 1 := by omega
      simp [Instr.slice, Instr.sliceBounds, Instr.sliceBound, go_sem, h1, e2, e3, e4, addr_add]
    · rcases h with rfl | ⟨b', off', e, hlt, hc⟩
      · exact .inl (by simp)
      · cases e
        refine .inr ⟨b, off + (k + 1) * 2, rfl, hlt, fun i x hx => ?_⟩
        rw [List.getElem?_drop] at hx
        have := hc _ x hx
        rw [show off + (k + 1) * 2 + i * 2 = off + (k + 1 + i) * 2 by omega]
        exact this
/-- What Without returns. -/
def WithRet (h : House) (w' : World) (e : Ending) : Prop := ∃ L, e = .returned (HL.enc L h) ∧ HouseAt w' w'.heap.size L h ∧ h.bs.length ≤ L.cb ∧ (L.Ab = none → L.cb = 0) ∧ L.cb ≤ 9223372036854775807
theorem OwnsP.layN {W : World} {t : TypeId} {base : Nat} {v : Value} {ns : List (Int × Int)} (h : OwnsP W t base v ns) {n : Nat} (hn : ns.length = n) : ∃ A c, v = .slice A n c ∧ (A = none → c = 0 ∧ ns = []) ∧ PairsAt W W.heap.size A ns := by
  subst hn; exact h.lay
theorem owns_set {W : World} {base e size n b o : Nat} {u v : Value} {xs : List Value} {arr : Array Value} {z : Nat × Nat} (h : W.ownsRow base e size v n xs) (he : e ≠ 26) (hb : W.heap[b]? = some (.cells arr 26 z)) : (W.setCell ⟨b, o, none⟩ u).ownsRow base e size v n xs := by
  have hne := box_ne h hb he
  refine ⟨h.1, ?_⟩
  rcases h.2 with h2 | ⟨g, cap, cur, e, hb2, hg, h4⟩
  · exact .inl h2
  · refine .inr ⟨g, cap, cur, e, hb2, (set_other_heap (heap_lt hg) (hne g ?_)).trans hg, h4⟩
    rw [e]; rfl
theorem owns_set4 {W : World} {base e size n b : Nat} {v : Value} {xs : List Value} (h : W.ownsRow base e size v n xs) (he : e ≠ 26) (hb : ZBox W b) (x y z u : Value) : ((((W.setCell ⟨b, 0, none⟩ x).setCell ⟨b, 1, none⟩ y).setCell ⟨b, 2, none⟩ z).setCell ⟨b, 3, none⟩ u).ownsRow base e size v n xs :=
  owns_set (owns_set (owns_set (owns_set h he hb) he (heap_set x (o := 0) hb)) he (heap_set y (o := 1) (heap_set x (o := 0) hb))) he (heap_set z (o := 2) (heap_set y (o := 1) (heap_set x (o := 0) hb)))
theorem without_made (X : World) : OwnsP (X.alloc (.cells #[] 38)).drew 38 X.heap.size (.slice (some ⟨X.heap.size, 0, none⟩) 0 0) [] := by
  have := ownsP_made X 38 X.heap.size (Nat.le_refl _)
  exact ⟨this.1, this.2⟩
set_option maxRecDepth 100000 in
set_option maxHeartbeats 4000000 in
theorem without_any (L : HL) (h : House) (hn : h.ks.length ≤ 1000 ∧ h.ps.length ≤ 1000 ∧ h.bs.length ≤ 1000) (hok : HLOK L h) (hcp : h.ps.length ≤ L.cp) (k : Nat) (hk : k < h.ps.length) (w : World) (hH : HouseAt w w.heap.size L h) :
    Calls Try.prog 43 #[L.enc h, .int .i64 k] w fun e w' => WithRet (lessH h k) w' e ∧ Below w.heap.size w w' := by
  have hb0 : Below w.heap.size w ((w.alloc (.cells #[.slice L.Ak h.ks.length L.ck, .int .i64 h.fl, .slice L.Ap h.ps.length L.cp, .slice L.Ab h.bs.length L.cb] 26)).alloc (.cells #[.slice none 0 0, .int .i64 0, .slice none 0 0, .slice none 0 0] 26)) :=
    ((Below.refl _ _).alloc (Nat.le_refl _) _).alloc (by simp) _
  have hx0 := (HBox.new w L h).of (Below.heap_alloc (w.alloc (.cells #[.slice L.Ak h.ks.length L.ck, .int .i64 h.fl, .slice L.Ap h.ps.length L.cp, .slice L.Ab h.bs.length L.cb] 26)) (.cells #[.slice none 0 0, .int .i64 0, .slice none 0 0, .slice none 0 0] 26) w.heap.size (by simp))
  have hy0 := World.alloc_heap_new (w.alloc (.cells #[.slice L.Ak h.ks.length L.ck, .int .i64 h.fl, .slice L.Ap h.ps.length L.cp, .slice L.Ab h.bs.length L.cb] 26)) (.cells #[.slice none 0 0, .int .i64 0, .slice none 0 0, .slice none 0 0] 26)
  rw [World.size_alloc] at hy0
  obtain ⟨x, hx⟩ : ∃ x, h.ps[k]? = some x := ⟨_, List.getElem?_eq_getElem hk⟩
  obtain ⟨b1, o1, e1, _, _, _⟩ := hH.p.at_ hx
  have HOK' := Lib.hid hok
  have HN := Lib.hid hn
  have HH := Lib.hid hH
  obtain ⟨ip, hip, p0, p1, p2⟩ := info_parts info38
  have HI := Lib.hid (And.intro hip (And.intro p0 (And.intro p1 p2)))
  obtain ⟨W0, hW0⟩ : ∃ W0, W0 = (w.alloc (.cells #[.slice L.Ak h.ks.length L.ck, .int .i64 h.fl, .slice L.Ap h.ps.length L.cp, .slice L.Ab h.bs.length L.cb] 26)).alloc (.cells #[.slice none 0 0, .int .i64 0, .slice none 0 0, .slice none 0 0] 26) := ⟨_, rfl⟩
  rw [← hW0] at hb0 hx0 hy0
  have HB0 := Lib.hid hb0
  have HX0 := Lib.hid hx0
  have HY0 := Lib.hid hy0
  have HW0 := Lib.hid hW0
  obtain ⟨Ak, ck, Ap, cp, Ab, cb⟩ := L
  subst e1
  obtain ⟨Bt, sl1, sl2, hcut⟩ := cut_slices b1 o1 h.ps.length cp k hk hcp
  have HCUT := Lib.hid hcut
  have hk1000 := hn.2.1
  clear hok hn hH hb0 hx0 hy0 hW0 hip p0 p1 p2 hcut hx
  go_enter Try.func43, Try.ntmps43
  go_upto_region 1 with (fail)
  have e := HW0.out
  rw [← e]
  clear e
  have xc := HX0.out.cells
  go_upto_region 2 with (go_at_call 17; refine (copy_any _ h HN.out HOK'.out W0 (HH.out.below HB0.out)).mono ?_; rintro e w2 ⟨⟨⟨Bk, dk, Bp, dp, Bb, db⟩, n1, n2, rfl, hC⟩, hb2⟩; have HC2 := Lib.hid hC; have HB2 := Lib.hid hb2; clear hC hb2)
  have hbX := (Below.refl w2.heap.size w2).alloc (Nat.le_refl _) (.cells #[.slice Bk h.ks.length dk, .int .i64 h.fl, .slice Bp h.ps.length dp, .slice Bb h.bs.length db] 26)
  have zX := HBox.new w2 ⟨Bk, dk, Bp, dp, Bb, db⟩ h
  obtain ⟨X, hX⟩ : ∃ X, X = w2.alloc (.cells #[.slice Bk h.ks.length dk, .int .i64 h.fl, .slice Bp h.ps.length dp, .slice Bb h.bs.length db] 26) := ⟨_, rfl⟩
  rw [← hX] at hbX zX ⊢
  have hs0 : w.heap.size + 1 < W0.heap.size := heap_lt HY0.out
  have hs2 := HB2.out.size
  have hsX : w2.heap.size < X.heap.size := heap_lt zX
  have hb0X := (HB2.out.trans (hbX.mono hs2))
  have xX := HX0.out.of (hb0X.block _ (by omega))
  have yX : ZBox X (w.heap.size + 1) := (hb0X.block _ hs0).trans HY0.out
  have HCX := Lib.hid (HC2.out.below hbX)
  have HHX := Lib.hid ((HH.out.below HB0.out).below hb0X)
  have HBX := Lib.hid (hb0to HB0.out hb0X)
  have HXX := Lib.hid xX
  have HYX := Lib.hid yX
  have HZX := Lib.hid zX

  have c2 : X.cell? ⟨w.heap.size, 2, none⟩ = some (.slice (some ⟨b1, o1, none⟩) h.ps.length cp) := xX.cells.2.2.1
  clear hbX hb0X xX yX zX xc hX
  have ne1 : ¬ w2.heap.size = w.heap.size := by omega
  have ne2 : ¬ w.heap.size = w2.heap.size := by omega
  have ne3 : ¬ w2.heap.size = w.heap.size + 1 := by omega
  have ne4 : ¬ w.heap.size + 1 = w2.heap.size := by omega
  have hwr : IntKind.i64.wrap ((k : Int) + 1) = (k : Int) + 1 := IntWalk.i64_in _ (by omega)
  go_region_held3 (fun w' => w'.cell? ⟨w.heap.size, 2, none⟩ = some (.slice (some ⟨b1, o1, none⟩) h.ps.length cp)) (first | go_keep)
    (first
      | (refine step_copyP2 (by rfl) (.tmp 8) (.tmp 12) 23 38 Try.underlying23 HI.out.1 HI.out.2.1 HI.out.2.2.1 HI.out.2.2.2 (by rfl) X.heap.size _ [] (by rfl) (without_made X) (some ⟨b1, o1, none⟩) cp k (h.ps.take k) (by simp; omega) (fun h => by cases h) (by rfl) (HCUT.out _ h.ps (HHX.out.below (lists_below1 X _)).p rfl).1 (by simp) (by simp; omega) (by simp) ?_; intro v3 w3 hown3 hb3 hg3; have B3 := Lib.hid ((lists_below1 X _).trans hb3); have x3 := below_cell B3.out c2; have O3 := Lib.hid hown3; clear hown3 hb3 hg3)
      | (refine step_copyP2 (by rfl) (.tmp 13) (.tmp 18) 23 38 Try.underlying23 HI.out.1 HI.out.2.1 HI.out.2.2.1 HI.out.2.2.2 (by rfl) X.heap.size _ (h.ps.take k) (by rfl) O3.out (some Bt) (cp - (k + 1)) (h.ps.length - (k + 1)) (h.ps.drop (k + 1)) (by simp) (fun h => by cases h) (by rfl) (HCUT.out _ h.ps (HHX.out.below B3.out).p rfl).2 (by simp; omega) (by simp; omega) B3.out.size ?_; intro v4 w4 hown4 hb4 hg4; have B4 := Lib.hid (B3.out.trans hb4); have x4 := below_cell B4.out c2; have O4 := Lib.hid hown4; obtain ⟨A4, c4, rfl, -, -⟩ := hown4.layN (n := h.ps.length - 1) (by simp; omega); have zz := HZX.out.of (B4.out.block _ HZX.out.lt); have zc := zz.cells; have zf := zbox_frozen zz; have yy : ZBox w4 (w.heap.size + 1) := (B4.out.block _ (heap_lt HYX.out)).trans HYX.out; have yc := zbox_cells yy; have yf := zbox_frozen yy; have HY4 := Lib.hid yy; have HZ4 := Lib.hid zz; clear zz yy hown4 hb4 hg4))
  all_goals
    go_wp2
    have hz0 : ZBox (w4.setCell ⟨w2.heap.size, 2, none⟩ (.slice A4 (h.ps.length - 1) c4)) (w.heap.size + 1) := (set_other_heap (heap_lt HY4.out) ne4).trans HY4.out
    have hlen : (lessH h k).ps.length = h.ps.length - 1 := by have := less_len hk; omega
    have hC4 : Copied w4 W0.heap.size n1 n2 ⟨Bk, dk, Bp, dp, Bb, db⟩ h := HCX.out.below B4.out
    have hO4 : OwnsP w4 38 X.heap.size (.slice A4 (h.ps.length - 1) c4) (lessH h k).ps := O4.out
    have hb5 : Below w.heap.size w w4 := hb0to HBX.out B4.out
    have key := (hC4.set_box (o := 2) (u := .slice A4 (h.ps.length - 1) c4) HZ4.out).set_box4 hz0 (.slice Bk h.ks.length dk) (.int .i64 h.fl) (.slice A4 (h.ps.length - 1) c4) (.slice Bb h.bs.length db)
    have keyp := owns_set4 (owns_set hO4 (o := 2) (u := .slice A4 (h.ps.length - 1) c4) (by decide) HZ4.out) (by decide) hz0 (.slice Bk h.ks.length dk) (.int .i64 h.fl) (.slice A4 (h.ps.length - 1) c4) (.slice Bb h.bs.length db)
    refine bodyPost_ret (results_cell rfl rfl (box_store hz0 _ _ _ _)) rfl ⟨⟨⟨Bk, dk, A4, c4, Bb, db⟩, ?_, ⟨key.house.k, ?_, key.house.b⟩, key.cap3⟩, ?_⟩
    · simp only [HL.enc, hlen]; rfl
    · exact (ownsP_at keyp).1
    · exact below_set4 (hb5.setCell (p := ⟨w2.heap.size, 2, none⟩) (by show w.heap.size ≤ w2.heap.size; omega) _) (by omega) _ _ _ _
end Go.Proofs.Ytgemmmdcpbajoaa
