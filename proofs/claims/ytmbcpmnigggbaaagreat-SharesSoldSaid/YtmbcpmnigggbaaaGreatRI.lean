import Derived.Test.YtmbcpmnigggbaaaGreatRF
namespace Go.Proofs.YtmbcpmnigggbaaaGreat
open Go.RowKit

/-! The specification's lists 109. -/
/-- What follows the last number of a list. -/
def fromN (f : List Int) : Int := match f.getLast? with | none => 0 | some x => x + 1
theorem fromN_nil : fromN [] = 0 := rfl
theorem fromN_at {f : List Int} {x : Int} (h : f[f.length - 1]? = some x) : fromN f = x + 1 := by
  unfold fromN; rw [List.getLast?_eq_getElem?, h]
theorem fromN_snoc (f : List Int) (x : Int) : fromN (f ++ [x]) = x + 1 := by unfold fromN; simp
/-- All rising lists of n more numbers below nb that begin with some. -/
def combR (nb : Nat) : Nat → List Int → List (List Int)
  | 0, f => [f]
  | n + 1, f => (List.range ((nb : Int) - fromN f).toNat).flatMap fun j : Nat => combR nb n (f ++ [fromN f + (j : Int)])
def combTo (nb n : Nat) (f : List Int) (k : Nat) : List (List Int) := (List.range k).flatMap fun j : Nat => combR nb n (f ++ [fromN f + (j : Int)])
theorem combTo_zero (nb n : Nat) (f : List Int) : combTo nb n f 0 = [] := rfl
theorem combTo_succ (nb n : Nat) (f : List Int) (k : Nat) : combTo nb n f (k + 1) = combTo nb n f k ++ combR nb n (f ++ [fromN f + (k : Int)]) := by
  unfold combTo; rw [List.range_succ, List.flatMap_append]; simp
theorem combTo_all {nb n : Nat} {f : List Int} {k : Nat} (h : fromN f + (k : Int) = nb ∨ (k = 0 ∧ (nb : Int) ≤ fromN f)) : combTo nb n f k = combR nb (n + 1) f := by
  obtain rfl : k = ((nb : Int) - fromN f).toNat := by omega
  rfl
theorem combTo_bd {nb n M : Nat} {f : List Int} (hM : ∀ g, 0 ≤ fromN g → (combR nb n g).length ≤ M) (h0 : 0 ≤ fromN f) : ∀ k, (combTo nb n f k).length ≤ M * k
  | 0 => by simp [combTo_zero]
  | k + 1 => by
    have := combTo_bd hM h0 k
    have := hM (f ++ [fromN f + (k : Int)]) (by rw [fromN_snoc]; omega)
    rw [combTo_succ, List.length_append, Nat.mul_succ]
    omega
theorem combR_bound {nb : Nat} (h : nb ≤ 8) : ∀ (n : Nat) (f : List Int), 0 ≤ fromN f → (combR nb n f).length ≤ 8 ^ n
  | 0, f, _ => by simp [combR]
  | n + 1, f, h0 => by
    rw [← combTo_all (k := ((nb : Int) - fromN f).toNat) (by omega)]
    refine Nat.le_trans (combTo_bd (combR_bound h n) h0 _) ?_
    rw [Nat.pow_succ]
    exact Nat.mul_le_mul_left _ (by omega)
theorem combR_small {nb n : Nat} (h : nb ≤ 8) (hn : n ≤ 4) {f : List Int} (h0 : 0 ≤ fromN f) : (combR nb n f).length ≤ 4096 :=
  Nat.le_trans (combR_bound h n f h0) (Nat.le_trans (Nat.pow_le_pow_right (by decide) hn) (by decide))
theorem combTo_small {nb n : Nat} (h : nb ≤ 8) (hn : n ≤ 4) {f : List Int} (h0 : 0 ≤ fromN f) (k : Nat) (hk : k ≤ 8) : (combTo nb n f k).length ≤ 32768 :=
  Nat.le_trans (combTo_bd (M := 4096) (fun g hg => combR_small h hn hg) h0 k) (by omega)
theorem Ints.layN {W : World} {base : Nat} {v : Value} {l : List Int} (h : Ints W base v l) {n : Nat} (hn : l.length = n) : ∃ A c, v = .slice A n c ∧ (A = none → c = 0 ∧ l = []) ∧ IntsIn W base W.heap.size A l := by
  obtain ⟨A, c, h1, h2, _, h3⟩ := h.lay
  exact ⟨A, c, by rw [← hn]; exact h1, h2, h3⟩
def RowsRet (rs : List (List Int)) (lo : Nat) (w' : World) (e : Ending) : Prop := ∃ A c, e = .returned (.slice A rs.length c) ∧ (A = none → c = 0 ∧ rs = []) ∧ RowsIn w' lo w'.heap.size A rs
theorem rows_own {w : World} {lo base : Nat} {v : Value} {rs : List (List Int)} (h : OwnsR w lo base v rs) : ∀ k, v.ownBlock = some k → k < w.heap.size := fun k hk => by
  obtain ⟨vs, h, -⟩ := h
  exact (World.ownsRow.lt h k hk).2
theorem rows_one {w : World} {B m c : Nat} {A : Option Addr} {f : List Int} (hm : f.length = m) (hA : A = none → c = 0 ∧ f = []) (hI : IntsIn w B w.heap.size A f) (hB : B ≤ w.heap.size) :
    RowsIn (w.alloc (.cells #[.slice A m c] 27)) B (w.alloc (.cells #[.slice A m c] 27)).heap.size (some ⟨w.heap.size, 0, none⟩) [f] := by
  have hb := al_below w (.cells #[.slice A m c] 27)
  refine .inr ⟨w.heap.size, 0, rfl, hB, by simp, fun i r hr => ?_⟩
  match i, hr with
  | 0, hr =>
    simp only [List.getElem?_cons_zero, Option.some.injEq] at hr
    subst hr
    exact ⟨A, c, by rw [hm]; simp [go_sem], hA, hI.keep (Nat.le_refl _) hb.size fun b o _ hlt => hb.cell (p := ⟨b, o, none⟩) hlt⟩
theorem wpl_copyM {ops : Array Oper} {rest : List Oper} {o : Oper} {a : Act} {w : World} {Q : Exit → Act → World → Prop} (hgd : o.guard = none) (s x : Operand)
    (ho : o.op = .call { callee := .builtin .append, args := #[s, x], argTypes := #[27, 27] }) (n₀ : Nat) (v : Value) (l0 : List Int) (hs : a.eval s = v) (hown : Ints w n₀ v l0)
    (A : Option Addr) (c : Nat) (l : List Int) (m : Nat) (hm : l.length = m) (hA : A = none → c = 0 ∧ l = []) (hx : a.eval x = .slice A m c) (hI : IntsAt w w.heap.size A l) (hl0 : l0.length ≤ 1000) (hl : m ≤ 1000) (hn : n₀ ≤ w.heap.size)
    (h : ∀ v' w', Ints w' n₀ v' (l0 ++ l) → Below n₀ w w' → wpList Tryz.prog ops Q rest (a.put o.dst v') w') : wpList Tryz.prog ops Q (o :: rest) a w := by
  subst hm
  exact wpl_copyI hgd s x ho n₀ v l0 hs hown A c l hA hx hI hl0 hl hn h
set_option maxRecDepth 100000 in
set_option maxHeartbeats 4000000 in
theorem rlists_any (nb : Nat) (hnb : nb ≤ 8) (many : Nat) (hmany : many ≤ 4) : ∀ (n : Nat) (f : List Int) (m : Nat), f.length = m → m + n = many → (∀ x ∈ f, 0 ≤ x ∧ x < nb) → ∀ (A : Option Addr) (c B : Nat) (w : World), (A = none → c = 0 ∧ f = []) → IntsIn w B w.heap.size A f → B ≤ w.heap.size →
    Calls Tryz.prog 105 #[.slice A m c, .int .i64 many, .int .i64 nb] w fun e w' => RowsRet (combR nb n f) B w' e ∧ Below w.heap.size w w' := by
  intro n
  induction n with
  | zero =>
    intro f m hm hmn hin A c B w hA hI hB
    have HM := Lib.hid hm
    have HA := Lib.hid hA
    have HI := Lib.hid hI
    have hd : ((m : Int) == (many : Int)) = true := by simp; omega
    clear hm hA hI hin
    go_enter Tryz.func105, Tryz.ntmps105
    go_wp2_with (fail)
    go_ret
    refine ⟨⟨some ⟨w.heap.size, 0, none⟩, 1, rfl, (fun e => by cases e), ?_⟩, al_below _ _⟩
    exact rows_one HM.out HA.out HI.out hB
  | succ n ih =>
    intro f m hm hmn hin A c B w hA hI hB
    have HM := Lib.hid hm
    have HA := Lib.hid hA
    have HI := Lib.hid hI
    have HIN := Lib.hid hin
    have HMN := Lib.hid hmn
    have HIH := Lib.hid ih
    have hd : ((m : Int) == (many : Int)) = false := by simp; omega
    have hf0 : 0 ≤ fromN f := by
      unfold fromN
      cases hl : f.getLast? with
      | none => simp
      | some x => have := (hin x (List.mem_of_getLast? hl)).1; simp only; omega
    have HB1 := Lib.hid (fun k hk => combTo_small (n := n) hnb (by omega) hf0 k hk)
    have HB2 := Lib.hid (fun (x : Int) (hx : 0 ≤ x) => combR_small (nb := nb) (n := n) hnb (by omega) (f := f ++ [x]) (by rw [fromN_snoc]; omega))
    have HSC := Lib.hid (fun k => combTo_succ nb n f k)
    have HAL := Lib.hid (fun (k : Nat) (h : fromN f + (k : Int) = nb ∨ (k = 0 ∧ (nb : Int) ≤ fromN f)) => combTo_all (n := n) h)
    by_cases hm0 : m = 0
    · have hfr : fromN f = 0 := by rw [List.length_eq_zero_iff.1 (hm.trans hm0)]; exact fromN_nil
      obtain ⟨fr, hfe⟩ : ∃ v, v = fromN f := ⟨_, rfl⟩
      rw [← hfe] at hf0 HSC HAL hfr
      subst hfr
      subst hm0
      have hd' : ((0 : Int) == (many : Int)) = false := hd
      clear hm hA hI hin ih hfe hmn
      as_aux_lemma =>
      go_enter Tryz.func105, Tryz.ntmps105
      go_wp2_with (fail)
      go_loopw [8, 9] (fun v i wr => ∃ k : Nat, (k = 0 ∨ 0 + (k : Int) ≤ nb) ∧ i = .int .i64 (0 + (k : Int)) ∧ Hid (OwnsR wr B w.heap.size v (combTo nb n f k)) ∧ Hid (Below w.heap.size w wr)) (fun _ i _ => ((nb : Int) - intOf i).toNat)
      case atStart => exact ⟨0, .inl rfl, by simp, Lib.hid (by rw [combTo_zero]; exact ownsR_nil _ _ _), Lib.hid (Below.refl _ _)⟩
      case round =>
        obtain ⟨k, hk, rfl, hown, hb⟩ := hrel
        by_cases hlt : 0 + (k : Int) < nb
        · have hob := HB1.out k (by omega)
          obtain ⟨x, hx⟩ : ∃ x : Int, x = 0 + (k : Int) := ⟨_, rfl⟩
          have HOS := Lib.hid (HSC.out k)
          rw [← hx] at HOS hlt ⊢
          have hlb := HB2.out x (by omega)
          have HX := Lib.hid hx
          have hx0 : 0 ≤ x ∧ x < nb := by omega
          have hfx : ∀ y ∈ f ++ [x], 0 ≤ y ∧ y < nb := fun y hy => by
            rcases List.mem_append.1 hy with hy | hy
            · exact HIN.out y hy
            · simp at hy; omega
          have HFX := Lib.hid hfx
          have HOWN := Lib.hid hown.out
          have HA1 := Lib.hid (ints_later HI.out.at_ (hb0to hb.out (al_below wr (.cells #[] 3))))
          have HZ := Lib.hid hb.out.size
          clear hx hfx hown
          go_wp2_with (first
            | (refine wpl_copyM (by rfl) _ _ (by rfl) wr.heap.size _ [] (by rfl) (ints_made wr wr.heap.size (Nat.le_refl _)) A c f 0 HM.out HA.out (by rfl) HA1.out (by simp) (by omega) (by simp) ?_; intro v3 w3 h1 h2; have H3 := Lib.hid (show Ints w3 wr.heap.size v3 f from h1); have hb3 := (al_below wr (.cells #[] 3)).trans h2; have B3 := Lib.hid hb3; have H3a := Lib.hid (H3.out.alloc (.cells #[.int .i64 x] 3)); have HC3 := Lib.hid (show (w3.alloc (.cells #[.int .i64 x] 3)).cell? ⟨w3.heap.size, 0, none⟩ = some (.int .i64 x) by simp [go_sem]); have B3a := Lib.hid (hb3.alloc hb3.size (.cells #[.int .i64 x] 3)); clear h1 h2 hb3)
            | (refine wpl_app (by rfl) _ _ (by rfl) wr.heap.size wr.heap.size _ f x (by rfl) H3a.out ⟨w3.heap.size, 0, none⟩ 1 (by rfl) HC3.out (by have := HM.out; omega) B3a.out.size (Nat.le_refl _) ?_; intro v4 w4 h1 h2; have hb4 := B3a.out.trans h2; have B4 := Lib.hid hb4; obtain ⟨A4, c4, rfl, hA4, hI4⟩ := h1.layN (n := 1) (by have := HM.out; rw [List.length_append, this]; first | rfl | simp); have HA4 := Lib.hid hA4; have HI4 := Lib.hid hI4; clear h1 h2 hb4 hA4 hI4)
            | (go_at_call 105; refine (HIH.out (f ++ [x]) 1 (by have := HM.out; rw [List.length_append, this]; first | rfl | simp) (by have := HMN.out; omega) HFX.out A4 c4 wr.heap.size w4 HA4.out HI4.out B4.out.size).mono ?_; rintro e w5 ⟨⟨A5, c5, rfl, hA5, hR5⟩, hb5⟩; have hb5' := hb0to B4.out hb5; have HA5 := Lib.hid hA5; have HR5 := Lib.hid hR5; have H5 := Lib.hid (HOWN.out.below_ hb5' (Nat.le_refl _)); have B5 := Lib.hid (hb0to hb.out hb5'); have hz5 := hb5'.size; have B5z := Lib.hid hz5; clear hA5 hR5 hb5 hb5' hz5)
            | (refine wpl_appR 135 Tryz.underlying135 (by rfl) _ _ (by rfl) w.heap.size B w.heap.size _ (combTo nb n f k) (by rfl) H5.out A5 c5 wr.heap.size _ HA5.out (by rfl) HR5.out (Nat.le_trans hB HZ.out) (rows_own HOWN.out) (by omega) (by omega) (Nat.le_trans HZ.out B5z.out) (Nat.le_refl _) ?_; intro v6 w6 hown6 hb6; have H6 := Lib.hid hown6; have B6 := Lib.hid (B5.out.trans hb6); clear hown6 hb6))
          have e6 : Hid (Value.int IntKind.i64 (x + 1) = Value.int IntKind.i64 (0 + ((k + 1 : Nat) : Int))) := Lib.hid (by rw [HX.out]; congr 1 <;> omega)
          go_roundw
          case rel => exact ⟨k + 1, .inr (by have := HX.out; omega), e6.out, Lib.hid (by rw [HOS.out]; exact H6.out), B6⟩
          case measure => simp [intOf]; omega
        · have HO := Lib.hid (HAL.out k (by omega))
          have hown2 := hown.out
          rw [HO.out] at hown2
          obtain ⟨A2, c2, rfl, hA2, hR2⟩ := hown2.lay hB
          have HA2 := Lib.hid hA2
          have HR2 := Lib.hid hR2
          clear hA2 hR2 hown hown2
          go_wp2_with (fail)
          go_ret
          exact ⟨⟨A2, c2, rfl, HA2.out, HR2.out⟩, hb.out⟩
    · obtain ⟨y, hy⟩ : ∃ y, f[m - 1]? = some y := ⟨_, List.getElem?_eq_getElem (by omega)⟩
      have hfr : fromN f = y + 1 := fromN_at (by rw [hm]; exact hy)
      have hy0 := hin y (List.mem_of_getElem? hy)
      obtain ⟨b, off, eA, hbl, d1⟩ := hI.at_.at_ hy
      obtain ⟨mp, hmp⟩ : ∃ mp, mp = m - 1 := ⟨_, rfl⟩
      rw [← hmp] at d1
      have hm1 : (m : Int) - 1 = (mp : Int) := by omega
      have hwm : IntKind.i64.wrap ((m : Int) - 1) = (mp : Int) := by rw [hm1]; exact IntWalk.i64_in _ (by omega)
      have hmpl : mp < m := by omega
      have hm0' : (0 : Int) < (m : Int) := by omega
      have hd0 : decide ((0 : Int) < (m : Int)) = true := decide_eq_true hm0'
      have hd0n : decide (0 < m) = true := decide_eq_true (by omega)
      have hm4 : m ≤ 4 := by omega
      obtain ⟨fr, hfe⟩ : ∃ v, v = fromN f := ⟨_, rfl⟩
      rw [← hfe] at hf0 HSC HAL hfr
      subst hfr
      subst eA
      clear hm hA hI hin ih hfe hy hmp hm1 hmn
      as_aux_lemma =>
      go_enter Tryz.func105, Tryz.ntmps105
      go_wp2_with (fail)
      go_loopw [8, 9] (fun v i wr => ∃ k : Nat, (k = 0 ∨ y + 1 + (k : Int) ≤ nb) ∧ i = .int .i64 (y + 1 + (k : Int)) ∧ Hid (OwnsR wr B w.heap.size v (combTo nb n f k)) ∧ Hid (Below w.heap.size w wr)) (fun _ i _ => ((nb : Int) - intOf i).toNat)
      case atStart => exact ⟨0, .inl rfl, by simp, Lib.hid (by rw [combTo_zero]; exact ownsR_nil _ _ _), Lib.hid (Below.refl _ _)⟩
      case round =>
        obtain ⟨k, hk, rfl, hown, hb⟩ := hrel
        by_cases hlt : y + 1 + (k : Int) < nb
        · have hob := HB1.out k (by omega)
          obtain ⟨x, hx⟩ : ∃ x : Int, x = y + 1 + (k : Int) := ⟨_, rfl⟩
          have HOS := Lib.hid (HSC.out k)
          rw [← hx] at HOS hlt ⊢
          have hlb := HB2.out x (by omega)
          have HX := Lib.hid hx
          have hx0 : 0 ≤ x ∧ x < nb := by omega
          have hfx : ∀ y ∈ f ++ [x], 0 ≤ y ∧ y < nb := fun y hy => by
            rcases List.mem_append.1 hy with hy | hy
            · exact HIN.out y hy
            · simp at hy; omega
          have HFX := Lib.hid hfx
          have HOWN := Lib.hid hown.out
          have HA1 := Lib.hid (ints_later HI.out.at_ (hb0to hb.out (al_below wr (.cells #[] 3))))
          have HZ := Lib.hid hb.out.size
          clear hx hfx hown
          go_wp2_with (first
            | (refine wpl_copyM (by rfl) _ _ (by rfl) wr.heap.size _ [] (by rfl) (ints_made wr wr.heap.size (Nat.le_refl _)) (some ⟨b, off, none⟩) c f m HM.out HA.out (by rfl) HA1.out (by simp) (by omega) (by simp) ?_; intro v3 w3 h1 h2; have H3 := Lib.hid (show Ints w3 wr.heap.size v3 f from h1); have hb3 := (al_below wr (.cells #[] 3)).trans h2; have B3 := Lib.hid hb3; have H3a := Lib.hid (H3.out.alloc (.cells #[.int .i64 x] 3)); have HC3 := Lib.hid (show (w3.alloc (.cells #[.int .i64 x] 3)).cell? ⟨w3.heap.size, 0, none⟩ = some (.int .i64 x) by simp [go_sem]); have B3a := Lib.hid (hb3.alloc hb3.size (.cells #[.int .i64 x] 3)); clear h1 h2 hb3)
            | (refine wpl_app (by rfl) _ _ (by rfl) wr.heap.size wr.heap.size _ f x (by rfl) H3a.out ⟨w3.heap.size, 0, none⟩ 1 (by rfl) HC3.out (by have := HM.out; omega) B3a.out.size (Nat.le_refl _) ?_; intro v4 w4 h1 h2; have hb4 := B3a.out.trans h2; have B4 := Lib.hid hb4; obtain ⟨A4, c4, rfl, hA4, hI4⟩ := h1.layN (n := m + 1) (by have := HM.out; rw [List.length_append, this]; first | rfl | simp); have HA4 := Lib.hid hA4; have HI4 := Lib.hid hI4; clear h1 h2 hb4 hA4 hI4)
            | (go_at_call 105; refine (HIH.out (f ++ [x]) (m + 1) (by have := HM.out; rw [List.length_append, this]; first | rfl | simp) (by have := HMN.out; omega) HFX.out A4 c4 wr.heap.size w4 HA4.out HI4.out B4.out.size).mono ?_; rintro e w5 ⟨⟨A5, c5, rfl, hA5, hR5⟩, hb5⟩; have hb5' := hb0to B4.out hb5; have HA5 := Lib.hid hA5; have HR5 := Lib.hid hR5; have H5 := Lib.hid (HOWN.out.below_ hb5' (Nat.le_refl _)); have B5 := Lib.hid (hb0to hb.out hb5'); have hz5 := hb5'.size; have B5z := Lib.hid hz5; clear hA5 hR5 hb5 hb5' hz5)
            | (refine wpl_appR 135 Tryz.underlying135 (by rfl) _ _ (by rfl) w.heap.size B w.heap.size _ (combTo nb n f k) (by rfl) H5.out A5 c5 wr.heap.size _ HA5.out (by rfl) HR5.out (Nat.le_trans hB HZ.out) (rows_own HOWN.out) (by omega) (by omega) (Nat.le_trans HZ.out B5z.out) (Nat.le_refl _) ?_; intro v6 w6 hown6 hb6; have H6 := Lib.hid hown6; have B6 := Lib.hid (B5.out.trans hb6); clear hown6 hb6))
          have e6 : Hid (Value.int IntKind.i64 (x + 1) = Value.int IntKind.i64 (y + 1 + ((k + 1 : Nat) : Int))) := Lib.hid (by rw [HX.out]; congr 1 <;> omega)
          go_roundw
          case rel => exact ⟨k + 1, .inr (by have := HX.out; omega), e6.out, Lib.hid (by rw [HOS.out]; exact H6.out), B6⟩
          case measure => simp [intOf]; omega
        · have HO := Lib.hid (HAL.out k (by omega))
          have hown2 := hown.out
          rw [HO.out] at hown2
          obtain ⟨A2, c2, rfl, hA2, hR2⟩ := hown2.lay hB
          have HA2 := Lib.hid hA2
          have HR2 := Lib.hid hR2
          clear hA2 hR2 hown hown2
          go_wp2_with (fail)
          go_ret
          exact ⟨⟨A2, c2, rfl, HA2.out, HR2.out⟩, hb.out⟩
theorem fromN_ints (f : List Nat) : fromN (intsN f) = (nextN f : Int) := by
  refine snoc_indN (P := fun f => fromN (intsN f) = (nextN f : Int)) (by simp [intsN, fromN_nil, nextN_nil]) (fun l x _ => ?_) f
  rw [intsN_app, show intsN [x] = [(x : Int)] from rfl, fromN_snoc, nextN_snoc]; omega
theorem combR_ints (nb : Nat) : ∀ (n : Nat) (f : List Nat), combR nb n (intsN f) = (combN nb n f).map intsN
  | 0, f => by simp [combR, combN]
  | n + 1, f => by
    unfold combR combN
    rw [fromN_ints, List.map_flatMap, show ((nb : Int) - (nextN f : Int)).toNat = nb - nextN f by omega]
    congr 1
    funext j
    rw [← combR_ints nb n (f ++ [nextN f + j]), intsN_app]
    congr 2

open Go.RowKit

/-! The specification's sales 84. -/
theorem run_appR1 {w : World} (ty st : TypeId) (hst : Tryz.prog.underlying st = some (.slice 27)) (n₀ lo base : Nat) (v : Value) (rs : List (List Int)) (hown : OwnsR w lo base v rs)
    (ad : Addr) (c : Nat) (A' : Option Addr) (c' : Nat) (r : List Int) (hc : w.cell? ad = some (.slice A' r.length c')) (hA' : A' = none → c' = 0 ∧ r = []) (lo2 hi2 : Nat) (hI : IntsIn w lo2 hi2 A' r) (hlo2 : lo ≤ lo2) (hhi : hi2 ≤ w.heap.size) (hab : ∀ k, v.ownBlock = some k → k < lo2 ∨ hi2 ≤ k) (hl : rs.length ≤ 1000000) (hbase : base ≤ w.heap.size) (hn : n₀ ≤ base) :
    ∃ v' w', (Builtin.append_ #[st, st] ty #[v, .slice (some ad) 1 c]).run Tryz.prog w = .ok v' w' ∧ OwnsR w' lo base v' (rs ++ [r]) ∧ Below n₀ w w' ∧ (∀ k, v'.ownBlock = some k → v.ownBlock = some k ∨ k = w.heap.size) ∧ (∀ b, b < w.heap.size → some b ≠ v.ownBlock → w'.heap[b]? = w.heap[b]?) := by
  obtain ⟨i0, hi, hz0, hz1, hz2⟩ := info_parts info24'
  obtain ⟨vs, hown, hvs⟩ := hown
  obtain ⟨v', w', hrun, h2, h3, _, hat⟩ := run_append_own_at (P := Tryz.prog) w base st ty 27 i0 (.slice none 0 0) 1 24 hst hi hz0 hz1 hz2 rfl (by decide) v rs.length vs hown ad 1 c [.slice A' r.length c'] rfl (fun j u hj => by
      match j, hj with
      | 0, hj => simp at hj; subst hj; simpa [Addr.add] using hc) (fun u hu => by simp at hu; subst hu; rfl) (by unfold maxLen; omega) (by omega) hbase
  have hne : ∀ b, b < w.heap.size → some b ≠ v.ownBlock → some b ≠ v'.ownBlock := fun b hb hb2 hb3 => by
    rcases hat with e | e
    · exact hb2 (hb3.trans e)
    · rw [e] at hb3; cases hb3; omega
  refine ⟨v', w', hrun, ⟨vs ++ [.slice A' r.length c'], by rw [List.length_append]; exact h2, fun i r2 hr => ?_⟩, own_below hown h3 (by omega) hn, fun k hk => by
    rcases hat with e | e
    · exact .inl (by rw [← e]; exact hk)
    · rw [e] at hk; exact .inr (Option.some.inj hk).symm, h3.block⟩
  have hvl : vs.length = rs.length := by have := hown.1; omega
  by_cases hi : i < rs.length
  · rw [List.getElem?_append_left hi] at hr
    obtain ⟨u, hu, A2, c2, rfl, hA2, hr'⟩ := hvs i r2 hr
    refine ⟨_, by rw [List.getElem?_append_left (by omega)]; exact hu, A2, c2, rfl, hA2, ?_⟩
    rcases hr' with hr' | ⟨b, off, e, q1, q2, q3, q4⟩
    · exact .inl hr'
    · exact .inr ⟨b, off, e, q1, Nat.lt_of_lt_of_le q2 h3.size, hne b q2 q3, fun i x hx => (World.cell?_of_block (h3.block b q2 q3)).trans (q4 i x hx)⟩
  · have hlt := (List.getElem?_eq_some_iff.1 hr).1
    rw [List.length_append, List.length_singleton] at hlt
    obtain rfl : i = rs.length := by omega
    rw [List.getElem?_append_right (Nat.le_refl _), Nat.sub_self] at hr
    simp at hr; subst hr
    refine ⟨_, by rw [List.getElem?_append_right (by omega), hvl, Nat.sub_self]; rfl, A', c', rfl, hA', ?_⟩
    rcases hI with hI | ⟨b, off, e, q1, q2, q4⟩
    · exact .inl hI
    · have q3 : some b ≠ v.ownBlock := fun e => by have := hab b e.symm; omega
      exact .inr ⟨b, off, e, by omega, by have := h3.size; omega, hne b (by omega) q3, fun i x hx => (World.cell?_of_block (h3.block b (by omega) q3)).trans (q4 i x hx)⟩
theorem wpl_appR1 {ops : Array Oper} {rest : List Oper} {o : Oper} {a : Act} {w : World} {Q : Exit → Act → World → Prop} (hgd : o.guard = none) (s x : Operand)
    (ho : o.op = .call { callee := .builtin .append, args := #[s, x], argTypes := #[135, 135] }) (n₀ lo base : Nat) (v : Value) (rs : List (List Int)) (hs : a.eval s = v) (hown : OwnsR w lo base v rs)
    (ad : Addr) (c : Nat) (hx : a.eval x = .slice (some ad) 1 c) (A' : Option Addr) (c' : Nat) (r : List Int) (hc : w.cell? ad = some (.slice A' r.length c')) (hA' : A' = none → c' = 0 ∧ r = []) (lo2 hi2 : Nat) (hI : IntsIn w lo2 hi2 A' r) (hlo2 : lo ≤ lo2) (hhi : hi2 ≤ w.heap.size) (hab : ∀ k, v.ownBlock = some k → k < lo2 ∨ hi2 ≤ k) (hl : rs.length ≤ 1000000) (hbase : base ≤ w.heap.size) (hn : n₀ ≤ base)
    (h : ∀ v' w', OwnsR w' lo base v' (rs ++ [r]) → Below n₀ w w' → (∀ k, v'.ownBlock = some k → v.ownBlock = some k ∨ k = w.heap.size) → (∀ b, b < w.heap.size → some b ≠ v.ownBlock → w'.heap[b]? = w.heap[b]?) → wpList Tryz.prog ops Q rest (a.put o.dst v') w') : wpList Tryz.prog ops Q (o :: rest) a w := by
  refine wpList_plain hgd fun K' hK' => ?_
  obtain ⟨v', w', hrun, h1, h2, h3, h4⟩ := run_appR1 (w := w) o.type 135 Tryz.underlying135 n₀ lo base v rs hown ad c A' c' r hc hA' lo2 hi2 hI hlo2 hhi hab hl hbase hn
  unfold Oper.wp
  simp [execOp, ho, resolve, invoke, builtin, hs, hx, hrun, Result.andThen]
  exact hK' _ _ (h v' w' h1 h2 h3 h4)
theorem ownsR_one (W : World) (lo base : Nat) (hb : base ≤ W.heap.size) : OwnsR (W.alloc (.cells #[.slice none 0 0] 27)) lo base (.slice (some ⟨W.heap.size, 0, none⟩) 1 1) [[]] :=
  ⟨[.slice none 0 0], ⟨by simp, .inr ⟨W.heap.size, 1, #[.slice none 0 0], rfl, hb, World.alloc_heap_new W _, Nat.le_refl _, by unfold maxLen; omega, by simp, by simp⟩⟩, fun i r hr => by
    match i, hr with
    | 0, hr => simp at hr; subst hr; exact ⟨_, rfl, none, 0, rfl, fun _ => ⟨rfl, rfl⟩, .inl rfl⟩⟩
theorem intsN_toNat (l : List Nat) : (intsN l).map Int.toNat = l := by
  unfold intsN
  rw [List.map_map]
  conv => rhs; rw [← List.map_id l]
  apply List.map_congr_left
  intro a _
  simp
theorem isSale_nat {q : List Bid} {rd : List Int} {l : List Nat} (hp : l.Pairwise (· < ·)) (hl : ∀ x ∈ l, x < q.length) : isSaleB q rd (intsN l) = saleB q rd l := by
  unfold isSaleB
  rw [intsN_toNat, rise_iff.2 ⟨intsN_up hp, fun x hx => by
    unfold intsN at hx
    obtain ⟨i, hi, rfl⟩ := List.mem_map.1 hx
    have := hl i hi; omega⟩]
  rfl
/-- All sales, in order. -/
structure SalesL (q : List Bid) (rd : List Int) (S : List (List Nat)) : Prop where
  up : S.Pairwise aheadP
  mem : ∀ l, l ∈ S ↔ SaleL q rd l
  len : S.length ≤ 100000
theorem SalesL.first {q : List Bid} {rd : List Int} {S : List (List Nat)} (h : SalesL q rd S) : S[0]? = some [] := by
  obtain ⟨j, hj⟩ := List.getElem?_of_mem ((h.mem []).2 (SaleL.nil q rd))
  obtain ⟨k1, k2⟩ := List.getElem?_eq_some_iff.1 hj
  rcases Nat.eq_zero_or_pos j with e | e
  · subst e; exact hj
  · exfalso
    have := List.pairwise_iff_getElem.1 h.up 0 j (by omega) k1 e
    rw [k2] at this
    rcases this with h1 | ⟨h1, h2⟩
    · simp at h1
    · have h3 := List.length_eq_zero_iff.1 h1
      rw [h3] at h2; simp [earlierN] at h2
def SalesRet (q : List Bid) (rd : List Int) (lo : Nat) (w' : World) (e : Ending) : Prop := ∃ S, SalesL q rd S ∧ RowsRet (S.map intsN) lo w' e
set_option maxRecDepth 100000 in
set_option maxHeartbeats 4000000 in
theorem rsales_any (F : FL) (f : Fair) (hn : FN f) (hf : FOK f) (w : World) (hF : FairAt w w.heap.size F f) : Calls Tryz.prog 92 #[F.enc f] w fun e w' => SalesRet f.q (rdF f) w.heap.size w' e ∧ Below w.heap.size w w' := by
  have hbw := al_below w (.cells #[.slice F.L.Ak f.h.ks.length F.L.ck, .int .i64 f.h.fl, .slice F.L.Ap f.h.ps.length F.L.cp, .slice F.L.Ab f.h.bs.length F.L.cb, .slice F.Ap f.pk.length F.cp, .int .i64 f.day, .int .i64 f.nb, .slice F.Aq f.q.length F.cq] 32)
  have HB := Lib.hid (FBox.new w F f)
  obtain ⟨c0, c1, c2, c3, c4, c5, c6, c7⟩ := (FBox.new w F f).cells
  obtain ⟨W0, hW0⟩ : ∃ W0, w.alloc (.cells #[.slice F.L.Ak f.h.ks.length F.L.ck, .int .i64 f.h.fl, .slice F.L.Ap f.h.ps.length F.L.cp, .slice F.L.Ab f.h.bs.length F.L.cb, .slice F.Ap f.pk.length F.cp, .int .i64 f.day, .int .i64 f.nb, .slice F.Aq f.q.length F.cq] 32) = W0 := ⟨_, rfl⟩
  rw [hW0] at hbw HB c0 c1 c2 c3 c4 c5 c6 c7
  have HBW := Lib.hid hbw
  have HW0 := Lib.hid hW0
  have HF := Lib.hid (hF.below hbw)
  clear hbw hW0 hF
  have HN := Lib.hid hn
  have HFO := Lib.hid hf
  have hql := hf.ql
  obtain ⟨nb, hnb⟩ := Int.eq_ofNat_of_zero_le hf.n0
  have hnb4 : nb ≤ 4 := by have := hf.n1; omega
  have HNB := Lib.hid hnb
  have hb1 := al_below W0 (.cells #[.slice none 0 0] 27)
  have HOW := Lib.hid (ownsR_one W0 W0.heap.size W0.heap.size (Nat.le_refl _))
  obtain ⟨W1, hW1⟩ : ∃ W1, W0.alloc (.cells #[.slice none 0 0] 27) = W1 := ⟨_, rfl⟩
  rw [hW1] at hb1 HOW
  have HW1 := Lib.hid hW1
  have HB1 := Lib.hid hb1
  have H90 := Lib.hid (readyOf_any F f hn hf W1 (HF.out.below hb1))
  have hrl := rd_len (f := f)
  have hbl := hf.bl
  have hrl2 : (rdF f).length ≤ 1000 := by omega
  clear hn hf hnb hW1 c0 c1 c2 c3 c4 c5 c6 c7
  obtain ⟨L, Ap, cp, Aq, cq⟩ := F
  go_enter Tryz.func92, Tryz.ntmps92
  go_upto_region 1 with (fail)
  have e := HW0.out
  rw [e]
  clear e
  go_upto_region 2 with (fail)
  have e := HW1.out
  rw [e]
  clear e
  obtain ⟨g0, g1, g2, g3, g4, g5, g6, g7⟩ := (HB.out.of (HB1.out.block _ HB.out.lt)).cells
  clear hb1
  go_wp2_with (go_at_call 104; refine H90.out.mono ?_; rintro e w2 ⟨⟨v2, rfl, hv2⟩, hb2⟩; have B2 := Lib.hid (hb0to HB1.out hb2); have B2r := Lib.hid hb2.size; obtain ⟨A2, c2, rfl, _, _, hI2⟩ := hv2.lay; have HI2 := Lib.hid hI2; have HOW2 := Lib.hid (HOW.out.below_ hb2 (Nat.le_refl _)); clear hb2 hv2 hI2)
  clear g0 g1 g2 g3 g4 g5 g6 g7
  have hz1 : W0.heap.size < W1.heap.size := by have := heap_lt (heap_new1 W0 (.cells #[.slice none 0 0] 27)); rw [HW1.out] at this; exact this
  go_loopw [3, 5] (fun s i wr => ∃ (m : Nat) (out : List (List Nat)), 1 ≤ m ∧ m ≤ 5 ∧ i = .int .i64 m ∧ Hid (SpecTo f.q (rdF f) m 0 out) ∧ out.length ≤ 4096 * m ∧ Hid (OwnsR wr W0.heap.size W0.heap.size s (out.map intsN)) ∧ Hid (IntsIn wr W1.heap.size w2.heap.size A2 (rdF f)) ∧ Hid (∀ k, s.ownBlock = some k → k < W1.heap.size ∨ w2.heap.size ≤ k) ∧ Hid (Below W0.heap.size W0 wr) ∧ Hid (w2.heap.size ≤ wr.heap.size)) (fun _ i _ => 6 - (intOf i).toNat)
  case atStart => exact ⟨1, [[]], Nat.le_refl _, by omega, rfl, Lib.hid (SpecTo.one _ _), by simp, HOW2, HI2, Lib.hid (fun k hk => by cases hk; exact .inl hz1), B2, Lib.hid (Nat.le_refl _)⟩
  case round =>
    obtain ⟨m, out, hm1, hm5, rfl, hsp, hol, hown, hrdy, hob, hbW, hsz⟩ := hrel
    obtain ⟨g0, g1, g2, g3, g4, g5, g6, g7⟩ := (HB.out.of (hbW.out.block _ HB.out.lt)).cells
    rw [HNB.out] at g6
    by_cases hlt : m ≤ nb ∧ m ≤ (rdF f).length
    · obtain ⟨hl1, hl2⟩ := hlt
      have H109 := Lib.hid (rlists_any f.q.length hql m (by omega) m [] 0 rfl (by omega) (fun x hx => by simp at hx) none 0 wr.heap.size wr (fun _ => ⟨rfl, rfl⟩) (.inl rfl) (Nat.le_refl _))
      have HC := Lib.hid (show combR f.q.length m [] = (combN f.q.length m []).map intsN from combR_ints f.q.length m [])
      have hcl := combR_small (nb := f.q.length) (n := m) hql (by omega) (f := []) (by rw [fromN_nil]; omega)
      rw [HC.out, List.length_map] at hcl
      have H109 := Lib.hid (show Calls _ _ _ _ fun e w' => (∃ A c, e = .returned (.slice A (combN f.q.length m []).length c) ∧ RowsIn w' wr.heap.size w'.heap.size A ((combN f.q.length m []).map intsN)) ∧ Below wr.heap.size wr w' from H109.out.mono fun e w' h => by
        obtain ⟨⟨A, c, he, _, hR⟩, hb⟩ := h
        rw [HC.out] at he hR
        rw [List.length_map] at he
        exact ⟨⟨A, c, he, hR⟩, hb⟩)
      obtain ⟨wo, hwo⟩ : ∃ x : World, x = wr := ⟨_, rfl⟩
      have HOB := Lib.hid (rows_own hown.out)
      have HSP := Lib.hid (fun (i : Nat) (l : List Nat) (out : List (List Nat)) (h : SpecTo f.q (rdF f) m i out) (hl : (combN f.q.length m [])[i]? = some l) => And.intro (fun hn => h.no hl hn) (fun hs => h.yes hl hs))
      have HROW := Lib.hid (fun (out : List (List Nat)) (h : SpecTo f.q (rdF f) m (combN f.q.length m []).length out) => h.row)
      have HCI := Lib.hid (fun (l : List Nat) (h : l ∈ combN f.q.length m []) => combN_iff.1 h)
      generalize combN f.q.length m [] = cs at H109 hcl HSP HROW HCI
      go_wp2_with (go_at_call 105; refine H109.out.mono ?_; rintro e w3 ⟨⟨A3, c3, rfl, hR3⟩, hb3⟩; have HR3 := Lib.hid hR3; have B3 := Lib.hid (hb0to hbW.out hb3); have hz3 := hb3.size; have HO3 := Lib.hid (hown.out.below_ hb3 (Nat.le_refl _)); have HI3 := Lib.hid (hrdy.out.below hb3 hsz.out); clear hR3 hb3)
      have HOB3 := Lib.hid (fun k (hk : Value.ownBlock _ = some k) => And.intro (hob.out k hk) (show k < wr.heap.size ∨ w3.heap.size ≤ k from .inl (HOB.out k hk)))
      have hszr := hsz.out
      have HBW := Lib.hid hbW.out
      clear g0 g1 g2 g3 g4 g5 g6 g7 hwo HOB
      obtain ⟨LB, hLB⟩ : ∃ n, n = wr.heap.size := ⟨_, rfl⟩
      rw [← hLB] at HR3 HOB3 hz3 hszr
      have hWL : W0.heap.size ≤ LB := by have := B2r.out; omega
      clear hrdy hob hbW hsz hown hLB H109
      go_loopw [3, 7] (fun s i wr => ∃ (j : Nat) (out : List (List Nat)), j ≤ cs.length ∧ i = .int .i64 j ∧ Hid (SpecTo f.q (rdF f) m j out) ∧ out.length ≤ 4096 * m + j ∧ Hid (OwnsR wr W0.heap.size W0.heap.size s (out.map intsN)) ∧ Hid (IntsIn wr W1.heap.size w2.heap.size A2 (rdF f)) ∧ Hid (RowsIn wr LB w3.heap.size A3 (cs.map intsN)) ∧ Hid (∀ k, s.ownBlock = some k → (k < W1.heap.size ∨ w2.heap.size ≤ k) ∧ (k < LB ∨ w3.heap.size ≤ k)) ∧ Hid (Below W0.heap.size W0 wr) ∧ Hid (w3.heap.size ≤ wr.heap.size)) (fun _ i _ => cs.length - (intOf i).toNat)
      case atStart => exact ⟨0, out, Nat.zero_le _, rfl, hsp, by omega, HO3, HI3, HR3, HOB3, B3, Lib.hid (Nat.le_refl _)⟩
      case round =>
        obtain ⟨j, out, hj, rfl, hsp, hol, hown, hrdy, hrow, hob, hbW, hsz⟩ := hrel
        obtain ⟨g0, g1, g2, g3, g4, g5, g6, g7⟩ := (HB.out.of (hbW.out.block _ HB.out.lt)).cells
        have hszj := hsz.out
        by_cases hjl : j < cs.length
        · obtain ⟨l, hl⟩ : ∃ l, cs[j]? = some l := ⟨_, List.getElem?_eq_getElem hjl⟩
          have hci := HCI.out l (List.mem_of_getElem? hl)
          have hlm : (cs.map intsN)[j]? = some (intsN l) := by rw [List.getElem?_map, hl]; rfl
          obtain ⟨b4, o4, A4, c4, eA, b4lt, t1, hA4, hI4⟩ := hrow.out.at_ hlm
          subst eA
          have HSJ := Lib.hid (HSP.out j l out hsp.out hl)
          have hll : (intsN l).length ≤ 1000 := by rw [intsN_len, hci.1]; omega
          have H93 := Lib.hid (fun z => by have := isSale_any ⟨L, Ap, cp, Aq, cq⟩ f HN.out HFO.out (rdF f) hrl2 (intsN l) hll A4 c4 A2 c2 (extB wr z) ((HF.out.below hbW.out).below (extB_below wr z)) (ints_later (hI4.at_.keep hsz.out fun _ _ _ => rfl) (extB_below wr z)) (ints_later (hrdy.out.at_.keep (by omega) fun _ _ _ => rfl) (extB_below wr z)); rw [isSale_nat hci.2.1 hci.2.2] at this; exact this)
          have HT1 := Lib.hid t1
          have HA4 := Lib.hid hA4
          have HI4 := Lib.hid hI4
          have y0 := extB_cell g0
          have y1 := extB_cell g1
          have y2 := extB_cell g2
          have y3 := extB_cell g3
          have y4 := extB_cell g4
          have y5 := extB_cell g5
          have y6 := extB_cell g6
          have y7 := extB_cell g7
          have y8 := extB_cell t1
          clear hl hlm hci hA4 hI4 g0 g1 g2 g3 g4 g5 g6 g7
          cases hs : saleB f.q (rdF f) l
          · rw [hs] at H93
            have HNX := Lib.hid (HSJ.out.1 (fun h => by rw [saleB_iff.2 h] at hs; cases hs))
            clear hs t1
            go_upto_region 10 with (fail)
            refine wp_region_ext (by kernel_rfl) (by kernel_rfl) ?_
            repeat (go_big_quiet_step ((go_at_call 106; exact ext_call (H93.out _))))
            refine wpQuiet_nil ?_
            rintro _ ⟨t1, rfl⟩
            clear y0 y1 y2 y3 y4 y5 y6 y7 y8
            have HB6 := Lib.hid (extB_below wr t1)
            obtain ⟨W6, hW6⟩ : ∃ W6, extB wr t1 = W6 := ⟨_, rfl⟩
            rw [hW6] at HB6 ⊢
            clear hW6
            go_wp2_with (fail)
            go_roundw
            case rel => exact ⟨j + 1, out, by omega, by go_num, HNX, by omega, Lib.hid (hown.out.below_ HB6.out (Nat.le_refl _)), Lib.hid (hrdy.out.below HB6.out (by omega)), Lib.hid (hrow.out.below HB6.out hsz.out), hob, Lib.hid (hb0to hbW.out HB6.out), Lib.hid (Nat.le_trans hsz.out HB6.out.size)⟩
            case measure => simp [intOf]; omega
          · rw [hs] at H93
            have HNX := Lib.hid (HSJ.out.2 (saleB_iff.1 hs))
            clear hs
            go_upto_region 10 with (fail)
            refine wp_region_ext (by kernel_rfl) (by kernel_rfl) ?_
            repeat (go_big_quiet_step ((go_at_call 106; exact ext_call (H93.out _))))
            refine wpQuiet_nil ?_
            rintro _ ⟨t1, rfl⟩
            clear y0 y1 y2 y3 y4 y5 y6 y7
            have HB6 := Lib.hid (extB_below wr t1)
            have z8 := y8 t1
            obtain ⟨W6, hW6⟩ : ∃ W6, extB wr t1 = W6 := ⟨_, rfl⟩
            rw [hW6] at HB6 z8 ⊢
            clear hW6 y8
            have hz6 := HB6.out.size
            have hb7 := al_below W6 (.cells #[.slice A4 (intsN l).length c4] 27)
            have HO7 := Lib.hid ((hown.out.below_ HB6.out (Nat.le_refl _)).alloc (.cells #[.slice A4 (intsN l).length c4] 27))
            have HI7 := Lib.hid ((HI4.out.below HB6.out hsz.out).below hb7 (by omega))
            have HW0z := hbW.out.size
            go_wp2_with (refine wpl_appR1 (by rfl) _ _ (by rfl) W0.heap.size W0.heap.size W0.heap.size _ (out.map intsN) (by rfl) HO7.out ⟨W6.heap.size, 0, none⟩ 1 (by rfl) A4 c4 (intsN l) (by simp [go_sem]) HA4.out LB w3.heap.size HI7.out (by omega) (by simp; omega) (fun k hk => (hob.out k hk).2) (by rw [List.length_map]; omega) (by simp; omega) (Nat.le_refl _) ?_; intro v8 w8 hown8 hb8 hnew hkeep; have HO8 := Lib.hid hown8; have HB8 := Lib.hid hb8; have HNEW := Lib.hid hnew; have HKEEP := Lib.hid hkeep; clear hown8 hb8 hnew hkeep)
            have hz8 := HB8.out.size
            have HKE := Lib.hid (fun (b o : Nat) (h1 : b < wr.heap.size) (h2 : some b ≠ Value.ownBlock _) => show w8.cell? ⟨b, o, none⟩ = wr.cell? ⟨b, o, none⟩ from (World.cell?_of_block (a := ⟨b, o, none⟩) (HKEEP.out b (by simp; omega) h2)).trans (((hb7.cell (p := ⟨b, o, none⟩) (by show b < W6.heap.size; omega))).trans (HB6.out.cell (p := ⟨b, o, none⟩) h1)))
            have hz9 : W6.heap.size + 1 ≤ w8.heap.size := by simpa using hz8
            go_roundw
            case rel => exact ⟨j + 1, out ++ [l], by omega, by go_num, HNX, by rw [List.length_append, List.length_singleton]; omega, Lib.hid (by rw [List.map_append]; exact HO8.out), Lib.hid (hrdy.out.keep (Nat.le_refl _) (Nat.le_refl _) fun b o h1 h2 => HKE.out b o (by omega) (fun e => by have := (hob.out b e.symm).1; omega)), Lib.hid (hrow.out.keep (Nat.le_refl _) (Nat.le_refl _) fun b o h1 h2 => HKE.out b o (by omega) (fun e => by have := (hob.out b e.symm).2; omega)), Lib.hid (fun k hk => by
              rcases HNEW.out k hk with h | h
              · exact hob.out k h
              · have : k = W6.heap.size + 1 := by simpa using h
                exact ⟨.inr (by omega), .inr (by omega)⟩), Lib.hid ((hb0to hbW.out HB6.out).trans ((hb7.mono (by omega)).trans HB8.out)), Lib.hid (by omega)⟩
            case measure => simp [intOf]; omega
        · obtain rfl : j = cs.length := by omega
          have HRO := Lib.hid (HROW.out out hsp.out)
          go_wp2_with (fail)
          go_roundw
          case rel => exact ⟨m + 1, out, by omega, by omega, by go_num, HRO, by omega, hown, hrdy, Lib.hid (fun k hk => (hob.out k hk).1), hbW, Lib.hid (by omega)⟩
          case measure => simp [intOf]; omega
    · have hall := hsp.out.all (n := nb) (by omega) (fun b hb => by have := HFO.out.who b hb; rw [HNB.out] at this; exact this) HFO.out.ne
      have HSA := Lib.hid (SalesL.mk hsp.out.up hall (by omega))
      obtain ⟨A9, c9, hs9, hA9, hR9⟩ := hown.out.lay (Nat.le_refl _)
      have HA9 := Lib.hid hA9
      subst hs9
      rw [List.length_map] at *
      have HR9 := Lib.hid hR9
      clear hR9 hall hown hob hA9
      by_cases hl1 : m ≤ nb
      · have hl2 : ¬ m ≤ (rdF f).length := fun h => hlt ⟨hl1, h⟩
        clear hlt
        go_wp2_with (fail)
        go_ret
        exact ⟨⟨out, HSA.out, A9, c9, by rw [List.length_map]; rfl, HA9.out, HR9.out.keep HBW.out.size (Nat.le_refl _) fun _ _ _ _ => rfl⟩, hb0to HBW.out hbW.out⟩
      · clear hlt
        go_wp2_with (fail)
        go_ret
        exact ⟨⟨out, HSA.out, A9, c9, by rw [List.length_map]; rfl, HA9.out, HR9.out.keep HBW.out.size (Nat.le_refl _) fun _ _ _ _ => rfl⟩, hb0to HBW.out hbW.out⟩

open Go.RowKit

/-! The specification's WinnersOf 81, MostOf 79, Most 41, Winners 43, Known 108, wonOf 83, Won 44. -/
def IntsRet (l : List Int) (lo : Nat) (w' : World) (e : Ending) : Prop := ∃ A c, e = .returned (.slice A l.length c) ∧ (A = none → c = 0 ∧ l = []) ∧ IntsIn w' lo w'.heap.size A l
theorem IntsRet.of {l : List Int} {lo : Nat} {w' : World} {e : Ending} {v : Value} (he : e = .returned v) (h : Ints w' lo v l) : IntsRet l lo w' e := by
  obtain ⟨A, c, h1, h2, _, h3⟩ := h.lay
  exact ⟨A, c, by rw [he, h1], h2, h3⟩
set_option maxRecDepth 100000 in
set_option maxHeartbeats 4000000 in
theorem winnersOf_any (F : FL) (f : Fair) (hn : FN f) (hf : FOK f) (w : World) (hF : FairAt w w.heap.size F f) : Calls Tryz.prog 76 #[F.enc f] w fun e w' => (∃ A c, e = .returned (.slice A (winL f.q (rdF f)).length c) ∧ (A = none → c = 0 ∧ intsN (winL f.q (rdF f)) = []) ∧ IntsIn w' w.heap.size w'.heap.size A (intsN (winL f.q (rdF f)))) ∧ Below w.heap.size w w' := by
  have hbw := al_below w (.cells #[.slice F.L.Ak f.h.ks.length F.L.ck, .int .i64 f.h.fl, .slice F.L.Ap f.h.ps.length F.L.cp, .slice F.L.Ab f.h.bs.length F.L.cb, .slice F.Ap f.pk.length F.cp, .int .i64 f.day, .int .i64 f.nb, .slice F.Aq f.q.length F.cq] 32)
  have HB := Lib.hid (FBox.new w F f)
  obtain ⟨c0, c1, c2, c3, c4, c5, c6, c7⟩ := (FBox.new w F f).cells
  obtain ⟨W0, hW0⟩ : ∃ W0, w.alloc (.cells #[.slice F.L.Ak f.h.ks.length F.L.ck, .int .i64 f.h.fl, .slice F.L.Ap f.h.ps.length F.L.cp, .slice F.L.Ab f.h.bs.length F.L.cb, .slice F.Ap f.pk.length F.cp, .int .i64 f.day, .int .i64 f.nb, .slice F.Aq f.q.length F.cq] 32) = W0 := ⟨_, rfl⟩
  rw [hW0] at hbw HB c0 c1 c2 c3 c4 c5 c6 c7
  have HBW := Lib.hid hbw
  have HW0 := Lib.hid hW0
  have HF := Lib.hid (hF.below hbw)
  clear hbw hW0 hF
  have H84 := Lib.hid (rsales_any F f hn hf W0 HF.out)
  have HFO := Lib.hid hf
  have hql := hf.ql
  clear hn hf
  obtain ⟨L, Ap, cp, Aq, cq⟩ := F
  go_enter Tryz.func76, Tryz.ntmps76
  go_upto_region 1 with (fail)
  have e := HW0.out
  rw [e]
  clear e
  go_upto_region 2 with (go_at_call 92; refine H84.out.mono ?_; rintro e w1 ⟨⟨S, hS, A1, cs1, rfl, _, hR⟩, hb1⟩; have HS := Lib.hid hS; have HR := Lib.hid hR; have B1 := Lib.hid hb1; have hlen := hS.len; have hfst := hS.first; clear hb1 hR hS)
  have hS0 : 0 < S.length := (List.getElem?_eq_some_iff.1 hfst).1
  have HFI := Lib.hid hfst
  obtain ⟨b0, o0, A0, c0', eA, b0lt, t0, hA0, hI0⟩ := HR.out.at_ (show (S.map intsN)[0]? = some (intsN []) by rw [List.getElem?_map, hfst]; rfl)
  subst eA
  have HA0 := Lib.hid hA0
  have HI0 := Lib.hid hI0
  simp only [Nat.add_zero] at t0
  have t0 : w1.cell? ⟨b0, o0, none⟩ = some (.slice A0 (([] : List Nat).length) c0') := t0
  simp only [List.length_nil] at t0
  have hS0' : (0 : Int) < (S.length : Int) := by omega
  clear hfst hA0 hI0 c0 c1 c2 c3 c4 c5 c6 c7
  go_wp2_with (fail)
  clear t0
  go_loopw [4, 5] (fun s i wr => ∃ (k : Nat) (b : List Nat) (A : Option Addr) (c : Nat), k ≤ S.length ∧ i = .int .i64 k ∧ s = .slice A b.length c ∧ Hid (A = none → c = 0 ∧ intsN b = []) ∧ Hid (BestTo S (bringsL f.q) k b) ∧ Hid (IntsIn w1 W0.heap.size w1.heap.size A (intsN b)) ∧ Hid (Below w1.heap.size w1 wr)) (fun _ i _ => S.length - (intOf i).toNat)
  case atStart => exact ⟨0, [], A0, c0', Nat.zero_le _, rfl, rfl, HA0, Lib.hid (BestTo.zero HFI.out), HI0, Lib.hid (Below.refl _ _)⟩
  case round =>
    obtain ⟨k, b, A, c, hk, rfl, rfl, hA, hbt, hbi, hb⟩ := hrel
    have hbW := hb0to B1.out hb.out
    by_cases hlt : k < S.length
    · obtain ⟨l, hl⟩ : ∃ l, S[k]? = some l := ⟨_, List.getElem?_eq_getElem hlt⟩
      have hsl := (HS.out.mem l).1 (List.mem_of_getElem? hl)
      have hsb := (HS.out.mem b).1 (by obtain ⟨j, _, hj⟩ := hbt.out.mem; exact List.mem_of_getElem? hj)
      have hlen8 : ∀ {l : List Nat}, SaleL f.q (rdF f) l → l.length ≤ 8 := fun {l} h => by
        obtain ⟨m, _, e⟩ := bits_all f.q.length hql l h.up fun i hi => h.lt hi
        rw [← e]; exact Nat.le_trans (bits_len _ _) hql
      obtain ⟨b4, o4, A4, c4, eA, b4lt, t4, hA4, hI4⟩ := HR.out.at_ (show (S.map intsN)[k]? = some (intsN l) by rw [List.getElem?_map, hl]; rfl)
      cases eA
      rw [intsN_len] at t4
      have t5 := below_cell hb.out t4
      have H57a := Lib.hid (fun z => rBrings_any ⟨L, Ap, cp, Aq, cq⟩ f hql HFO.out.pay l (hlen8 hsl) (fun i hi => hsl.lt hi) A4 c4 (extB wr z) ((HF.out.below hbW).below (extB_below wr z)) (ints_later (ints_later hI4.at_ hb.out) (extB_below wr z)))
      have H57b := Lib.hid (fun z => rBrings_any ⟨L, Ap, cp, Aq, cq⟩ f hql HFO.out.pay b (hlen8 hsb) (fun i hi => hsb.lt hi) A c (extB wr z) ((HF.out.below hbW).below (extB_below wr z)) (ints_later (ints_later hbi.out.at_ hb.out) (extB_below wr z)))
      have HNX := Lib.hid (hbt.out.next HS.out.up hl)
      have HA4 := Lib.hid hA4
      have HI4 := Lib.hid hI4
      obtain ⟨g0, g1, g2, g3, g4, g5, g6, g7⟩ := (HB.out.of (hbW.block _ HB.out.lt)).cells
      have y0 := extB_cell g0
      have y1 := extB_cell g1
      have y2 := extB_cell g2
      have y3 := extB_cell g3
      have y4 := extB_cell g4
      have y5 := extB_cell g5
      have y6 := extB_cell g6
      have y7 := extB_cell g7
      have y8 := extB_cell t5
      clear hl hsl hsb hlen8 hA4 hI4 t4 g0 g1 g2 g3 g4 g5 g6 g7 hbW
      by_cases hgt : bringsL f.q b < bringsL f.q l
      · rw [if_pos hgt] at HNX
        generalize bringsL f.q l = x at H57a hgt
        generalize bringsL f.q b = y at H57b hgt
        have hd : decide (y < x) = true := decide_eq_true hgt
        clear hgt
        go_upto_region 6 with (fail)
        refine wp_region_ext (by kernel_rfl) (by kernel_rfl) ?_
        repeat (go_big_quiet_step ((first | (go_at_call 93; (with_reducible exact ext_call (H57a.out _))) | (go_at_call 93; (with_reducible exact ext_call (H57b.out _))))))
        refine wpQuiet_nil ?_
        rintro _ ⟨t1, rfl⟩
        clear y0 y1 y2 y3 y4 y5 y6 y7 y8
        have HB6 := Lib.hid (extB_below wr t1)
        obtain ⟨W6, hW6⟩ : ∃ W6, extB wr t1 = W6 := ⟨_, rfl⟩
        rw [hW6] at HB6 ⊢
        clear hW6
        have t6 := below_cell HB6.out t5
        clear t5
        go_wp2_with (fail)
        go_roundw
        case rel => exact ⟨k + 1, l, A4, c4, by omega, by go_num, rfl, HA4, HNX, HI4, Lib.hid (hb0to hb.out HB6.out)⟩
        case measure => simp [intOf]; omega
      · rw [if_neg hgt] at HNX
        generalize bringsL f.q l = x at H57a hgt
        generalize bringsL f.q b = y at H57b hgt
        have hd : decide (y < x) = false := decide_eq_false hgt
        clear hgt
        go_upto_region 6 with (fail)
        refine wp_region_ext (by kernel_rfl) (by kernel_rfl) ?_
        repeat (go_big_quiet_step ((first | (go_at_call 93; (with_reducible exact ext_call (H57a.out _))) | (go_at_call 93; (with_reducible exact ext_call (H57b.out _))))))
        refine wpQuiet_nil ?_
        rintro _ ⟨t1, rfl⟩
        clear y0 y1 y2 y3 y4 y5 y6 y7 y8
        have HB6 := Lib.hid (extB_below wr t1)
        obtain ⟨W6, hW6⟩ : ∃ W6, extB wr t1 = W6 := ⟨_, rfl⟩
        rw [hW6] at HB6 ⊢
        clear hW6
        clear t5
        go_wp2_with (fail)
        go_roundw
        case rel => exact ⟨k + 1, b, A, c, by omega, by go_num, rfl, hA, HNX, hbi, Lib.hid (hb0to hb.out HB6.out)⟩
        case measure => simp [intOf]; omega
    · obtain rfl : k = S.length := by omega
      have hwb := hbt.out.win HS.out.mem
      have hq := hwb.unique (win_of_sets HFO.out.ql HFO.out.pos).2
      subst hq
      have HBI := Lib.hid hbi.out
      have HA := Lib.hid hA.out
      clear hbt hwb hA hbi
      go_wp2_with (fail)
      go_ret
      exact ⟨⟨A, c, rfl, HA.out, HBI.out.keep HBW.out.size hb.out.size fun b o h1 h2 => hb.out.cell (p := ⟨b, o, none⟩) h2⟩, hb0to HBW.out hbW⟩
set_option maxRecDepth 100000 in
set_option maxHeartbeats 4000000 in
theorem mostOf_any (F : FL) (f : Fair) (hn : FN f) (hf : FOK f) (w : World) (hF : FairAt w w.heap.size F f) : Calls Tryz.prog 77 #[F.enc f] w fun e w' => e = .returned (.int .i64 (mostV f.q (rdF f))) ∧ Below w.heap.size w w' := by
  have hbw := al_below w (.cells #[.slice F.L.Ak f.h.ks.length F.L.ck, .int .i64 f.h.fl, .slice F.L.Ap f.h.ps.length F.L.cp, .slice F.L.Ab f.h.bs.length F.L.cb, .slice F.Ap f.pk.length F.cp, .int .i64 f.day, .int .i64 f.nb, .slice F.Aq f.q.length F.cq] 32)
  have HB := Lib.hid (FBox.new w F f)
  obtain ⟨c0, c1, c2, c3, c4, c5, c6, c7⟩ := (FBox.new w F f).cells
  obtain ⟨W0, hW0⟩ : ∃ W0, w.alloc (.cells #[.slice F.L.Ak f.h.ks.length F.L.ck, .int .i64 f.h.fl, .slice F.L.Ap f.h.ps.length F.L.cp, .slice F.L.Ab f.h.bs.length F.L.cb, .slice F.Ap f.pk.length F.cp, .int .i64 f.day, .int .i64 f.nb, .slice F.Aq f.q.length F.cq] 32) = W0 := ⟨_, rfl⟩
  rw [hW0] at hbw HB c0 c1 c2 c3 c4 c5 c6 c7
  have HBW := Lib.hid hbw
  have HW0 := Lib.hid hW0
  have HF := Lib.hid (hF.below hbw)
  clear hbw hW0 hF
  have H81 := Lib.hid (fun W hW => winnersOf_any F f hn hf W hW)
  have HFO := Lib.hid hf
  have hql := hf.ql
  have hw8 : (winL f.q (rdF f)).length ≤ 8 := Nat.le_trans (bits_len _ _) hf.ql
  have HQ := Lib.hid (mostV_win (rd := rdF f) hf.ql hf.pos)
  have H57 := Lib.hid (fun A c W hW hI => rBrings_any F f hql hf.pay (winL f.q (rdF f)) hw8 (fun i hi => bits_lt hi) A c W hW hI)
  clear hn hf
  obtain ⟨L, Ap, cp, Aq, cq⟩ := F
  generalize winL f.q (rdF f) = wl at H81 HQ H57
  go_enter Tryz.func77, Tryz.ntmps77
  go_upto_region 1 with (fail)
  have e := HW0.out
  rw [e]
  clear e
  go_region_held3 (fun w' => w'.cell? ⟨w.heap.size, 0, none⟩ = some (.slice L.Ak f.h.ks.length L.ck) ∧ w'.cell? ⟨w.heap.size, 1, none⟩ = some (.int .i64 f.h.fl) ∧ w'.cell? ⟨w.heap.size, 2, none⟩ = some (.slice L.Ap f.h.ps.length L.cp) ∧ w'.cell? ⟨w.heap.size, 3, none⟩ = some (.slice L.Ab f.h.bs.length L.cb) ∧ w'.cell? ⟨w.heap.size, 4, none⟩ = some (.slice Ap f.pk.length cp) ∧ w'.cell? ⟨w.heap.size, 5, none⟩ = some (.int .i64 f.day) ∧ w'.cell? ⟨w.heap.size, 6, none⟩ = some (.int .i64 f.nb) ∧ w'.cell? ⟨w.heap.size, 7, none⟩ = some (.slice Aq f.q.length cq)) (first | go_keep)
    (first
      | (go_at_call 76; refine (H81.out _ (HF.out.below (by first | exact Below.refl _ _ | exact drew_below W0))).mono ?_; rintro e w1 ⟨⟨A1, c1, rfl, _, hI1⟩, hb1⟩; have hk1 : Below W0.heap.size W0 w1 := (by first | exact hb1 | exact hb0to (drew_below W0) hb1); have B1 := Lib.hid hk1; have HI1 := Lib.hid hI1.at_; obtain ⟨r0, r1, r2, r3, r4, r5, r6, r7⟩ := (HB.out.of (hk1.block _ HB.out.lt)).cells; clear hb1 hk1 hI1)
      | (go_at_call 93; refine (H57.out A1 c1 w1 (HF.out.below B1.out) HI1.out).mono ?_; rintro e w2 ⟨rfl, hb2⟩; have B2 := Lib.hid (hb0to B1.out hb2); obtain ⟨r0, r1, r2, r3, r4, r5, r6, r7⟩ := (HB.out.of (B2.out.block _ HB.out.lt)).cells; clear hb2))
  all_goals
    go_wp2_with (fail)
    go_ret
    exact ⟨by rw [HQ.out]; rfl, hb0to HBW.out B2.out⟩
end Go.Proofs.YtmbcpmnigggbaaaGreat
