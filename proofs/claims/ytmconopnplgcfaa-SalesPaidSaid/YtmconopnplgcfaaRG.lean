import Derived.Test.YtmconopnplgcfaaRF
namespace Go.Proofs.Ytmconopnplgcfaa
open Go.RowKit

/-! The specification's lists 109. -/
/-- What follows the last number of a list. -/
def fromN (f : List Int) : Int := match f.getLast? with | none => 0 | some x => x + 1
theorem fromN_nil : fromN [] = 0 := rfl
theorem fromN_at {f : List Int} {x : Int} (h : f[f.length - 1]? = some x) : fromN f = x + 1 := by
  unfold fromN; rw [List.getLast?_eq_getElem?, h]
theorem fromN_snoc (f : List Int) (x : Int) : fromN (f ++ [x]) = x + 1 := by unfold fromN; simp
/-- All rising lists of n more numbers below nb that begin with some. -/
def combR (nb : Nat) : Nat → List Int → List (List Int)
  | 0, f => [f]
  | n + 1, f => (List.range ((nb : Int) - fromN f).toNat).flatMap fun j : Nat => combR nb n (f ++ [fromN f + (j : Int)])
def combTo (nb n : Nat) (f : List Int) (k : Nat) : List (List Int) := (List.range k).flatMap fun j : Nat => combR nb n (f ++ [fromN f + (j : Int)])
theorem combTo_zero (nb n : Nat) (f : List Int) : combTo nb n f 0 = [] := rfl
theorem combTo_succ (nb n : Nat) (f : List Int) (k : Nat) : combTo nb n f (k + 1) = combTo nb n f k ++ combR nb n (f ++ [fromN f + (k : Int)]) := by
  unfold combTo; rw [List.range_succ, List.flatMap_append]; simp
theorem combTo_all {nb n : Nat} {f : List Int} {k : Nat} (h : fromN f + (k : Int) = nb ∨ (k = 0 ∧ (nb : Int) ≤ fromN f)) : combTo nb n f k = combR nb (n + 1) f := by
  obtain rfl : k = ((nb : Int) - fromN f).toNat := by omega
  rfl
theorem combTo_bd {nb n M : Nat} {f : List Int} (hM : ∀ g, 0 ≤ fromN g → (combR nb n g).length ≤ M) (h0 : 0 ≤ fromN f) : ∀ k, (combTo nb n f k).length ≤ M * k
  | 0 => by simp [combTo_zero]
  | k + 1 => by
    have := combTo_bd hM h0 k
    have := hM (f ++ [fromN f + (k : Int)]) (by rw [fromN_snoc]; omega)
    rw [combTo_succ, List.length_append, Nat.mul_succ]
    omega
theorem combR_bound {nb : Nat} (h : nb ≤ 8) : ∀ (n : Nat) (f : List Int), 0 ≤ fromN f → (combR nb n f).length ≤ 8 ^ n
  | 0, f, _ => by simp [combR]
  | n + 1, f, h0 => by
    rw [← combTo_all (k := ((nb : Int) - fromN f).toNat) (by omega)]
    refine Nat.le_trans (combTo_bd (combR_bound h n) h0 _) ?_
    rw [Nat.pow_succ]
    exact Nat.mul_le_mul_left _ (by omega)
theorem combR_small {nb n : Nat} (h : nb ≤ 8) (hn : n ≤ 4) {f : List Int} (h0 : 0 ≤ fromN f) : (combR nb n f).length ≤ 4096 :=
  Nat.le_trans (combR_bound h n f h0) (Nat.le_trans (Nat.pow_le_pow_right (by decide) hn) (by decide))
theorem combTo_small {nb n : Nat} (h : nb ≤ 8) (hn : n ≤ 4) {f : List Int} (h0 : 0 ≤ fromN f) (k : Nat) (hk : k ≤ 8) : (combTo nb n f k).length ≤ 32768 :=
  Nat.le_trans (combTo_bd (M := 4096) (fun g hg => combR_small h hn hg) h0 k) (by omega)
theorem Ints.layN {W : World} {base : Nat} {v : Value} {l : List Int} (h : Ints W base v l) {n : Nat} (hn : l.length = n) : ∃ A c, v = .slice A n c ∧ (A = none → c = 0 ∧ l = []) ∧ IntsIn W base W.heap.size A l := by
  obtain ⟨A, c, h1, h2, _, h3⟩ := h.lay
  exact ⟨A, c, by rw [← hn]; exact h1, h2, h3⟩
def RowsRet (rs : List (List Int)) (lo : Nat) (w' : World) (e : Ending) : Prop := ∃ A c, e = .returned (.slice A rs.length c) ∧ (A = none → c = 0 ∧ rs = []) ∧ RowsIn w' lo w'.heap.size A rs
theorem rows_own {w : World} {lo base : Nat} {v : Value} {rs : List (List Int)} (h : OwnsR w lo base v rs) : ∀ k, v.ownBlock = some k → k < w.heap.size := fun k hk => by
  obtain ⟨vs, h, -⟩ := h
  exact (World.ownsRow.lt h k hk).2
theorem rows_one {w : World} {B m c : Nat} {A : Option Addr} {f : List Int} (hm : f.length = m) (hA : A = none → c = 0 ∧ f = []) (hI : IntsIn w B w.heap.size A f) (hB : B ≤ w.heap.size) :
    RowsIn (w.alloc (.cells #[.slice A m c] 24)) B (w.alloc (.cells #[.slice A m c] 24)).heap.size (some ⟨w.heap.size, 0, none⟩) [f] := by
  have hb := al_below w (.cells #[.slice A m c] 24)
  refine .inr ⟨w.heap.size, 0, rfl, hB, by simp, fun i r hr => ?_⟩
  match i, hr with
  | 0, hr =>
    simp only [List.getElem?_cons_zero, Option.some.injEq] at hr
    subst hr
    exact ⟨A, c, by rw [hm]; simp [go_sem], hA, hI.keep (Nat.le_refl _) hb.size fun b o _ hlt => hb.cell (p := ⟨b, o, none⟩) hlt⟩
theorem wpl_copyM {ops : Array Oper} {rest : List Oper} {o : Oper} {a : Act} {w : World} {Q : Exit → Act → World → Prop} (hgd : o.guard = none) (s x : Operand)
    (ho : o.op = .call { callee := .builtin .append, args := #[s, x], argTypes := #[24, 24] }) (n₀ : Nat) (v : Value) (l0 : List Int) (hs : a.eval s = v) (hown : Ints w n₀ v l0)
    (A : Option Addr) (c : Nat) (l : List Int) (m : Nat) (hm : l.length = m) (hA : A = none → c = 0 ∧ l = []) (hx : a.eval x = .slice A m c) (hI : IntsAt w w.heap.size A l) (hl0 : l0.length ≤ 1000) (hl : m ≤ 1000) (hn : n₀ ≤ w.heap.size)
    (h : ∀ v' w', Ints w' n₀ v' (l0 ++ l) → Below n₀ w w' → wpList Try.prog ops Q rest (a.put o.dst v') w') : wpList Try.prog ops Q (o :: rest) a w := by
  subst hm
  exact wpl_copyI hgd s x ho n₀ v l0 hs hown A c l hA hx hI hl0 hl hn h
set_option maxRecDepth 100000 in
set_option maxHeartbeats 4000000 in
theorem rlists_any (nb : Nat) (hnb : nb ≤ 8) (many : Nat) (hmany : many ≤ 4) : ∀ (n : Nat) (f : List Int) (m : Nat), f.length = m → m + n = many → (∀ x ∈ f, 0 ≤ x ∧ x < nb) → ∀ (A : Option Addr) (c B : Nat) (w : World), (A = none → c = 0 ∧ f = []) → IntsIn w B w.heap.size A f → B ≤ w.heap.size →
    Calls Try.prog 109 #[.slice A m c, .int .i64 many, .int .i64 nb] w fun e w' => RowsRet (combR nb n f) B w' e ∧ Below w.heap.size w w' := by
  intro n
  induction n with
  | zero =>
    intro f m hm hmn hin A c B w hA hI hB
    have HM := Lib.hid hm
    have HA := Lib.hid hA
    have HI := Lib.hid hI
    have hd : ((m : Int) == (many : Int)) = true := by simp; omega
    clear hm hA hI hin
    go_enter Try.func109, Try.ntmps109
    go_wp2_with (fail)
    go_ret
    refine ⟨⟨some ⟨w.heap.size, 0, none⟩, 1, rfl, (fun e => by cases e), ?_⟩, al_below _ _⟩
    exact rows_one HM.out HA.out HI.out hB
  | succ n ih =>
    intro f m hm hmn hin A c B w hA hI hB
    have HM := Lib.hid hm
    have HA := Lib.hid hA
    have HI := Lib.hid hI
    have HIN := Lib.hid hin
    have HMN := Lib.hid hmn
    have HIH := Lib.hid ih
    have hd : ((m : Int) == (many : Int)) = false := by simp; omega
    have hf0 : 0 ≤ fromN f := by
      unfold fromN
      cases hl : f.getLast? with
      | none => simp
      | some x => have := (hin x (List.mem_of_getLast? hl)).1; simp only; omega
    have HB1 := Lib.hid (fun k hk => combTo_small (n := n) hnb (by omega) hf0 k hk)
    have HB2 := Lib.hid (fun (x : Int) (hx : 0 ≤ x) => combR_small (nb := nb) (n := n) hnb (by omega) (f := f ++ [x]) (by rw [fromN_snoc]; omega))
    have HSC := Lib.hid (fun k => combTo_succ nb n f k)
    have HAL := Lib.hid (fun (k : Nat) (h : fromN f + (k : Int) = nb ∨ (k = 0 ∧ (nb : Int) ≤ fromN f)) => combTo_all (n := n) h)
    by_cases hm0 : m = 0
    · have hfr : fromN f = 0 := by rw [List.length_eq_zero_iff.1 (hm.trans hm0)]; exact fromN_nil
      obtain ⟨fr, hfe⟩ : ∃ v, v = fromN f := ⟨_, rfl⟩
      rw [← hfe] at hf0 HSC HAL hfr
      subst hfr
      subst hm0
      have hd' : ((0 : Int) == (many : Int)) = false := hd
      clear hm hA hI hin ih hfe hmn
      as_aux_lemma =>
      go_enter Try.func109, Try.ntmps109
      go_wp2_with (fail)
      go_loopw [8, 9] (fun v i wr => ∃ k : Nat, (k = 0 ∨ 0 + (k : Int) ≤ nb) ∧ i = .int .i64 (0 + (k : Int)) ∧ Hid (OwnsR wr B w.heap.size v (combTo nb n f k)) ∧ Hid (Below w.heap.size w wr)) (fun _ i _ => ((nb : Int) - intOf i).toNat)
      case atStart => exact ⟨0, .inl rfl, by simp, Lib.hid (by rw [combTo_zero]; exact ownsR_nil _ _ _), Lib.hid (Below.refl _ _)⟩
      case round =>
        obtain ⟨k, hk, rfl, hown, hb⟩ := hrel
        by_cases hlt : 0 + (k : Int) < nb
        · have hob := HB1.out k (by omega)
          obtain ⟨x, hx⟩ : ∃ x : Int, x = 0 + (k : Int) := ⟨_, rfl⟩
          have HOS := Lib.hid (HSC.out k)
          rw [← hx] at HOS hlt ⊢
          have hlb := HB2.out x (by omega)
          have HX := Lib.hid hx
          have hx0 : 0 ≤ x ∧ x < nb := by omega
          have hfx : ∀ y ∈ f ++ [x], 0 ≤ y ∧ y < nb := fun y hy => by
            rcases List.mem_append.1 hy with hy | hy
            · exact HIN.out y hy
            · simp at hy; omega
          have HFX := Lib.hid hfx
          have HOWN := Lib.hid hown.out
          have HA1 := Lib.hid (ints_later HI.out.at_ (hb0to hb.out (al_below wr (.cells #[] 3))))
          have HZ := Lib.hid hb.out.size
          clear hx hfx hown
          go_wp2_with (first
            | (refine wpl_copyM (by rfl) _ _ (by rfl) wr.heap.size _ [] (by rfl) (ints_made wr wr.heap.size (Nat.le_refl _)) A c f 0 HM.out HA.out (by rfl) HA1.out (by simp) (by omega) (by simp) ?_; intro v3 w3 h1 h2; have H3 := Lib.hid (show Ints w3 wr.heap.size v3 f from h1); have hb3 := (al_below wr (.cells #[] 3)).trans h2; have B3 := Lib.hid hb3; have H3a := Lib.hid (H3.out.alloc (.cells #[.int .i64 x] 3)); have HC3 := Lib.hid (show (w3.alloc (.cells #[.int .i64 x] 3)).cell? ⟨w3.heap.size, 0, none⟩ = some (.int .i64 x) by simp [go_sem]); have B3a := Lib.hid (hb3.alloc hb3.size (.cells #[.int .i64 x] 3)); clear h1 h2 hb3)
            | (refine wpl_app (by rfl) _ _ (by rfl) wr.heap.size wr.heap.size _ f x (by rfl) H3a.out ⟨w3.heap.size, 0, none⟩ 1 (by rfl) HC3.out (by have := HM.out; omega) B3a.out.size (Nat.le_refl _) ?_; intro v4 w4 h1 h2; have hb4 := B3a.out.trans h2; have B4 := Lib.hid hb4; obtain ⟨A4, c4, rfl, hA4, hI4⟩ := h1.layN (n := 1) (by have := HM.out; rw [List.length_append, this]; first | rfl | simp); have HA4 := Lib.hid hA4; have HI4 := Lib.hid hI4; clear h1 h2 hb4 hA4 hI4)
            | (go_at_call 109; refine (HIH.out (f ++ [x]) 1 (by have := HM.out; rw [List.length_append, this]; first | rfl | simp) (by have := HMN.out; omega) HFX.out A4 c4 wr.heap.size w4 HA4.out HI4.out B4.out.size).mono ?_; rintro e w5 ⟨⟨A5, c5, rfl, hA5, hR5⟩, hb5⟩; have hb5' := hb0to B4.out hb5; have HA5 := Lib.hid hA5; have HR5 := Lib.hid hR5; have H5 := Lib.hid (HOWN.out.below_ hb5' (Nat.le_refl _)); have B5 := Lib.hid (hb0to hb.out hb5'); have hz5 := hb5'.size; have B5z := Lib.hid hz5; clear hA5 hR5 hb5 hb5' hz5)
            | (refine wpl_appR 83 Try.underlying83 (by rfl) _ _ (by rfl) w.heap.size B w.heap.size _ (combTo nb n f k) (by rfl) H5.out A5 c5 wr.heap.size _ HA5.out (by rfl) HR5.out (Nat.le_trans hB HZ.out) (rows_own HOWN.out) (by omega) (by omega) (Nat.le_trans HZ.out B5z.out) (Nat.le_refl _) ?_; intro v6 w6 hown6 hb6; have H6 := Lib.hid hown6; have B6 := Lib.hid (B5.out.trans hb6); clear hown6 hb6))
          have e6 : Hid (Value.int IntKind.i64 (x + 1) = Value.int IntKind.i64 (0 + ((k + 1 : Nat) : Int))) := Lib.hid (by rw [HX.out]; congr 1 <;> omega)
          go_roundw
          case rel => exact ⟨k + 1, .inr (by have := HX.out; omega), e6.out, Lib.hid (by rw [HOS.out]; exact H6.out), B6⟩
          case measure => simp [intOf]; omega
        · have HO := Lib.hid (HAL.out k (by omega))
          have hown2 := hown.out
          rw [HO.out] at hown2
          obtain ⟨A2, c2, rfl, hA2, hR2⟩ := hown2.lay hB
          have HA2 := Lib.hid hA2
          have HR2 := Lib.hid hR2
          clear hA2 hR2 hown hown2
          go_wp2_with (fail)
          go_ret
          exact ⟨⟨A2, c2, rfl, HA2.out, HR2.out⟩, hb.out⟩
    · obtain ⟨y, hy⟩ : ∃ y, f[m - 1]? = some y := ⟨_, List.getElem?_eq_getElem (by omega)⟩
      have hfr : fromN f = y + 1 := fromN_at (by rw [hm]; exact hy)
      have hy0 := hin y (List.mem_of_getElem? hy)
      obtain ⟨b, off, eA, hbl, d1⟩ := hI.at_.at_ hy
      obtain ⟨mp, hmp⟩ : ∃ mp, mp = m - 1 := ⟨_, rfl⟩
      rw [← hmp] at d1
      have hm1 : (m : Int) - 1 = (mp : Int) := by omega
      have hwm : IntKind.i64.wrap ((m : Int) - 1) = (mp : Int) := by rw [hm1]; exact IntWalk.i64_in _ (by omega)
      have hmpl : mp < m := by omega
      have hm0' : (0 : Int) < (m : Int) := by omega
      have hd0 : decide ((0 : Int) < (m : Int)) = true := decide_eq_true hm0'
      have hd0n : decide (0 < m) = true := decide_eq_true (by omega)
      have hm4 : m ≤ 4 := by omega
      obtain ⟨fr, hfe⟩ : ∃ v, v = fromN f := ⟨_, rfl⟩
      rw [← hfe] at hf0 HSC HAL hfr
      subst hfr
      subst eA
      clear hm hA hI hin ih hfe hy hmp hm1 hmn
      as_aux_lemma =>
      go_enter Try.func109, Try.ntmps109
      go_wp2_with (fail)
      go_loopw [8, 9] (fun v i wr => ∃ k : Nat, (k = 0 ∨ y + 1 + (k : Int) ≤ nb) ∧ i = .int .i64 (y + 1 + (k : Int)) ∧ Hid (OwnsR wr B w.heap.size v (combTo nb n f k)) ∧ Hid (Below w.heap.size w wr)) (fun _ i _ => ((nb : Int) - intOf i).toNat)
      case atStart => exact ⟨0, .inl rfl, by simp, Lib.hid (by rw [combTo_zero]; exact ownsR_nil _ _ _), Lib.hid (Below.refl _ _)⟩
      case round =>
        obtain ⟨k, hk, rfl, hown, hb⟩ := hrel
        by_cases hlt : y + 1 + (k : Int) < nb
        · have hob := HB1.out k (by omega)
          obtain ⟨x, hx⟩ : ∃ x : Int, x = y + 1 + (k : Int) := ⟨_, rfl⟩
          have HOS := Lib.hid (HSC.out k)
          rw [← hx] at HOS hlt ⊢
          have hlb := HB2.out x (by omega)
          have HX := Lib.hid hx
          have hx0 : 0 ≤ x ∧ x < nb := by omega
          have hfx : ∀ y ∈ f ++ [x], 0 ≤ y ∧ y < nb := fun y hy => by
            rcases List.mem_append.1 hy with hy | hy
            · exact HIN.out y hy
            · simp at hy; omega
          have HFX := Lib.hid hfx
          have HOWN := Lib.hid hown.out
          have HA1 := Lib.hid (ints_later HI.out.at_ (hb0to hb.out (al_below wr (.cells #[] 3))))
          have HZ := Lib.hid hb.out.size
          clear hx hfx hown
          go_wp2_with (first
            | (refine wpl_copyM (by rfl) _ _ (by rfl) wr.heap.size _ [] (by rfl) (ints_made wr wr.heap.size (Nat.le_refl _)) (some ⟨b, off, none⟩) c f m HM.out HA.out (by rfl) HA1.out (by simp) (by omega) (by simp) ?_; intro v3 w3 h1 h2; have H3 := Lib.hid (show Ints w3 wr.heap.size v3 f from h1); have hb3 := (al_below wr (.cells #[] 3)).trans h2; have B3 := Lib.hid hb3; have H3a := Lib.hid (H3.out.alloc (.cells #[.int .i64 x] 3)); have HC3 := Lib.hid (show (w3.alloc (.cells #[.int .i64 x] 3)).cell? ⟨w3.heap.size, 0, none⟩ = some (.int .i64 x) by simp [go_sem]); have B3a := Lib.hid (hb3.alloc hb3.size (.cells #[.int .i64 x] 3)); clear h1 h2 hb3)
            | (refine wpl_app (by rfl) _ _ (by rfl) wr.heap.size wr.heap.size _ f x (by rfl) H3a.out ⟨w3.heap.size, 0, none⟩ 1 (by rfl) HC3.out (by have := HM.out; omega) B3a.out.size (Nat.le_refl _) ?_; intro v4 w4 h1 h2; have hb4 := B3a.out.trans h2; have B4 := Lib.hid hb4; obtain ⟨A4, c4, rfl, hA4, hI4⟩ := h1.layN (n := m + 1) (by have := HM.out; rw [List.length_append, this]; first | rfl | simp); have HA4 := Lib.hid hA4; have HI4 := Lib.hid hI4; clear h1 h2 hb4 hA4 hI4)
            | (go_at_call 109; refine (HIH.out (f ++ [x]) (m + 1) (by have := HM.out; rw [List.length_append, this]; first | rfl | simp) (by have := HMN.out; omega) HFX.out A4 c4 wr.heap.size w4 HA4.out HI4.out B4.out.size).mono ?_; rintro e w5 ⟨⟨A5, c5, rfl, hA5, hR5⟩, hb5⟩; have hb5' := hb0to B4.out hb5; have HA5 := Lib.hid hA5; have HR5 := Lib.hid hR5; have H5 := Lib.hid (HOWN.out.below_ hb5' (Nat.le_refl _)); have B5 := Lib.hid (hb0to hb.out hb5'); have hz5 := hb5'.size; have B5z := Lib.hid hz5; clear hA5 hR5 hb5 hb5' hz5)
            | (refine wpl_appR 83 Try.underlying83 (by rfl) _ _ (by rfl) w.heap.size B w.heap.size _ (combTo nb n f k) (by rfl) H5.out A5 c5 wr.heap.size _ HA5.out (by rfl) HR5.out (Nat.le_trans hB HZ.out) (rows_own HOWN.out) (by omega) (by omega) (Nat.le_trans HZ.out B5z.out) (Nat.le_refl _) ?_; intro v6 w6 hown6 hb6; have H6 := Lib.hid hown6; have B6 := Lib.hid (B5.out.trans hb6); clear hown6 hb6))
          have e6 : Hid (Value.int IntKind.i64 (x + 1) = Value.int IntKind.i64 (y + 1 + ((k + 1 : Nat) : Int))) := Lib.hid (by rw [HX.out]; congr 1 <;> omega)
          go_roundw
          case rel => exact ⟨k + 1, .inr (by have := HX.out; omega), e6.out, Lib.hid (by rw [HOS.out]; exact H6.out), B6⟩
          case measure => simp [intOf]; omega
        · have HO := Lib.hid (HAL.out k (by omega))
          have hown2 := hown.out
          rw [HO.out] at hown2
          obtain ⟨A2, c2, rfl, hA2, hR2⟩ := hown2.lay hB
          have HA2 := Lib.hid hA2
          have HR2 := Lib.hid hR2
          clear hA2 hR2 hown hown2
          go_wp2_with (fail)
          go_ret
          exact ⟨⟨A2, c2, rfl, HA2.out, HR2.out⟩, hb.out⟩
theorem fromN_ints (f : List Nat) : fromN (intsN f) = (nextN f : Int) := by
  refine snoc_indN (P := fun f => fromN (intsN f) = (nextN f : Int)) (by simp [intsN, fromN_nil, nextN_nil]) (fun l x _ => ?_) f
  rw [intsN_app, show intsN [x] = [(x : Int)] from rfl, fromN_snoc, nextN_snoc]; omega
theorem combR_ints (nb : Nat) : ∀ (n : Nat) (f : List Nat), combR nb n (intsN f) = (combN nb n f).map intsN
  | 0, f => by simp [combR, combN]
  | n + 1, f => by
    unfold combR combN
    rw [fromN_ints, List.map_flatMap, show ((nb : Int) - (nextN f : Int)).toNat = nb - nextN f by omega]
    congr 1
    funext j
    rw [← combR_ints nb n (f ++ [nextN f + j]), intsN_app]
    congr 2

end Go.Proofs.Ytmconopnplgcfaa
