import Derived.Test.YtgemmmdcpbajoaaVR
namespace Go.Proofs.Ytgemmmdcpbajoaa
open Go.RowKit

theorem own_below_lt {W : World} {base : Nat} {v : Value} {l : List Int} (h : Ints W base v l) : ∀ g, v.ownBlock = some g → base ≤ g ∧ g < W.heap.size := World.ownsRow.lt h
/-- The two lists of a round. -/
structure TwoM (W : World) (B : Nat) (v1 v2 : Value) (l1 l2 : List Int) : Prop where
  a : Ints W B v1 l1
  b : Ints W B v2 l2
  ne : ∀ g, v1.ownBlock = some g → v2.ownBlock ≠ some g
theorem TwoM.two {wr w3 : World} {B : Nat} {v1 v2 v3 : Value} {l1 l2 l3 : List Int} {o : Obj} (hT : TwoM wr B v1 v2 l1 l2) (hg : (wr.alloc o).grownBy w3 v2.ownBlock) (own3 : Ints w3 B v3 l3) (hd : ∀ g, v3.ownBlock = some g → v2.ownBlock = some g ∨ (wr.alloc o).heap.size ≤ g) : TwoM w3 B v1 v3 l1 l3 :=
  ⟨(hT.a.alloc o).keepG hg hT.ne, own3, fun g h1 h3 => by
    rcases hd g h3 with h4 | h4
    · exact hT.ne g h1 h4
    · have := (own_below_lt hT.a g h1).2
      rw [World.size_alloc] at h4
      omega⟩
theorem TwoM.one {wr w3 : World} {B : Nat} {v1 v2 v3 : Value} {l1 l2 l3 : List Int} {o : Obj} (hT : TwoM wr B v1 v2 l1 l2) (hg : (wr.alloc o).grownBy w3 v1.ownBlock) (own3 : Ints w3 B v3 l3) (hd : ∀ g, v3.ownBlock = some g → v1.ownBlock = some g ∨ (wr.alloc o).heap.size ≤ g) : TwoM w3 B v3 v2 l3 l2 :=
  ⟨own3, (hT.b.alloc o).keepG hg (fun g h2 h1 => hT.ne g h1 h2), fun g h3 h2 => by
    rcases hd g h3 with h4 | h4
    · exact hT.ne g h4 h2
    · have := (own_below_lt hT.b g h2).2
      rw [World.size_alloc] at h4
      omega⟩
theorem TwoM.drewN {W : World} {B : Nat} {v1 v2 : Value} {l1 l2 : List Int} (h : TwoM W B v1 v2 l1 l2) (m : Nat) : TwoM (W.drewN m) B v1 v2 l1 l2 := ⟨⟨h.a.1, h.a.2⟩, ⟨h.b.1, h.b.2⟩, h.ne⟩
theorem size_next {B : Nat} {W : World} (h : B ≤ W.heap.size) (n : Nat) (o : Obj) : B ≤ ((W.drewN n).alloc o).heap.size := by
  rw [World.size_alloc]; exact Nat.le_succ_of_le h
theorem new1_cell (W : World) (x : Int) : (W.alloc (.cells #[.int .i64 x] 3)).cell? ⟨W.heap.size, 0, none⟩ = some (.int .i64 x) := by simp [go_sem]
theorem oneL_snoc (f : Int → Bool) (l : List Int) (x : Int) : oneL f (l ++ [x]) = if f x then oneL f l else oneL f l ++ [x] := by
  unfold oneL
  rw [List.filter_append]
  cases h : f x <;> simp [h]
theorem twoL_snoc (f : Int → Bool) (l : List Int) (x : Int) : twoL f (l ++ [x]) = if f x then twoL f l ++ [x] else twoL f l := by
  unfold twoL
  rw [List.filter_append]
  cases h : f x <;> simp [h]
def sameB (h : House) (l : List Int) (k : Nat) : Bool := (l.take k).all fun i => decide ((partOf h i.toNat).1 = (partOf h (l.getD 0 0).toNat).1)
theorem sameB_next {h : House} {l : List Int} {k : Nat} {x : Int} (hx : l[k]? = some x) : sameB h l (k + 1) = (sameB h l k && decide ((partOf h x.toNat).1 = (partOf h (l.getD 0 0).toNat).1)) := by
  unfold sameB
  rw [take_step hx, List.all_append]
  simp
theorem sameB_all {h : House} {l : List Int} : sameB h l l.length = true ↔ ∀ i ∈ l, (partOf h i.toNat).1 = (partOf h (l.getD 0 0).toNat).1 := by
  unfold sameB
  rw [List.take_length]
  simp
theorem oneL_len (f : Int → Bool) (l : List Int) : (oneL f l).length ≤ l.length := List.length_filter_le _ _
theorem twoL_len (f : Int → Bool) (l : List Int) : (twoL f l).length ≤ l.length := List.length_filter_le _ _
set_option maxRecDepth 100000 in
set_option maxHeartbeats 4000000 in
theorem together_yes (L : HL) (h : House) (hv : HOK h) (A : Option Addr) (c : Nat) (l : List Int) (hA : A = none → c = 0 ∧ l = []) (u : Int) (hr : riseB l h.ps.length = true)
    (HR : Hid (∀ W, HouseAt W W.heap.size L h → Calls Try.prog 23 #[L.enc h] W fun e w' => e = .returned (.bool true) ∧ Below W.heap.size W w'))
    (HA : Hid (∀ W, IntsAt W W.heap.size A l → Calls Try.prog 24 #[L.enc h, .slice A l.length c] W fun e w' => e = .returned (.bool true) ∧ Below W.heap.size W w'))
    (HS : Hid (∀ l', riseB l' h.ps.length = true → ∀ A c W, HouseAt W W.heap.size L h → IntsAt W W.heap.size A l' → Calls Try.prog 25 #[L.enc h, .slice A l'.length c] W fun e w' => e = .returned (.tuple #[.int .i64 (saltL h l'), .int .i64 0]) ∧ Below W.heap.size W w')) (w : World) (hH : HouseAt w w.heap.size L h) (hI : IntsAt w w.heap.size A l) :
    Calls Try.prog 4 #[L.enc h, .slice A l.length c, .int .u8 u] w fun e w' => e = .returned (.bool true) ∧ Below w.heap.size w w' := by
  obtain ⟨W0, hW0, hM, hbw⟩ := LawN.new hH
  have HBW := Lib.hid hbw
  have HW0 := Lib.hid hW0
  have M0 := Lib.hid (LawW.new hM)
  have hc0 := hM.c
  have HI := Lib.hid hI
  have HV := Lib.hid hv
  have hl6 : l.length ≤ 6 := by have := riseB_len hr; have := hv.pl; omega
  have hd : decide ((40 : Int) < (l.length : Int)) = false := decide_eq_false (by omega)
  have HP := Lib.hid (riseB_in hr)
  have hpl := hv.pl
  have HRI := Lib.hid hr
  have HAA := Lib.hid hA
  clear hW0 hM hbw hH hI hr hv hA
  obtain ⟨Ak, ck, Ap, cp, Ab, cb⟩ := L
  go_enter Try.func4, Try.ntmps4
  go_upto_region 1 with (fail)
  have e := HW0.out
  rw [e]
  clear e
  go_wp2_with (first
    | (go_at_call 23; refine (HR.out W0 M0.out.M.H).mono ?_; rintro e w1 ⟨rfl, hb1⟩; have M1 := Lib.hid (M0.out.next hb1); have m1 := M1.out.M.c; clear hb1)
    | (go_at_call 24; refine (HA.out w1 (ints_later HI.out (hb0to HBW.out M1.out.B))).mono ?_; rintro e w2 ⟨rfl, hb2⟩; have M2 := Lib.hid (M1.out.next hb2); clear hb2))
  clear hc0 m1 hd
  go_loopw [7, 8, 9, 10] (fun s7 s8 s9 i wr => ∃ (k : Nat) (sm : Bool), k ≤ l.length ∧ i = .int .i64 k ∧ s9 = .bool sm ∧ Hid (sm = sameB h l k) ∧ Hid (TwoM wr w2.heap.size s7 s8 (oneL (bitB u) (l.take k)) (twoL (bitB u) (l.take k))) ∧ Hid (Below w2.heap.size w2 wr)) (fun _ _ _ i _ => l.length - (intOf i).toNat)
  case atStart => exact ⟨0, true, Nat.zero_le _, rfl, rfl, Lib.hid (by simp [sameB]), Lib.hid ⟨ints_nil _ _, ints_nil _ _, fun g h => by simp [Value.ownBlock] at h⟩, Lib.hid (Below.refl _ _)⟩
  case round =>
    obtain ⟨k, sm, hk, rfl, rfl, hsm, hT, hb⟩ := hrel
    have MR := Lib.hid (M2.out.next hb.out)
    have mr := MR.out.M.c
    by_cases hlt : k < l.length
    · obtain ⟨x, hx⟩ : ∃ x, l[k]? = some x := ⟨_, List.getElem?_eq_getElem hlt⟩
      obtain ⟨x0, hx0⟩ : ∃ x, l[0]? = some x := ⟨_, List.getElem?_eq_getElem (by omega)⟩
      have hxp := HP.out x (List.mem_of_getElem? hx)
      have hx0p := HP.out x0 (List.mem_of_getElem? hx0)
      have hIr := ints_later HI.out (hb0to HBW.out MR.out.B)
      obtain ⟨ik, rfl⟩ : ∃ ik : Nat, x = ik := ⟨x.toNat, by omega⟩
      obtain ⟨i0, rfl⟩ : ∃ i0 : Nat, x0 = i0 := ⟨x0.toNat, by omega⟩
      obtain ⟨bi, oi, eA, _, ci⟩ := hIr.at_ hx
      obtain ⟨bi', oi', eA', _, ci0⟩ := hIr.at_ hx0
      rw [eA] at eA'
      cases eA'
      obtain ⟨kk, p1, p2, p3, ⟨p4, p5⟩, _⟩ := HV.out.part (k := ik) (by omega)
      obtain ⟨kk0, q1, q2, q3, ⟨q4, q5⟩, _⟩ := HV.out.part (k := i0) (by omega)
      obtain ⟨bp, op, e2, _, d1, d2⟩ := MR.out.M.H.p.at_ p1
      obtain ⟨bp', op', e2', _, f1, f2⟩ := MR.out.M.H.p.at_ q1
      rw [e2] at e2'
      cases e2'
      subst eA e2
      have hway : ∃ sm', Hid (sm' = sameB h l (k + 1)) ∧ ((sm = false ∧ sm' = false) ∨ (sm = true ∧ ((partOf h ik).1 == (partOf h i0).1) = true ∧ sm' = true) ∨ (sm = true ∧ ((partOf h ik).1 == (partOf h i0).1) = false ∧ sm' = false)) := by
        have hn := sameB_next (h := h) hx
        have e0 : l.getD 0 0 = i0 := by rw [List.getD_eq_getElem?_getD, hx0]; rfl
        rw [e0, ← hsm.out] at hn
        simp only [Int.toNat_natCast] at hn
        refine ⟨_, Lib.hid rfl, ?_⟩
        rw [hn]
        cases sm
        · exact .inl ⟨rfl, rfl⟩
        · by_cases hq : (partOf h ik).1 = (partOf h i0).1
          · exact .inr (.inl ⟨rfl, beq_iff_eq.2 hq, by simp [hq]⟩)
          · exact .inr (.inr ⟨rfl, beq_eq_false_iff_ne.2 hq, by simp [hq]⟩)
      have HT1 := Lib.hid (take_step hx)
      have hszr : w2.heap.size ≤ wr.heap.size := hb.out.size
      have hl1 := oneL_len (bitB u) (l.take k)
      have hl2 := twoL_len (bitB u) (l.take k)
      have hltk : (l.take k).length ≤ 6 := by rw [List.length_take]; omega
      clear hx hx0 p1 q1 d2 f2 hIr p4 p5 q4 q5 p2 p3 q2 q3
      obtain ⟨g0, g1, g2, g3⟩ := mr
      rw [Nat.add_zero] at ci0
      obtain ⟨sm', hsm', hway⟩ := hway
      have hbit2 : bitB u (ik : Int) = (bits BinOp.and IntKind.u8 (u / 2 ^ ik) 1 == 1) := rfl
      cases hbit : (bits BinOp.and IntKind.u8 (u / 2 ^ ik) 1 == 1)
      · have HBIT := Lib.hid (hbit2.trans hbit)
        clear hbit2
        rcases hway with ⟨rfl, rfl⟩ | ⟨rfl, hq, rfl⟩ | ⟨rfl, hq, rfl⟩
        all_goals
          as_aux_lemma =>
          go_upto_region 8 with (fail)
          go_quiet (fail)
          go_wp2_with (at_builtin; refine wpl_appD rfl (.tmp 74) (.tmp 79) rfl w2.heap.size w2.heap.size _ (oneL (bitB u) (l.take k)) (ik : Int) rfl ((hT.out.drewN _).a.alloc _) _ 1 rfl (new1_cell _ _) (by omega) (size_next hszr _ _) (Nat.le_refl _) ?_; intro v3 w3 own3 hb3 hg3 hd3; have T3 := Lib.hid ((hT.out.drewN _).one hg3 own3 hd3); have B3 := Lib.hid (hb.out.trans (((below_drewN (Below.refl w2.heap.size wr) _).alloc hszr _).trans hb3)); clear own3 hb3 hg3 hd3)
          go_roundw
          case rel => exact ⟨k + 1, _, by omega, by go_num, rfl, hsm', Lib.hid (by rw [HT1.out, oneL_snoc, twoL_snoc, HBIT.out]; exact T3.out), B3⟩
          case measure => simp [intOf]; omega
      · have HBIT := Lib.hid (hbit2.trans hbit)
        clear hbit2
        rcases hway with ⟨rfl, rfl⟩ | ⟨rfl, hq, rfl⟩ | ⟨rfl, hq, rfl⟩
        all_goals
          as_aux_lemma =>
          go_upto_region 8 with (fail)
          go_quiet (fail)
          go_wp2_with (at_builtin; refine wpl_appD rfl (.tmp 67) (.tmp 72) rfl w2.heap.size w2.heap.size _ (twoL (bitB u) (l.take k)) (ik : Int) rfl ((hT.out.drewN _).b.alloc _) _ 1 rfl (new1_cell _ _) (by omega) (size_next hszr _ _) (Nat.le_refl _) ?_; intro v3 w3 own3 hb3 hg3 hd3; have T3 := Lib.hid ((hT.out.drewN _).two hg3 own3 hd3); have B3 := Lib.hid (hb.out.trans (((below_drewN (Below.refl w2.heap.size wr) _).alloc hszr _).trans hb3)); clear own3 hb3 hg3 hd3)
          go_roundw
          case rel => exact ⟨k + 1, _, by omega, by go_num, rfl, hsm', Lib.hid (by rw [HT1.out, oneL_snoc, twoL_snoc, HBIT.out]; exact T3.out), B3⟩
          case measure => simp [intOf]; omega
    · obtain rfl : k = l.length := by omega
      have hT' := hT.out
      rw [List.take_length] at hT'
      obtain ⟨t1, t2, t3, t4, t5, t6, t7, t8, t9, t10⟩ := together_plain HV.out HRI.out (bitB u)
      obtain ⟨A1, c1, e1, _, _, hI1⟩ := hT'.a.lay
      obtain ⟨A2, c2, e2, _, _, hI2⟩ := hT'.b.lay
      subst e1 e2
      have HI1 := Lib.hid hI1.at_
      have HI2 := Lib.hid hI2.at_
      have HSM := Lib.hid (fun e : sm = true => t10 (sameB_all.1 (hsm.out.symm.trans e)))
      have S0 := HS.out l HRI.out
      have S1 := HS.out (oneL (bitB u) l) t1
      have S2 := HS.out (twoL (bitB u) l) t2
      have hln1 := oneL_len (bitB u) l
      have hln2 := twoL_len (bitB u) l
      obtain ⟨n, hn⟩ : ∃ n, n = saltL h l := ⟨_, rfl⟩
      obtain ⟨k1, hk1⟩ : ∃ n, n = saltL h (oneL (bitB u) l) := ⟨_, rfl⟩
      obtain ⟨k2, hk2⟩ : ∃ n, n = saltL h (twoL (bitB u) l) := ⟨_, rfl⟩
      rw [← hk1] at t3 t5 t8 HSM S1
      rw [← hk2] at t4 t6 t9 HSM S2
      rw [← hn] at t7 t8 t9 HSM S0
      have S0' := Lib.hid S0
      have S1' := Lib.hid S1
      have S2' := Lib.hid S2
      obtain ⟨g0, g1, g2, g3⟩ := mr
      have HBR := Lib.hid (hb0to HBW.out MR.out.B)
      have HL1000 := Lib.hid (show l.length ≤ 1000 by omega)
      have hwr : IntKind.i64.wrap (k1 + k2) = k1 + k2 := IntWalk.i64_in _ (by omega)
      have hd1 : decide (n ≤ 1000) = true := decide_eq_true (by omega)
      clear hT' hI1 hI2 hn hk1 hk2 S0 S1 S2 t1 t2 t10 hsm hT hb hlt hk
      have hs2 : sm = false ∨ (sm = true ∧ n ≤ k1 + k2) := by
        cases sm
        · exact .inl rfl
        · exact .inr ⟨rfl, HSM.out rfl⟩
      clear HSM
      rcases Int.lt_trichotomy k1 k2 with hlt | rfl | hlt
      all_goals
        rcases hs2 with rfl | ⟨rfl, hsum⟩
      all_goals
        as_aux_lemma =>
        go_upto_region 12 with (fail)
        go_region_held3 (fun w' => w'.cell? ⟨w.heap.size, 0, none⟩ = some (.slice Ak h.ks.length ck) ∧ w'.cell? ⟨w.heap.size, 1, none⟩ = some (.int .i64 h.fl) ∧ w'.cell? ⟨w.heap.size, 2, none⟩ = some (.slice Ap h.ps.length cp) ∧ w'.cell? ⟨w.heap.size, 3, none⟩ = some (.slice Ab h.bs.length cb)) (first | go_keep)
          (first
            | (go_at_call 26; refine (copied_any l HL1000.out A c HAA.out _ (ints_later HI.out (by first | exact HBR.out | exact HBR.out.drew))).mono ?_; rintro e w5 ⟨⟨v5, rfl, hI5⟩, hb5⟩; obtain ⟨A5, c5, rfl, -, -, hI5'⟩ := hI5.lay; have hk5 : Below wr.heap.size wr w5 := (by first | exact hb5 | exact hb0to (drew_below wr) hb5); have M5 := Lib.hid (MR.out.next hk5); have B5 := Lib.hid hk5; have I5 := Lib.hid hI5'.at_; obtain ⟨r0, r1, r2, r3⟩ := M5.out.M.c; clear hb5 hI5 hI5' hk5)
            | (go_at_call 25; refine (S0'.out A5 c5 w5 M5.out.M.H I5.out).mono ?_; rintro e w6 ⟨rfl, hb6⟩; have M6 := Lib.hid (M5.out.next hb6); have B6 := Lib.hid (hb0to B5.out hb6); have m6 := M6.out.M.c; obtain ⟨r0, r1, r2, r3⟩ := m6; clear hb6))
        all_goals
          go_wp2_with (first
            | (go_at_call 25; (with_reducible refine (S2'.out A2 c2 w7 M7.out.M.H (ints_later HI2.out B7.out)).mono ?_); rintro e w8 ⟨rfl, hb8⟩; have M8 := Lib.hid (M7.out.next hb8); clear hb8)
            | (go_at_call 25; (with_reducible refine (S1'.out A1 c1 w6 M6.out.M.H (ints_later HI1.out B6.out)).mono ?_); rintro e w7 ⟨rfl, hb7⟩; have M7 := Lib.hid (M6.out.next hb7); have B7 := Lib.hid (hb0to B6.out hb7); have m7 := M7.out.M.c; clear hb7)
            | (go_at_call 16; refine (works_any w8).mono ?_; rintro e w9 ⟨rfl, hb9⟩; have M9 := Lib.hid (M8.out.next hb9); clear hb9))
          go_ret
          exact ⟨rfl, hb0to HBW.out M9.out.B⟩
end Go.Proofs.Ytgemmmdcpbajoaa
