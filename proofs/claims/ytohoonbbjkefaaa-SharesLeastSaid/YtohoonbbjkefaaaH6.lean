import Derived.Test.YtohoonbbjkefaaaH5
namespace Go.Proofs.Ytohoonbbjkefaaa
open Go.RowKit

theorem enough_len (A Al : Option Addr) (c cl N : Nat) (ns : List Node) (l : List Int) (hn : ns.length ≤ 1000) (hN2 : l.length = N) (hl : N ≤ 1000) (w : World) (hN : Nodes w w.heap.size A ns) (hI : IntsAt w w.heap.size Al l) (n e : Int) (h : enoughS ns l = (n, e)) :
    Calls Try.prog 53 #[.agg #[.slice A ns.length c], .slice Al N cl] w fun x w' => x = .returned (.tuple #[.int .i64 n, .int .i64 e]) ∧ Below w.heap.size w w' := by
  subst hN2; exact enough_is A Al c cl ns l hn hl w hN hI n e h
/-- The law's memory: the custom, the numbers, the coins. -/
structure EnvLs (w : World) (A : Option Addr) (c : Nat) (ns : List Node) (t n p : Int) (B : Option Addr) (l : List Int) (W : World) : Prop where
  e : EnvT w A c ns t n p W
  i : IntsAt W W.heap.size B l
theorem EnvLs.next {w : World} {A : Option Addr} {c : Nat} {ns : List Node} {t n p : Int} {B : Option Addr} {l : List Int} {W W' : World} (h : EnvLs w A c ns t n p B l W) (hb : Below W.heap.size W W') : EnvLs w A c ns t n p B l W' :=
  ⟨h.e.next hb, ilt h.i hb⟩
theorem ints_at_ {W : World} {base g n cap : Nat} {l : List Int} (h : Ints W base (.slice (some ⟨g, 0, none⟩) n cap) l) : IntsAt W W.heap.size (some ⟨g, 0, none⟩) l := by
  obtain ⟨A, c, e, _, hI⟩ := Ints.lay h
  cases e
  exact hI
theorem enough_cases {ns : List Node} (hv : validB ns = true) {l : List Int} (hc : coinsOK ns.length l = true) {n e : Int} (h : enoughS ns l = (n, e)) :
    (∃ k : Nat, k < 401 ∧ n = k ∧ e = 0 ∧ enB ns l k = true ∧ ∀ j, j < k → enB ns l j = false) ∨ (n = 0 ∧ e = 3 ∧ ∀ j, j < 401 → enB ns l j = false) := by
  rw [enough_good hv hc] at h
  rcases firstE_cases (enB ns l) 401 with ⟨k, h1, h2, h3, h4⟩ | ⟨h1, h4⟩
  · rw [h4] at h
    cases h
    exact .inl ⟨k, h1, rfl, rfl, h2, h3⟩
  · rw [h4] at h
    cases h
    exact .inr ⟨rfl, rfl, h1⟩

set_option maxRecDepth 100000 in
set_option maxHeartbeats 8000000 in
theorem least_law (A Al : Option Addr) (c cl : Nat) (ns : List Node) (l : List Int) (hAl : Al = none → cl = 0 ∧ l = []) (hn : ns.length ≤ 9223372036854775807) (hl : l.length ≤ 9223372036854775807) (t node p : Int) (w : World) (hN : Nodes w w.heap.size A ns) (hI : IntsAt w w.heap.size Al l) :
    Calls Try.prog 14 #[.agg #[.slice A ns.length c], .slice Al l.length cl, .agg #[.int .i64 t, .int .i64 node, .int .i64 p]] w fun e w' => e = .returned (.bool true) ∧ Below w.heap.size w w' := by
  obtain ⟨W0, hW0⟩ : ∃ W0, (w.alloc (.cells #[.slice A ns.length c] 24)).alloc (.cells #[.int .i64 t, .int .i64 node, .int .i64 p] 53) = W0 := ⟨_, rfl⟩
  have E0 : EnvLs w A c ns t node p Al l W0 := by
    rw [← hW0]
    exact ⟨EnvT.new c t node p hN, ilt (ilt hI ((Below.refl _ w).alloc (Nat.le_refl _) _)) ((Below.refl _ _).alloc (Nat.le_refl _) _)⟩
  have q0 := E0.e.e.bC.cell
  clear hN hI
  cases hv : validB ns
  · have HR := Lib.hid (ready_is A c ns hn W0 E0.e.e.hN false hv)
    clear hv
    go_enter Try.func14, Try.ntmps14
    go_wp2_with (first
      | (go_at_call 26; go_must (refine HR.out.mono ?_; rintro e w1 ⟨rfl, hb1⟩; have E1 := E0.next hb1))
      | (go_at_call 17; go_must (refine (works_any w1).mono ?_; rintro e w2 ⟨rfl, hb2⟩; have E2 := E1.next hb2)))
    go_ret
    exact ⟨rfl, E2.e.e.hb⟩
  · have HR := Lib.hid (ready_is A c ns hn W0 E0.e.e.hN true hv)
    have hn8 := validB_len hv
    by_cases hl4 : 40 < l.length
    · clear hv
      go_enter Try.func14, Try.ntmps14
      go_wp2_with (first
        | (go_at_call 26; go_must (refine HR.out.mono ?_; rintro e w1 ⟨rfl, hb1⟩; have E1 := E0.next hb1))
        | (go_at_call 17; go_must (refine (works_any w1).mono ?_; rintro e w2 ⟨rfl, hb2⟩; have E2 := E1.next hb2)))
      go_ret
      exact ⟨rfl, E2.e.e.hb⟩
    · have hl1 : l.length ≤ 1000 := by omega
      cases hc : coinsOK ns.length l
      · have HC := Lib.hid hc
        clear hv hc
        go_enter Try.func14, Try.ntmps14
        go_wp2_with (first
          | (go_at_call 26; go_must (refine HR.out.mono ?_; rintro e w1 ⟨rfl, hb1⟩; have E1 := E0.next hb1; have m1 := E1.e.e.bC.cell))
          | (go_at_call 55; go_must (refine (areCoins_is A Al ns.length c cl l hl1 w1 E1.i _ HC.out).mono ?_; rintro e w2 ⟨rfl, hb2⟩; have E2 := E1.next hb2))
          | (go_at_call 17; go_must (refine (works_any w2).mono ?_; rintro e w3 ⟨rfl, hb3⟩; have E3 := E2.next hb3)))
        go_ret
        exact ⟨rfl, E3.e.e.hb⟩
      · have hg := good_of hv
        have HC := Lib.hid hc
        have HV := Lib.hid hv
        have HAl := Lib.hid hAl
        have hco := coinsOK_all hc
        have HL := Lib.hid hco.1
        have HCO := Lib.hid hco.2
        obtain ⟨n1, e1, h1⟩ : ∃ n e, enoughS ns l = (n, e) := ⟨_, _, rfl⟩
        have hcs := enough_cases hv hc h1
        have H1 := Lib.hid h1
        have HCS := Lib.hid hcs
        have hns1 := hg.l1
        have hl0 : l ≠ [] := fun h => by
          have := HL.out
          rw [h] at this
          simp at this
          omega
        clear hv hc hAl hco h1 hcs
        go_enter Try.func14, Try.ntmps14
        go_wp2_with (first
          | (go_at_call 26; go_must (refine HR.out.mono ?_; rintro e w1 ⟨rfl, hb1⟩; have E1 := E0.next hb1; have m1 := E1.e.e.bC.cell))
          | (go_at_call 55; go_must (refine (areCoins_is A Al ns.length c cl l hl1 w1 E1.i _ HC.out).mono ?_; rintro e w2 ⟨rfl, hb2⟩; have E2 := E1.next hb2; have m2 := E2.e.e.bC.cell))
          | fail)
        have nm := World.new_ne w2 _ m2
        have E2H := Lib.hid E2
        go_cut [7, 8] (fun s7 s8 wx => s7 = .int .i64 n1 ∧ s8 = .int .i64 e1 ∧ Below w2.heap.size w2 wx)
        case first =>
          go_region_held3 (fun w' => w'.cell? ⟨w.heap.size, 0, none⟩ = some (.slice A ns.length c)) (first | go_keep)
            (first
              | (refine step_copyI (by rfl) _ _ (by rfl) w2.heap.size _ (by rfl) (ints_made w2.drew w2.heap.size (Nat.le_refl _)) Al cl l HAl.out (by rfl) (ilt E2H.out.i (((Below.refl _ w2).drew).alloc (Nat.le_refl _) _)) hl1 (by simp) ?_; intro v' w3 hown hb3; obtain ⟨B, d, rfl, hB, hI3⟩ := Ints.lay hown; have hb23 : Below w2.heap.size w2 w3 := (((Below.refl _ w2).drew).alloc (Nat.le_refl _) _).trans hb3; have m3 := below_cell hb23 m2)
              | (go_at_call 53; refine (enough_is A B c d ns l (by omega) hl1 _ (Nodes.lt E2H.out.e.e.hN hb23) hI3 _ _ H1.out).mono ?_; rintro e w4 ⟨rfl, hb4⟩; have hb24 := hb0to hb23 hb4; have m4 := below_cell hb24 m2))
          all_goals (go_wp2_with fail; go_meet; exact ⟨rfl, rfl, hb24⟩)
        case rest =>
          obtain ⟨rfl, rfl, hbc⟩ := hcut
          have E3 := Lib.hid (E2H.out.next hbc)
          have m3 := E3.out.e.c2
          have m3c := E3.out.e.e.bC.cell
          clear hbc nm m2 m1 q0 E1 E2
          rcases HCS.out with ⟨k, hk, rfl, rfl, hkt, hkf⟩ | ⟨rfl, rfl, hkf⟩
          · have HKF := Lib.hid hkf
            have HKT := Lib.hid hkt
            have HKP := Lib.hid (show inR (k : Int) 0 400 = true from inR_true.2 (by omega))
            clear hkt
            clear hkf
            cases hp : inR p 0 400
            · have HP := Lib.hid hp
              clear hp
              cases hi : inR node 0 (ns.length - 1)
              · have HI := Lib.hid hi
                have tc0 := E3.out.e.e.bC.cell
                have tc1 := E3.out.e.c1
                clear hi
                go_wp2_with (first
                  | (go_at_call 32; ((with_reducible refine (refIsPence_is _ _ _ HKP.out).mono ?_); rintro e w' ⟨rfl, rfl⟩))
                  | (go_at_call 32; ((with_reducible refine (refIsPence_is _ _ _ HP.out).mono ?_); rintro e w' ⟨rfl, rfl⟩))
                  | (go_at_call 27; go_must (refine (refIsNode_is A _ c _ _ (by omega) _ HI.out).mono ?_; rintro e w5 ⟨rfl, hb5⟩; have F5 := E3.out.next hb5))
                  | (go_at_call 17; go_must (refine (works_any _).mono ?_; rintro e w6 ⟨rfl, hb6⟩; have F6 := F5.next hb6)))
                go_ret
                exact ⟨rfl, F6.e.e.hb⟩
              · have HI := Lib.hid hi
                have hic := inR_true.1 hi
                obtain ⟨m, rfl⟩ : ∃ m : Nat, node = m := ⟨node.toNat, by omega⟩
                have hm : m < ns.length := by omega
                have tc0 := E3.out.e.e.bC.cell
                have tc1 := E3.out.e.c1
                obtain ⟨x, hx⟩ : ∃ x, at0 l m = x := ⟨_, rfl⟩
                have hxb := HCO.out m hm
                obtain ⟨b, off, rfl, _, cx⟩ := IntsAt.at_ E3.out.i (at0_is (k := m) (by rw [HL.out]; exact hm))
                rw [hx] at hxb cx
                have HX := Lib.hid hx
                have hml : m < l.length := by rw [HL.out]; exact hm
                clear hi hx
                by_cases hx0 : x = 0
                · subst hx0
                  go_wp2_with (first
                    | (go_at_call 32; ((with_reducible refine (refIsPence_is _ _ _ HKP.out).mono ?_); rintro e w' ⟨rfl, rfl⟩))
                    | (go_at_call 32; ((with_reducible refine (refIsPence_is _ _ _ HP.out).mono ?_); rintro e w' ⟨rfl, rfl⟩))
                    | (go_at_call 27; go_must (refine (refIsNode_is A _ c _ _ (by omega) _ HI.out).mono ?_; rintro e w5 ⟨rfl, hb5⟩; have F5 := E3.out.next hb5; have cx5 := below_cell hb5 cx; have tc5 := F5.e.c1))
                    | (go_at_call 17; go_must (refine (works_any _).mono ?_; rintro e w6 ⟨rfl, hb6⟩; have F6 := F5.next hb6)))
                  go_ret
                  exact ⟨rfl, F6.e.e.hb⟩
                · have hxb0 : (x == 0) = false := by simpa using hx0
                  obtain ⟨r1, f1, h2⟩ : ∃ r f, enoughS ns (l.set m (x - 1)) = (r, f) := ⟨_, _, rfl⟩
                  have hcl : coinsOK ns.length (l.set m (x - 1)) = true := by rw [← HX.out]; exact coinsOK_less HC.out hm (by rw [HX.out]; exact hx0)
                  have h3 := h2
                  rw [enough_good HV.out hcl] at h3
                  obtain ⟨rfl, hrk⟩ := first_less (p := enB ns l) (fun j hj => enB_less (fun i => by rw [← HX.out]; exact less_at0 l m i) hj) ⟨hk, HKT.out⟩ h3
                  clear h3 hcl
                  have H2 := Lib.hid h2
                  clear h2
                  go_wp2_with (first
                    | (go_at_call 32; ((with_reducible refine (refIsPence_is _ _ _ HKP.out).mono ?_); rintro e w' ⟨rfl, rfl⟩))
                    | (go_at_call 32; ((with_reducible refine (refIsPence_is _ _ _ HP.out).mono ?_); rintro e w' ⟨rfl, rfl⟩))
                    | (go_at_call 27; go_must (refine (refIsNode_is A _ c _ _ (by omega) _ HI.out).mono ?_; rintro e w5 ⟨rfl, hb5⟩; have F5 := E3.out.next hb5; have cx5 := below_cell hb5 cx; have tc5 := F5.e.c1))
                    | (at_builtin; go_must (refine wpl_copyI rfl _ _ rfl w5.heap.size _ rfl (ints_made w5 w5.heap.size (Nat.le_refl _)) _ cl l HAl.out rfl (ilt F5.i ((Below.refl _ w5).alloc (Nat.le_refl _) _)) hl1 (by simp) ?_; intro v' w6 hown hb6; obtain ⟨g, cap, rfl, hgb⟩ := Ints.some_ hown hl0; have cm := Ints.cells_ hown hml; rw [HX.out] at cm; have fm := Ints.fr_ hown m; have hb56 := ((Below.refl _ w5).alloc (Nat.le_refl _) (.cells #[] 3)).trans hb6; have F6 := F5.next hb56; have tc6 := F6.e.c1; have hb67 := hb56.setCell (p := ⟨g, m, none⟩) hgb (.int .i64 (x - 1)); have F7 := F5.next hb67; have I7 := ints_at_ (Ints.set_ hown m (x - 1)); have tc7 := F7.e.e.bC.cell))
                    | (go_at_call 53; go_must (refine (enough_len A _ c cap l.length ns (l.set m (x - 1)) (by omega) (by rw [List.length_set]) hl1 _ F7.e.e.hN I7 _ _ H2.out).mono ?_; rintro e w8 ⟨rfl, hb8⟩; have F8 := F7.next hb8))
                    | (go_at_call 17; go_must (refine (works_any _).mono ?_; rintro e w9 ⟨rfl, hb9⟩; have F9 := F8.next hb9)))
                  go_ret
                  exact ⟨rfl, F9.e.e.hb⟩
            · have HP := Lib.hid hp
              have hpp := inR_true.1 hp
              obtain ⟨pn, rfl⟩ : ∃ pn : Nat, p = pn := ⟨p.toNat, by omega⟩
              clear hp
              by_cases hlk : k < pn
              · have hle : ¬ pn ≤ k := by omega
                cases hi : inR node 0 (ns.length - 1)
                · have HI := Lib.hid hi
                  have tc0 := E3.out.e.e.bC.cell
                  have tc1 := E3.out.e.c1
                  clear hi
                  go_wp2_with (first
                    | (go_at_call 32; ((with_reducible refine (refIsPence_is _ _ _ HKP.out).mono ?_); rintro e w' ⟨rfl, rfl⟩))
                    | (go_at_call 32; ((with_reducible refine (refIsPence_is _ _ _ HP.out).mono ?_); rintro e w' ⟨rfl, rfl⟩))
                    | (go_at_call 27; go_must (refine (refIsNode_is A _ c _ _ (by omega) _ HI.out).mono ?_; rintro e w5 ⟨rfl, hb5⟩; have F5 := E3.out.next hb5))
                    | (go_at_call 17; go_must (refine (works_any _).mono ?_; rintro e w6 ⟨rfl, hb6⟩; have F6 := F5.next hb6)))
                  go_ret
                  exact ⟨rfl, F6.e.e.hb⟩
                · have HI := Lib.hid hi
                  have hic := inR_true.1 hi
                  obtain ⟨m, rfl⟩ : ∃ m : Nat, node = m := ⟨node.toNat, by omega⟩
                  have hm : m < ns.length := by omega
                  have tc0 := E3.out.e.e.bC.cell
                  have tc1 := E3.out.e.c1
                  obtain ⟨x, hx⟩ : ∃ x, at0 l m = x := ⟨_, rfl⟩
                  have hxb := HCO.out m hm
                  obtain ⟨b, off, rfl, _, cx⟩ := IntsAt.at_ E3.out.i (at0_is (k := m) (by rw [HL.out]; exact hm))
                  rw [hx] at hxb cx
                  have HX := Lib.hid hx
                  have hml : m < l.length := by rw [HL.out]; exact hm
                  clear hi hx
                  by_cases hx0 : x = 0
                  · subst hx0
                    go_wp2_with (first
                      | (go_at_call 32; ((with_reducible refine (refIsPence_is _ _ _ HKP.out).mono ?_); rintro e w' ⟨rfl, rfl⟩))
                      | (go_at_call 32; ((with_reducible refine (refIsPence_is _ _ _ HP.out).mono ?_); rintro e w' ⟨rfl, rfl⟩))
                      | (go_at_call 27; go_must (refine (refIsNode_is A _ c _ _ (by omega) _ HI.out).mono ?_; rintro e w5 ⟨rfl, hb5⟩; have F5 := E3.out.next hb5; have cx5 := below_cell hb5 cx; have tc5 := F5.e.c1))
                      | (go_at_call 17; go_must (refine (works_any _).mono ?_; rintro e w6 ⟨rfl, hb6⟩; have F6 := F5.next hb6)))
                    go_ret
                    exact ⟨rfl, F6.e.e.hb⟩
                  · have hxb0 : (x == 0) = false := by simpa using hx0
                    obtain ⟨r1, f1, h2⟩ : ∃ r f, enoughS ns (l.set m (x - 1)) = (r, f) := ⟨_, _, rfl⟩
                    have hcl : coinsOK ns.length (l.set m (x - 1)) = true := by rw [← HX.out]; exact coinsOK_less HC.out hm (by rw [HX.out]; exact hx0)
                    have h3 := h2
                    rw [enough_good HV.out hcl] at h3
                    obtain ⟨rfl, hrk⟩ := first_less (p := enB ns l) (fun j hj => enB_less (fun i => by rw [← HX.out]; exact less_at0 l m i) hj) ⟨hk, HKT.out⟩ h3
                    clear h3 hcl
                    have H2 := Lib.hid h2
                    clear h2
                    go_wp2_with (first
                      | (go_at_call 32; ((with_reducible refine (refIsPence_is _ _ _ HKP.out).mono ?_); rintro e w' ⟨rfl, rfl⟩))
                      | (go_at_call 32; ((with_reducible refine (refIsPence_is _ _ _ HP.out).mono ?_); rintro e w' ⟨rfl, rfl⟩))
                      | (go_at_call 27; go_must (refine (refIsNode_is A _ c _ _ (by omega) _ HI.out).mono ?_; rintro e w5 ⟨rfl, hb5⟩; have F5 := E3.out.next hb5; have cx5 := below_cell hb5 cx; have tc5 := F5.e.c1))
                      | (at_builtin; go_must (refine wpl_copyI rfl _ _ rfl w5.heap.size _ rfl (ints_made w5 w5.heap.size (Nat.le_refl _)) _ cl l HAl.out rfl (ilt F5.i ((Below.refl _ w5).alloc (Nat.le_refl _) _)) hl1 (by simp) ?_; intro v' w6 hown hb6; obtain ⟨g, cap, rfl, hgb⟩ := Ints.some_ hown hl0; have cm := Ints.cells_ hown hml; rw [HX.out] at cm; have fm := Ints.fr_ hown m; have hb56 := ((Below.refl _ w5).alloc (Nat.le_refl _) (.cells #[] 3)).trans hb6; have F6 := F5.next hb56; have tc6 := F6.e.c1; have hb67 := hb56.setCell (p := ⟨g, m, none⟩) hgb (.int .i64 (x - 1)); have F7 := F5.next hb67; have I7 := ints_at_ (Ints.set_ hown m (x - 1)); have tc7 := F7.e.e.bC.cell))
                      | (go_at_call 53; go_must (refine (enough_len A _ c cap l.length ns (l.set m (x - 1)) (by omega) (by rw [List.length_set]) hl1 _ F7.e.e.hN I7 _ _ H2.out).mono ?_; rintro e w8 ⟨rfl, hb8⟩; have F8 := F7.next hb8))
                      | (go_at_call 17; go_must (refine (works_any _).mono ?_; rintro e w9 ⟨rfl, hb9⟩; have F9 := F8.next hb9)))
                    go_ret
                    exact ⟨rfl, F9.e.e.hb⟩
              · by_cases hpk : pn = k
                · subst hpk
                  have HZ := Lib.hid (penceE_of HV.out (p := pn) (by omega))
                  have hlen : ((ns.length : Int) != l.length) = false := by rw [HL.out]; simp
                  go_wp2_with (first
                    | (go_at_call 32; ((with_reducible refine (refIsPence_is _ _ _ HKP.out).mono ?_); rintro e w' ⟨rfl, rfl⟩))
                    | (go_at_call 32; ((with_reducible refine (refIsPence_is _ _ _ HP.out).mono ?_); rintro e w' ⟨rfl, rfl⟩))
                    | (go_at_call 50; go_must (refine (keepsAll_ok A c ns pn (by omega) _ E3.out.e.e.hN HZ.out).mono ?_; rintro e w4 ⟨kb, rfl, _, hr4, hb4⟩; have E4 := E3.out.next hb4)))
                  have HR4 := Lib.hid hr4
                  have E4H := Lib.hid E4
                  clear hr4 E4 m3 m3c
                  go_loopw [11, 12] (fun en i wr => ∃ (j : Nat) (b : Bool), j ≤ ns.length ∧ en = .bool b ∧ i = .int .i64 j ∧ Below w4.heap.size w4 wr ∧ Hid (enTo ns l pn j = b)) (fun _ i _ => ns.length - (intOf i).toNat)
                  case atStart => exact ⟨0, true, Nat.zero_le _, rfl, rfl, Below.refl _ _, Lib.hid rfl⟩
                  case round =>
                    obtain ⟨j, b, hj, rfl, rfl, hb, HB⟩ := hrel
                    by_cases hlt : j < ns.length
                    · obtain ⟨q, hq⟩ : ∃ q, keptS ns pn j = q := ⟨_, rfl⟩
                      obtain ⟨y, hy⟩ : ∃ y, at0 l j = y := ⟨_, rfl⟩
                      have mk := Row.cell (Row.below HR4.out hb (Row.lt HR4.out)) (k := j) (by rw [keptsS_len]; exact hlt)
                      rw [keptsS_at hlt, hq] at mk
                      obtain ⟨b1, o1, rfl, _, my⟩ := IntsAt.at_ (E4H.out.next hb).i (at0_is (k := j) (by rw [HL.out]; exact hlt))
                      rw [hy] at my
                      have hst := enTo_succ ns l pn j
                      rw [HB.out, hq, hy] at hst
                      have hjl : j < l.length := by rw [HL.out]; exact hlt
                      have k1 := extB_cell mk
                      have k2 := extB_cell my
                      obtain ⟨d, hd⟩ : ∃ d, decide (y ≤ q) = d := ⟨_, rfl⟩
                      rw [hd] at hst
                      have HST := Lib.hid hst
                      clear hst hq hy mk my HB
                      cases b <;> cases d
                      all_goals
                        go_wp2
                        refine wp_region_ext (by kernel_rfl) (by kernel_rfl) ?_
                        repeat (go_big_quiet_step (fail))
                        refine wpQuiet_nil ?_
                        rintro _ ⟨x1, rfl⟩
                        have hb5 := hb0to hb (extB_below _ x1)
                        go_wp2
                        go_roundw
                        case rel => first | exact ⟨j + 1, _, by omega, rfl, by go_num, hb5, HST⟩ | ((repeat apply Exists.intro); exact ⟨⟨j + 1, _, by omega, rfl, by go_num, hb5, HST⟩, rfl⟩)
                        case measure => simp [intOf]; omega
                    · obtain rfl : j = ns.length := by omega
                      have hb1 := HB.out
                      rw [enTo_all] at hb1
                      obtain rfl : true = b := by rw [← hb1]; exact HKT.out.symm
                      have E5 := Lib.hid (E4H.out.next hb)
                      have m5 := E5.out.e.c2
                      clear hb1 HB
                      cases hi : inR node 0 (ns.length - 1)
                      · have HI := Lib.hid hi
                        have tc0 := E5.out.e.e.bC.cell
                        have tc1 := E5.out.e.c1
                        clear hi
                        go_wp2_with (first
                          | (go_at_call 27; go_must (refine (refIsNode_is A _ c _ _ (by omega) _ HI.out).mono ?_; rintro e w5 ⟨rfl, hb5⟩; have F5 := E5.out.next hb5))
                          | (go_at_call 17; go_must (refine (works_any _).mono ?_; rintro e w6 ⟨rfl, hb6⟩; have F6 := F5.next hb6)))
                        go_ret
                        exact ⟨rfl, F6.e.e.hb⟩
                      · have HI := Lib.hid hi
                        have hic := inR_true.1 hi
                        obtain ⟨m, rfl⟩ : ∃ m : Nat, node = m := ⟨node.toNat, by omega⟩
                        have hm : m < ns.length := by omega
                        have tc0 := E5.out.e.e.bC.cell
                        have tc1 := E5.out.e.c1
                        obtain ⟨x, hx⟩ : ∃ x, at0 l m = x := ⟨_, rfl⟩
                        have hxb := HCO.out m hm
                        obtain ⟨b, off, rfl, _, cx⟩ := IntsAt.at_ E5.out.i (at0_is (k := m) (by rw [HL.out]; exact hm))
                        rw [hx] at hxb cx
                        have HX := Lib.hid hx
                        have hml : m < l.length := by rw [HL.out]; exact hm
                        clear hi hx
                        by_cases hx0 : x = 0
                        · subst hx0
                          go_wp2_with (first
                            | (go_at_call 27; go_must (refine (refIsNode_is A _ c _ _ (by omega) _ HI.out).mono ?_; rintro e w5 ⟨rfl, hb5⟩; have F5 := E5.out.next hb5; have cx5 := below_cell hb5 cx; have tc5 := F5.e.c1))
                            | (go_at_call 17; go_must (refine (works_any _).mono ?_; rintro e w6 ⟨rfl, hb6⟩; have F6 := F5.next hb6)))
                          go_ret
                          exact ⟨rfl, F6.e.e.hb⟩
                        · have hxb0 : (x == 0) = false := by simpa using hx0
                          obtain ⟨r1, f1, h2⟩ : ∃ r f, enoughS ns (l.set m (x - 1)) = (r, f) := ⟨_, _, rfl⟩
                          have hcl : coinsOK ns.length (l.set m (x - 1)) = true := by rw [← HX.out]; exact coinsOK_less HC.out hm (by rw [HX.out]; exact hx0)
                          have h3 := h2
                          rw [enough_good HV.out hcl] at h3
                          obtain ⟨rfl, hrk⟩ := first_less (p := enB ns l) (fun j hj => enB_less (fun i => by rw [← HX.out]; exact less_at0 l m i) hj) ⟨hk, HKT.out⟩ h3
                          clear h3 hcl
                          have H2 := Lib.hid h2
                          clear h2
                          go_wp2_with (first
                            | (go_at_call 27; go_must (refine (refIsNode_is A _ c _ _ (by omega) _ HI.out).mono ?_; rintro e w5 ⟨rfl, hb5⟩; have F5 := E5.out.next hb5; have cx5 := below_cell hb5 cx; have tc5 := F5.e.c1))
                            | (at_builtin; go_must (refine wpl_copyI rfl _ _ rfl w5.heap.size _ rfl (ints_made w5 w5.heap.size (Nat.le_refl _)) _ cl l HAl.out rfl (ilt F5.i ((Below.refl _ w5).alloc (Nat.le_refl _) _)) hl1 (by simp) ?_; intro v' w6 hown hb6; obtain ⟨g, cap, rfl, hgb⟩ := Ints.some_ hown hl0; have cm := Ints.cells_ hown hml; rw [HX.out] at cm; have fm := Ints.fr_ hown m; have hb56 := ((Below.refl _ w5).alloc (Nat.le_refl _) (.cells #[] 3)).trans hb6; have F6 := F5.next hb56; have tc6 := F6.e.c1; have hb67 := hb56.setCell (p := ⟨g, m, none⟩) hgb (.int .i64 (x - 1)); have F7 := F5.next hb67; have I7 := ints_at_ (Ints.set_ hown m (x - 1)); have tc7 := F7.e.e.bC.cell))
                            | (go_at_call 53; go_must (refine (enough_len A _ c cap l.length ns (l.set m (x - 1)) (by omega) (by rw [List.length_set]) hl1 _ F7.e.e.hN I7 _ _ H2.out).mono ?_; rintro e w8 ⟨rfl, hb8⟩; have F8 := F7.next hb8))
                            | (go_at_call 17; go_must (refine (works_any _).mono ?_; rintro e w9 ⟨rfl, hb9⟩; have F9 := F8.next hb9)))
                          go_ret
                          exact ⟨rfl, F9.e.e.hb⟩
                · have hne : ((pn : Int) == k) = false := by simp; omega
                  have hlt0 : pn < k := by omega
                  have HZ := Lib.hid (penceE_of HV.out (p := pn) (by omega))
                  have hlen : ((ns.length : Int) != l.length) = false := by rw [HL.out]; simp
                  go_wp2_with (first
                    | (go_at_call 32; ((with_reducible refine (refIsPence_is _ _ _ HKP.out).mono ?_); rintro e w' ⟨rfl, rfl⟩))
                    | (go_at_call 32; ((with_reducible refine (refIsPence_is _ _ _ HP.out).mono ?_); rintro e w' ⟨rfl, rfl⟩))
                    | (go_at_call 50; go_must (refine (keepsAll_ok A c ns pn (by omega) _ E3.out.e.e.hN HZ.out).mono ?_; rintro e w4 ⟨kb, rfl, _, hr4, hb4⟩; have E4 := E3.out.next hb4)))
                  have HR4 := Lib.hid hr4
                  have E4H := Lib.hid E4
                  clear hr4 E4 m3 m3c
                  go_loopw [11, 12] (fun en i wr => ∃ (j : Nat) (b : Bool), j ≤ ns.length ∧ en = .bool b ∧ i = .int .i64 j ∧ Below w4.heap.size w4 wr ∧ Hid (enTo ns l pn j = b)) (fun _ i _ => ns.length - (intOf i).toNat)
                  case atStart => exact ⟨0, true, Nat.zero_le _, rfl, rfl, Below.refl _ _, Lib.hid rfl⟩
                  case round =>
                    obtain ⟨j, b, hj, rfl, rfl, hb, HB⟩ := hrel
                    by_cases hlt : j < ns.length
                    · obtain ⟨q, hq⟩ : ∃ q, keptS ns pn j = q := ⟨_, rfl⟩
                      obtain ⟨y, hy⟩ : ∃ y, at0 l j = y := ⟨_, rfl⟩
                      have mk := Row.cell (Row.below HR4.out hb (Row.lt HR4.out)) (k := j) (by rw [keptsS_len]; exact hlt)
                      rw [keptsS_at hlt, hq] at mk
                      obtain ⟨b1, o1, rfl, _, my⟩ := IntsAt.at_ (E4H.out.next hb).i (at0_is (k := j) (by rw [HL.out]; exact hlt))
                      rw [hy] at my
                      have hst := enTo_succ ns l pn j
                      rw [HB.out, hq, hy] at hst
                      have hjl : j < l.length := by rw [HL.out]; exact hlt
                      have k1 := extB_cell mk
                      have k2 := extB_cell my
                      obtain ⟨d, hd⟩ : ∃ d, decide (y ≤ q) = d := ⟨_, rfl⟩
                      rw [hd] at hst
                      have HST := Lib.hid hst
                      clear hst hq hy mk my HB
                      cases b <;> cases d
                      all_goals
                        go_wp2
                        refine wp_region_ext (by kernel_rfl) (by kernel_rfl) ?_
                        repeat (go_big_quiet_step (fail))
                        refine wpQuiet_nil ?_
                        rintro _ ⟨x1, rfl⟩
                        have hb5 := hb0to hb (extB_below _ x1)
                        go_wp2
                        go_roundw
                        case rel => first | exact ⟨j + 1, _, by omega, rfl, by go_num, hb5, HST⟩ | ((repeat apply Exists.intro); exact ⟨⟨j + 1, _, by omega, rfl, by go_num, hb5, HST⟩, rfl⟩)
                        case measure => simp [intOf]; omega
                    · obtain rfl : j = ns.length := by omega
                      have hb1 := HB.out
                      rw [enTo_all] at hb1
                      obtain rfl : false = b := by rw [← hb1]; exact (HKF.out pn (by omega)).symm
                      have E5 := Lib.hid (E4H.out.next hb)
                      have m5 := E5.out.e.c2
                      clear hb1 HB
                      cases hi : inR node 0 (ns.length - 1)
                      · have HI := Lib.hid hi
                        have tc0 := E5.out.e.e.bC.cell
                        have tc1 := E5.out.e.c1
                        clear hi
                        go_wp2_with (first
                          | (go_at_call 27; go_must (refine (refIsNode_is A _ c _ _ (by omega) _ HI.out).mono ?_; rintro e w5 ⟨rfl, hb5⟩; have F5 := E5.out.next hb5))
                          | (go_at_call 17; go_must (refine (works_any _).mono ?_; rintro e w6 ⟨rfl, hb6⟩; have F6 := F5.next hb6)))
                        go_ret
                        exact ⟨rfl, F6.e.e.hb⟩
                      · have HI := Lib.hid hi
                        have hic := inR_true.1 hi
                        obtain ⟨m, rfl⟩ : ∃ m : Nat, node = m := ⟨node.toNat, by omega⟩
                        have hm : m < ns.length := by omega
                        have tc0 := E5.out.e.e.bC.cell
                        have tc1 := E5.out.e.c1
                        obtain ⟨x, hx⟩ : ∃ x, at0 l m = x := ⟨_, rfl⟩
                        have hxb := HCO.out m hm
                        obtain ⟨b, off, rfl, _, cx⟩ := IntsAt.at_ E5.out.i (at0_is (k := m) (by rw [HL.out]; exact hm))
                        rw [hx] at hxb cx
                        have HX := Lib.hid hx
                        have hml : m < l.length := by rw [HL.out]; exact hm
                        clear hi hx
                        by_cases hx0 : x = 0
                        · subst hx0
                          go_wp2_with (first
                            | (go_at_call 27; go_must (refine (refIsNode_is A _ c _ _ (by omega) _ HI.out).mono ?_; rintro e w5 ⟨rfl, hb5⟩; have F5 := E5.out.next hb5; have cx5 := below_cell hb5 cx; have tc5 := F5.e.c1))
                            | (go_at_call 17; go_must (refine (works_any _).mono ?_; rintro e w6 ⟨rfl, hb6⟩; have F6 := F5.next hb6)))
                          go_ret
                          exact ⟨rfl, F6.e.e.hb⟩
                        · have hxb0 : (x == 0) = false := by simpa using hx0
                          obtain ⟨r1, f1, h2⟩ : ∃ r f, enoughS ns (l.set m (x - 1)) = (r, f) := ⟨_, _, rfl⟩
                          have hcl : coinsOK ns.length (l.set m (x - 1)) = true := by rw [← HX.out]; exact coinsOK_less HC.out hm (by rw [HX.out]; exact hx0)
                          have h3 := h2
                          rw [enough_good HV.out hcl] at h3
                          obtain ⟨rfl, hrk⟩ := first_less (p := enB ns l) (fun j hj => enB_less (fun i => by rw [← HX.out]; exact less_at0 l m i) hj) ⟨hk, HKT.out⟩ h3
                          clear h3 hcl
                          have H2 := Lib.hid h2
                          clear h2
                          go_wp2_with (first
                            | (go_at_call 27; go_must (refine (refIsNode_is A _ c _ _ (by omega) _ HI.out).mono ?_; rintro e w5 ⟨rfl, hb5⟩; have F5 := E5.out.next hb5; have cx5 := below_cell hb5 cx; have tc5 := F5.e.c1))
                            | (at_builtin; go_must (refine wpl_copyI rfl _ _ rfl w5.heap.size _ rfl (ints_made w5 w5.heap.size (Nat.le_refl _)) _ cl l HAl.out rfl (ilt F5.i ((Below.refl _ w5).alloc (Nat.le_refl _) _)) hl1 (by simp) ?_; intro v' w6 hown hb6; obtain ⟨g, cap, rfl, hgb⟩ := Ints.some_ hown hl0; have cm := Ints.cells_ hown hml; rw [HX.out] at cm; have fm := Ints.fr_ hown m; have hb56 := ((Below.refl _ w5).alloc (Nat.le_refl _) (.cells #[] 3)).trans hb6; have F6 := F5.next hb56; have tc6 := F6.e.c1; have hb67 := hb56.setCell (p := ⟨g, m, none⟩) hgb (.int .i64 (x - 1)); have F7 := F5.next hb67; have I7 := ints_at_ (Ints.set_ hown m (x - 1)); have tc7 := F7.e.e.bC.cell))
                            | (go_at_call 53; go_must (refine (enough_len A _ c cap l.length ns (l.set m (x - 1)) (by omega) (by rw [List.length_set]) hl1 _ F7.e.e.hN I7 _ _ H2.out).mono ?_; rintro e w8 ⟨rfl, hb8⟩; have F8 := F7.next hb8))
                            | (go_at_call 17; go_must (refine (works_any _).mono ?_; rintro e w9 ⟨rfl, hb9⟩; have F9 := F8.next hb9)))
                          go_ret
                          exact ⟨rfl, F9.e.e.hb⟩
          · have HKF := Lib.hid hkf
            clear hkf
            cases hp : inR p 0 400
            · have HP := Lib.hid hp
              clear hp
              cases hi : inR node 0 (ns.length - 1)
              · have HI := Lib.hid hi
                have tc0 := E3.out.e.e.bC.cell
                have tc1 := E3.out.e.c1
                clear hi
                go_wp2_with (first
                  | (go_at_call 32; ((with_reducible refine (refIsPence_is _ _ _ HP.out).mono ?_); rintro e w' ⟨rfl, rfl⟩))
                  | (go_at_call 27; go_must (refine (refIsNode_is A _ c _ _ (by omega) _ HI.out).mono ?_; rintro e w5 ⟨rfl, hb5⟩; have F5 := E3.out.next hb5))
                  | (go_at_call 17; go_must (refine (works_any _).mono ?_; rintro e w6 ⟨rfl, hb6⟩; have F6 := F5.next hb6)))
                go_ret
                exact ⟨rfl, F6.e.e.hb⟩
              · have HI := Lib.hid hi
                have hic := inR_true.1 hi
                obtain ⟨m, rfl⟩ : ∃ m : Nat, node = m := ⟨node.toNat, by omega⟩
                have hm : m < ns.length := by omega
                have tc0 := E3.out.e.e.bC.cell
                have tc1 := E3.out.e.c1
                obtain ⟨x, hx⟩ : ∃ x, at0 l m = x := ⟨_, rfl⟩
                have hxb := HCO.out m hm
                obtain ⟨b, off, rfl, _, cx⟩ := IntsAt.at_ E3.out.i (at0_is (k := m) (by rw [HL.out]; exact hm))
                rw [hx] at hxb cx
                have HX := Lib.hid hx
                have hml : m < l.length := by rw [HL.out]; exact hm
                clear hi hx
                by_cases hx0 : x = 0
                · subst hx0
                  go_wp2_with (first
                    | (go_at_call 32; ((with_reducible refine (refIsPence_is _ _ _ HP.out).mono ?_); rintro e w' ⟨rfl, rfl⟩))
                    | (go_at_call 27; go_must (refine (refIsNode_is A _ c _ _ (by omega) _ HI.out).mono ?_; rintro e w5 ⟨rfl, hb5⟩; have F5 := E3.out.next hb5; have cx5 := below_cell hb5 cx; have tc5 := F5.e.c1))
                    | (go_at_call 17; go_must (refine (works_any _).mono ?_; rintro e w6 ⟨rfl, hb6⟩; have F6 := F5.next hb6)))
                  go_ret
                  exact ⟨rfl, F6.e.e.hb⟩
                · have hxb0 : (x == 0) = false := by simpa using hx0
                  obtain ⟨r1, f1, h2⟩ : ∃ r f, enoughS ns (l.set m (x - 1)) = (r, f) := ⟨_, _, rfl⟩
                  have H2 := Lib.hid h2
                  clear h2
                  go_wp2_with (first
                    | (go_at_call 32; ((with_reducible refine (refIsPence_is _ _ _ HP.out).mono ?_); rintro e w' ⟨rfl, rfl⟩))
                    | (go_at_call 27; go_must (refine (refIsNode_is A _ c _ _ (by omega) _ HI.out).mono ?_; rintro e w5 ⟨rfl, hb5⟩; have F5 := E3.out.next hb5; have cx5 := below_cell hb5 cx; have tc5 := F5.e.c1))
                    | (at_builtin; go_must (refine wpl_copyI rfl _ _ rfl w5.heap.size _ rfl (ints_made w5 w5.heap.size (Nat.le_refl _)) _ cl l HAl.out rfl (ilt F5.i ((Below.refl _ w5).alloc (Nat.le_refl _) _)) hl1 (by simp) ?_; intro v' w6 hown hb6; obtain ⟨g, cap, rfl, hgb⟩ := Ints.some_ hown hl0; have cm := Ints.cells_ hown hml; rw [HX.out] at cm; have fm := Ints.fr_ hown m; have hb56 := ((Below.refl _ w5).alloc (Nat.le_refl _) (.cells #[] 3)).trans hb6; have F6 := F5.next hb56; have tc6 := F6.e.c1; have hb67 := hb56.setCell (p := ⟨g, m, none⟩) hgb (.int .i64 (x - 1)); have F7 := F5.next hb67; have I7 := ints_at_ (Ints.set_ hown m (x - 1)); have tc7 := F7.e.e.bC.cell))
                    | (go_at_call 53; go_must (refine (enough_len A _ c cap l.length ns (l.set m (x - 1)) (by omega) (by rw [List.length_set]) hl1 _ F7.e.e.hN I7 _ _ H2.out).mono ?_; rintro e w8 ⟨rfl, hb8⟩; have F8 := F7.next hb8))
                    | (go_at_call 17; go_must (refine (works_any _).mono ?_; rintro e w9 ⟨rfl, hb9⟩; have F9 := F8.next hb9)))
                  go_ret
                  exact ⟨rfl, F9.e.e.hb⟩
            · have HP := Lib.hid hp
              have hpp := inR_true.1 hp
              obtain ⟨pn, rfl⟩ : ∃ pn : Nat, p = pn := ⟨p.toNat, by omega⟩
              clear hp
              have HZ := Lib.hid (penceE_of HV.out (p := pn) (by omega))
              have hlen : ((ns.length : Int) != l.length) = false := by rw [HL.out]; simp
              go_wp2_with (first
                | (go_at_call 32; ((with_reducible refine (refIsPence_is _ _ _ HP.out).mono ?_); rintro e w' ⟨rfl, rfl⟩))
                | (go_at_call 50; go_must (refine (keepsAll_ok A c ns pn (by omega) _ E3.out.e.e.hN HZ.out).mono ?_; rintro e w4 ⟨kb, rfl, _, hr4, hb4⟩; have E4 := E3.out.next hb4)))
              have HR4 := Lib.hid hr4
              have E4H := Lib.hid E4
              clear hr4 E4 m3 m3c
              go_loopw [11, 12] (fun en i wr => ∃ (j : Nat) (b : Bool), j ≤ ns.length ∧ en = .bool b ∧ i = .int .i64 j ∧ Below w4.heap.size w4 wr ∧ Hid (enTo ns l pn j = b)) (fun _ i _ => ns.length - (intOf i).toNat)
              case atStart => exact ⟨0, true, Nat.zero_le _, rfl, rfl, Below.refl _ _, Lib.hid rfl⟩
              case round =>
                obtain ⟨j, b, hj, rfl, rfl, hb, HB⟩ := hrel
                by_cases hlt : j < ns.length
                · obtain ⟨q, hq⟩ : ∃ q, keptS ns pn j = q := ⟨_, rfl⟩
                  obtain ⟨y, hy⟩ : ∃ y, at0 l j = y := ⟨_, rfl⟩
                  have mk := Row.cell (Row.below HR4.out hb (Row.lt HR4.out)) (k := j) (by rw [keptsS_len]; exact hlt)
                  rw [keptsS_at hlt, hq] at mk
                  obtain ⟨b1, o1, rfl, _, my⟩ := IntsAt.at_ (E4H.out.next hb).i (at0_is (k := j) (by rw [HL.out]; exact hlt))
                  rw [hy] at my
                  have hst := enTo_succ ns l pn j
                  rw [HB.out, hq, hy] at hst
                  have hjl : j < l.length := by rw [HL.out]; exact hlt
                  have k1 := extB_cell mk
                  have k2 := extB_cell my
                  obtain ⟨d, hd⟩ : ∃ d, decide (y ≤ q) = d := ⟨_, rfl⟩
                  rw [hd] at hst
                  have HST := Lib.hid hst
                  clear hst hq hy mk my HB
                  cases b <;> cases d
                  all_goals
                    go_wp2
                    refine wp_region_ext (by kernel_rfl) (by kernel_rfl) ?_
                    repeat (go_big_quiet_step (fail))
                    refine wpQuiet_nil ?_
                    rintro _ ⟨x1, rfl⟩
                    have hb5 := hb0to hb (extB_below _ x1)
                    go_wp2
                    go_roundw
                    case rel => first | exact ⟨j + 1, _, by omega, rfl, by go_num, hb5, HST⟩ | ((repeat apply Exists.intro); exact ⟨⟨j + 1, _, by omega, rfl, by go_num, hb5, HST⟩, rfl⟩)
                    case measure => simp [intOf]; omega
                · obtain rfl : j = ns.length := by omega
                  have hb1 := HB.out
                  rw [enTo_all] at hb1
                  obtain rfl : false = b := by rw [← hb1]; exact (HKF.out pn (by omega)).symm
                  have E5 := Lib.hid (E4H.out.next hb)
                  have m5 := E5.out.e.c2
                  clear hb1 HB
                  cases hi : inR node 0 (ns.length - 1)
                  · have HI := Lib.hid hi
                    have tc0 := E5.out.e.e.bC.cell
                    have tc1 := E5.out.e.c1
                    clear hi
                    go_wp2_with (first
                      | (go_at_call 27; go_must (refine (refIsNode_is A _ c _ _ (by omega) _ HI.out).mono ?_; rintro e w5 ⟨rfl, hb5⟩; have F5 := E5.out.next hb5))
                      | (go_at_call 17; go_must (refine (works_any _).mono ?_; rintro e w6 ⟨rfl, hb6⟩; have F6 := F5.next hb6)))
                    go_ret
                    exact ⟨rfl, F6.e.e.hb⟩
                  · have HI := Lib.hid hi
                    have hic := inR_true.1 hi
                    obtain ⟨m, rfl⟩ : ∃ m : Nat, node = m := ⟨node.toNat, by omega⟩
                    have hm : m < ns.length := by omega
                    have tc0 := E5.out.e.e.bC.cell
                    have tc1 := E5.out.e.c1
                    obtain ⟨x, hx⟩ : ∃ x, at0 l m = x := ⟨_, rfl⟩
                    have hxb := HCO.out m hm
                    obtain ⟨b, off, rfl, _, cx⟩ := IntsAt.at_ E5.out.i (at0_is (k := m) (by rw [HL.out]; exact hm))
                    rw [hx] at hxb cx
                    have HX := Lib.hid hx
                    have hml : m < l.length := by rw [HL.out]; exact hm
                    clear hi hx
                    by_cases hx0 : x = 0
                    · subst hx0
                      go_wp2_with (first
                        | (go_at_call 27; go_must (refine (refIsNode_is A _ c _ _ (by omega) _ HI.out).mono ?_; rintro e w5 ⟨rfl, hb5⟩; have F5 := E5.out.next hb5; have cx5 := below_cell hb5 cx; have tc5 := F5.e.c1))
                        | (go_at_call 17; go_must (refine (works_any _).mono ?_; rintro e w6 ⟨rfl, hb6⟩; have F6 := F5.next hb6)))
                      go_ret
                      exact ⟨rfl, F6.e.e.hb⟩
                    · have hxb0 : (x == 0) = false := by simpa using hx0
                      obtain ⟨r1, f1, h2⟩ : ∃ r f, enoughS ns (l.set m (x - 1)) = (r, f) := ⟨_, _, rfl⟩
                      have H2 := Lib.hid h2
                      clear h2
                      go_wp2_with (first
                        | (go_at_call 27; go_must (refine (refIsNode_is A _ c _ _ (by omega) _ HI.out).mono ?_; rintro e w5 ⟨rfl, hb5⟩; have F5 := E5.out.next hb5; have cx5 := below_cell hb5 cx; have tc5 := F5.e.c1))
                        | (at_builtin; go_must (refine wpl_copyI rfl _ _ rfl w5.heap.size _ rfl (ints_made w5 w5.heap.size (Nat.le_refl _)) _ cl l HAl.out rfl (ilt F5.i ((Below.refl _ w5).alloc (Nat.le_refl _) _)) hl1 (by simp) ?_; intro v' w6 hown hb6; obtain ⟨g, cap, rfl, hgb⟩ := Ints.some_ hown hl0; have cm := Ints.cells_ hown hml; rw [HX.out] at cm; have fm := Ints.fr_ hown m; have hb56 := ((Below.refl _ w5).alloc (Nat.le_refl _) (.cells #[] 3)).trans hb6; have F6 := F5.next hb56; have tc6 := F6.e.c1; have hb67 := hb56.setCell (p := ⟨g, m, none⟩) hgb (.int .i64 (x - 1)); have F7 := F5.next hb67; have I7 := ints_at_ (Ints.set_ hown m (x - 1)); have tc7 := F7.e.e.bC.cell))
                        | (go_at_call 53; go_must (refine (enough_len A _ c cap l.length ns (l.set m (x - 1)) (by omega) (by rw [List.length_set]) hl1 _ F7.e.e.hN I7 _ _ H2.out).mono ?_; rintro e w8 ⟨rfl, hb8⟩; have F8 := F7.next hb8))
                        | (go_at_call 17; go_must (refine (works_any _).mono ?_; rintro e w9 ⟨rfl, hb9⟩; have F9 := F8.next hb9)))
                      go_ret
                      exact ⟨rfl, F9.e.e.hb⟩
end Go.Proofs.Ytohoonbbjkefaaa
