import Derived.Test.YtgjpllmmpclgaaaG14
namespace Go.Proofs.Ytgjpllmmpclgaaa
open Go.RowKit

/-! LiftsHelps 14. -/
/-- What LiftsHelps keeps. -/
structure JMem (w W : World) (L : SL) (s : Sea) (z : Nat) (A : Option Addr) (c : List Int) : Prop where
  B : Below w.heap.size w W
  H : SeaAt W W.heap.size L s
  x : SBox W z L s
  i : IntsAt W W.heap.size A c
theorem JMem.next {w W W' : World} {L : SL} {s : Sea} {z : Nat} {A : Option Addr} {c : List Int} (h : JMem w W L s z A c) (hb : Below W.heap.size W W') : JMem w W' L s z A c :=
  ⟨hb0to h.B hb, h.H.below hb, h.x.of (hb.block _ h.x.lt), ints_later h.i hb⟩
theorem strong_valid {s : Sea} (hv : validS s = true) {i : Nat} {z : Int × Int} (hz : s.bs[i]? = some z) (hne : z.1 ≠ 999) : validS (strongS s i) = true := by
  have hi := (List.getElem?_eq_some_iff.1 hz).1
  have hb : ∀ x ∈ s.bs, boatOK x = true := by
    unfold validS at hv
    simp only [Bool.and_eq_true, List.all_eq_true] at hv
    exact hv.2.2.2
  have hz1 := hb z (List.mem_of_getElem? hz)
  unfold validS bigS at hv ⊢
  simp only [Bool.and_eq_true, List.all_eq_true, decide_eq_true_eq] at hv ⊢
  obtain ⟨⟨h1, h2, h3⟩, h4, h5, h6⟩ := hv
  refine ⟨⟨h1, h2, by rw [strong_len]; exact h3⟩, h4, h5, fun x hx => ?_⟩
  rcases List.mem_or_eq_of_mem_set hx with hx | rfl
  · exact hb x hx
  · rw [List.getD_eq_getElem?_getD, hz]
    unfold boatOK at hz1 ⊢
    simp only [Option.getD_some, Bool.and_eq_true, inR_true] at hz1 ⊢
    omega
theorem mem_helps {s : Sea} {i k : Nat} (hi : i < k) : (i : Int) ∈ helpsTo s k ↔ mostS s < mostS (strongS s i) := by
  unfold helpsTo
  rw [List.mem_map]
  constructor
  · rintro ⟨j, hj, e⟩
    obtain rfl : j = i := by omega
    exact of_decide_eq_true (List.mem_filter.1 hj).2
  · intro h
    exact ⟨i, List.mem_filter.2 ⟨List.mem_range.2 hi, decide_eq_true h⟩, rfl⟩
set_option maxRecDepth 100000 in
set_option maxHeartbeats 4000000 in
theorem helps_law (L : SL) (s : Sea) (hok : SLOK L s) (k : Int) (A : Option Addr) (cv : Nat) (c : List Int) (hA : A = none → cv = 0 ∧ c = []) (hcv : c.length ≤ cv) (w : World) (hH : SeaAt w w.heap.size L s) (hI : IntsAt w w.heap.size A c) :
    Calls Try.prog 14 #[L.enc s, .int .i64 k, .slice A c.length cv] w fun e w' => e = .returned (.bool true) ∧ Below w.heap.size w w' := by
  have hM : JMem w (w.alloc (.cells #[.int .i64 s.wl, .int .i64 s.wh, .slice L.Ap s.ps.length L.cp, .slice L.Ab s.bs.length L.cb] 27)) L s w.heap.size A c := ⟨al_below w _, hH.below (al_below w _), SBox.new w L s, ints_later hI (al_below w _)⟩
  obtain ⟨W0, hW0⟩ : ∃ W0, w.alloc (.cells #[.int .i64 s.wl, .int .i64 s.wh, .slice L.Ap s.ps.length L.cp, .slice L.Ab s.bs.length L.cb] 27) = W0 := ⟨_, rfl⟩
  rw [hW0] at hM
  have HW0 := Lib.hid hW0
  have M := Lib.hid hM
  obtain ⟨c0, c1, c2, c3⟩ := M.out.x.cells
  have HR := Lib.hid (fun W hW => ready_any L s W hW)
  have HA := Lib.hid hA
  clear hW0 hM hH hI hA
  cases hv : validS s
  · rw [hv] at HR
    clear hv
    as_aux_lemma =>
    obtain ⟨Ap, cp, Ab, cb⟩ := L
    go_enter Try.func14, Try.ntmps14
    go_upto_region 1 with (fail)
    have e := HW0.out
    rw [e]
    clear e
    go_wp2_with (first
      | (go_at_call 16; refine (HR.out _ M.out.H).mono ?_; rintro e wx ⟨rfl, hb⟩; have M := Lib.hid (M.out.next hb); obtain ⟨r0, r1, r2, r3⟩ := M.out.x.cells; clear hb)
      | (go_at_call 17; refine (works_any _).mono ?_; rintro e wz ⟨rfl, hb⟩; have MZ := Lib.hid (M.out.next hb); clear hb))
    go_ret
    exact ⟨rfl, MZ.out.B⟩
  · rw [hv] at HR
    have hS := SOK.ofValid hv
    have hbl := hS.bl
    have hpl := hS.pl
    have H64 := Lib.hid (fun W => rIsBoat_any L s k W (by omega))
    cases hk : inR k 0 ((s.bs.length : Int) - 1)
    · rw [hk] at H64
      clear hv hS hk
      as_aux_lemma =>
      obtain ⟨Ap, cp, Ab, cb⟩ := L
      go_enter Try.func14, Try.ntmps14
      go_upto_region 1 with (fail)
      have e := HW0.out
      rw [e]
      clear e
      go_wp2_with (first
        | (go_at_call 16; refine (HR.out _ M.out.H).mono ?_; rintro e wx ⟨rfl, hb⟩; have M := Lib.hid (M.out.next hb); obtain ⟨r0, r1, r2, r3⟩ := M.out.x.cells; clear hb)
        | (go_at_call 64; refine (H64.out _).mono ?_; rintro e wx ⟨rfl, hb⟩; have M := Lib.hid (M.out.next hb); obtain ⟨r0, r1, r2, r3⟩ := M.out.x.cells; clear hb)
        | (go_at_call 17; refine (works_any _).mono ?_; rintro e wz ⟨rfl, hb⟩; have MZ := Lib.hid (M.out.next hb); clear hb))
      go_ret
      exact ⟨rfl, MZ.out.B⟩
    · rw [hk] at H64
      have hk2 := inR_true.1 hk
      obtain ⟨i, rfl⟩ : ∃ i : Nat, k = i := ⟨k.toNat, by omega⟩
      have hi : i < s.bs.length := by omega
      obtain ⟨z, hz⟩ : ∃ z, s.bs[i]? = some z := ⟨_, List.getElem?_eq_getElem hi⟩
      have HZ := Lib.hid hz
      have hi' : (i : Int) < (s.bs.length : Int) := by omega
      obtain ⟨bb, ob, eB, blt, d1, _⟩ := M.out.H.b.at_ hz
      have DK := Lib.hid (fun W hb => (below_cell (W := W) hb d1))
      by_cases h999 : z.1 = 999
      · have hd9 : (z.1 == 999) = true := by simpa using h999
        clear hv hS hk hk2 h999 hz d1
        as_aux_lemma =>
        obtain ⟨Ap, cp, Ab, cb⟩ := L
        simp only at eB
        subst eB
        go_enter Try.func14, Try.ntmps14
        go_upto_region 1 with (fail)
        have e := HW0.out
        rw [e]
        clear e
        go_wp2_with (first
          | (go_at_call 16;  refine (HR.out _ M.out.H).mono ?_; rintro e wx ⟨rfl, hb⟩; have M := Lib.hid (M.out.next hb); obtain ⟨r0, r1, r2, r3⟩ := M.out.x.cells; have hkb := hb; have g1 := DK.out _ hb; have DK := Lib.hid (fun W (hb2 : Below wx.heap.size wx W) => below_cell hb2 g1); clear hb hkb)
          | (go_at_call 64; refine (H64.out _).mono ?_; rintro e wx ⟨rfl, hb⟩; have M := Lib.hid (M.out.next hb); obtain ⟨r0, r1, r2, r3⟩ := M.out.x.cells; have g1 := DK.out _ hb; have DK := Lib.hid (fun W (hb2 : Below wx.heap.size wx W) => below_cell hb2 g1); clear hb)
          | (go_at_call 17; refine (works_any _).mono ?_; rintro e wz ⟨rfl, hb⟩; have MZ := Lib.hid (M.out.next hb); clear hb))
        go_ret
        exact ⟨rfl, MZ.out.B⟩
      · have hd9 : (z.1 == 999) = false := by simpa using h999
        have hvs := strong_valid hv hz h999
        have H38 := Lib.hid (fun W hW => stronger_any L s hS hok i hi W hW)
        have H34 := Lib.hid (fun W hW => mostW_any L s hv W hW)
        have H34s := Lib.hid (fun L' W hW => mostW_any L' (strongS s i) hvs W hW)
        have H60 := Lib.hid (fun W hW => Helps_any L s W hW)
        have hge := (better_strong s i).most hS
        have HMG := Lib.hid (fun (q : List Int) (hq : CrewOf s.bs.length s.ps.length q) => most_ge hq)
        have H27 := Lib.hid (fun (hq : CrewOf s.bs.length s.ps.length c) W hW hI => show Calls Try.prog 27 #[L.enc s, .slice A c.length cv] W fun e w' => e = .returned (.int .i64 (liftS s c)) ∧ Below W.heap.size W w' by
          rw [← canW_crew (crewB_iff.2 hq)]
          exact canW_any L s hv c A cv HA.out (by have := hq.1; omega) W hW hI)
        have H25 := Lib.hid (fun (h : c.length ≤ 1000) W hW hI => rIsCrew_any L s hS c A cv h hcv W hW hI)
        have H65c := Lib.hid (fun (h : c.length ≤ 1000) W hI => rIn_any c h (i : Int) A cv W hI)
        have hmem := mem_helps (s := s) hi
        have hlen := helpsTo_len s s.bs.length
        rcases helps_two s with ⟨er, h1, h2, _⟩ | ⟨_, _, h2, h3⟩ | ⟨_, _, h2, h3⟩
        · rw [askS_true hv] at h2; subst h2; cases h1
        · rw [h3] at H60
          have hdn : decide (0 ≤ mostS s) = false := decide_eq_false (by omega)
          have hd0 : decide ((s.bs.length : Int) < 0) = false := decide_eq_false (by omega)
          generalize mostS s = n at H34 hdn
          generalize mostS (strongS s i) = m at H34s
          clear hv hS hk hk2 h999 hz d1 hvs hge h2 h3 hmem hlen H27 H25 H65c HMG hok
          as_aux_lemma =>
          obtain ⟨Ap, cp, Ab, cb⟩ := L
          simp only at eB
          subst eB
          go_enter Try.func14, Try.ntmps14
          go_upto_region 1 with (fail)
          have e := HW0.out
          rw [e]
          clear e
          go_wp2_with (first
            | (go_at_call 16; refine (HR.out _ M.out.H).mono ?_; rintro e wx ⟨rfl, hb⟩; have M := Lib.hid (M.out.next hb); obtain ⟨r0, r1, r2, r3⟩ := M.out.x.cells; have g1 := DK.out _ hb; have DK := Lib.hid (fun W (hb2 : Below wx.heap.size wx W) => below_cell hb2 g1); clear hb)
            | (go_at_call 64; refine (H64.out _).mono ?_; rintro e wx ⟨rfl, hb⟩; have M := Lib.hid (M.out.next hb); obtain ⟨r0, r1, r2, r3⟩ := M.out.x.cells; have g1 := DK.out _ hb; have DK := Lib.hid (fun W (hb2 : Below wx.heap.size wx W) => below_cell hb2 g1); clear hb)
            | (go_at_call 60; refine (H60.out wx M.out.H).mono ?_; rintro e wx ⟨⟨A6, k6, rfl, hI6⟩, hb⟩; have M := Lib.hid (M.out.next hb); have I6 := Lib.hid hI6; obtain ⟨r0, r1, r2, r3⟩ := M.out.x.cells; clear hb hI6)
            | (go_at_call 34; refine (H34s.out LS wx CS.out).mono ?_; rintro e wx ⟨rfl, hb⟩; have M := Lib.hid (M.out.next hb); have I6 := Lib.hid (ints_later I6.out hb); obtain ⟨r0, r1, r2, r3⟩ := M.out.x.cells; clear hb)
            | (go_at_call 34; refine (H34.out wx M.out.H).mono ?_; rintro e wx ⟨rfl, hb⟩; have M := Lib.hid (M.out.next hb); have FIRST := Lib.hid trivial; have I6 := Lib.hid (ints_later I6.out hb); obtain ⟨r0, r1, r2, r3⟩ := M.out.x.cells; clear hb)
            | (go_at_call 38; refine (H38.out wx M.out.H).mono ?_; rintro e wx ⟨⟨LS, rfl, hC⟩, hb⟩; have M := Lib.hid (M.out.next hb); have CS := Lib.hid hC.sea; have I6 := Lib.hid (ints_later I6.out hb); obtain ⟨r0, r1, r2, r3⟩ := M.out.x.cells; clear hb hC)
            | (go_at_call 20; refine (known_any _ _).mono ?_; rintro e w' ⟨rfl, rfl⟩)
            | (go_at_call 17; refine (works_any _).mono ?_; rintro e wz ⟨rfl, hb⟩; have MZ := Lib.hid (M.out.next hb); clear hb))
          go_ret
          exact ⟨rfl, MZ.out.B⟩
        · rw [h3] at H60
          have hdn : decide (0 ≤ mostS s) = true := decide_eq_true h2
          have hlen2 : decide ((s.bs.length : Int) < ((helpsTo s s.bs.length).length : Int)) = false := decide_eq_false (by omega)
          have hlen3 : decide (s.bs.length < (helpsTo s s.bs.length).length) = false := decide_eq_false (by omega)
          have H65l := Lib.hid (fun Ax cx W hI => rIn_any (helpsTo s s.bs.length) (by omega) (i : Int) Ax cx W hI)
          obtain ⟨n, hn⟩ : ∃ n, n = mostS s := ⟨_, rfl⟩
          obtain ⟨m, hm⟩ : ∃ m, m = mostS (strongS s i) := ⟨_, rfl⟩
          rw [← hn, ← hm] at hmem hge
          rw [← hn] at H34 hdn HMG
          rw [← hm] at H34s
          by_cases hnm : n < m
          · rw [decide_eq_true (hmem.2 hnm)] at H65l
            have hdm : decide (n < m) = true := decide_eq_true hnm
            have hem : (m == n) = false := beq_eq_false_iff_ne.2 (by omega)
            generalize helpsTo s s.bs.length = hs at H60 H65l hlen2 hlen3
            clear hS hk hk2 h999 hz d1 hvs hge h2 h3 hmem hlen hn hm hok
            by_cases h40 : 40 < c.length
            · have hd : decide ((40 : Int) < (c.length : Int)) = true := decide_eq_true (by omega)
              clear h40 hv hnm H27 H25 H65c HMG
              as_aux_lemma =>
              obtain ⟨Ap, cp, Ab, cb⟩ := L
              simp only at eB
              subst eB
              go_enter Try.func14, Try.ntmps14
              go_upto_region 1 with (fail)
              have e := HW0.out
              rw [e]
              clear e
              go_wp2_with (first
                | (go_at_call 16; refine (HR.out _ M.out.H).mono ?_; rintro e wx ⟨rfl, hb⟩; have M := Lib.hid (M.out.next hb); obtain ⟨r0, r1, r2, r3⟩ := M.out.x.cells; have g1 := DK.out _ hb; have DK := Lib.hid (fun W (hb2 : Below wx.heap.size wx W) => below_cell hb2 g1); clear hb)
                | (go_at_call 64; refine (H64.out _).mono ?_; rintro e wx ⟨rfl, hb⟩; have M := Lib.hid (M.out.next hb); obtain ⟨r0, r1, r2, r3⟩ := M.out.x.cells; have g1 := DK.out _ hb; have DK := Lib.hid (fun W (hb2 : Below wx.heap.size wx W) => below_cell hb2 g1); clear hb)
                | (go_at_call 60; refine (H60.out wx M.out.H).mono ?_; rintro e wx ⟨⟨A6, k6, rfl, hI6⟩, hb⟩; have M := Lib.hid (M.out.next hb); have I6 := Lib.hid hI6; obtain ⟨r0, r1, r2, r3⟩ := M.out.x.cells; clear hb hI6)
                | (go_at_call 34; refine (H34s.out LS wx CS.out).mono ?_; rintro e wx ⟨rfl, hb⟩; have M := Lib.hid (M.out.next hb); have I6 := Lib.hid (ints_later I6.out hb); obtain ⟨r0, r1, r2, r3⟩ := M.out.x.cells; clear hb)
                | (go_at_call 34; refine (H34.out wx M.out.H).mono ?_; rintro e wx ⟨rfl, hb⟩; have M := Lib.hid (M.out.next hb); have FIRST := Lib.hid trivial; have I6 := Lib.hid (ints_later I6.out hb); obtain ⟨r0, r1, r2, r3⟩ := M.out.x.cells; clear hb)
                | (go_at_call 38; refine (H38.out wx M.out.H).mono ?_; rintro e wx ⟨⟨LS, rfl, hC⟩, hb⟩; have M := Lib.hid (M.out.next hb); have CS := Lib.hid hC.sea; have I6 := Lib.hid (ints_later I6.out hb); obtain ⟨r0, r1, r2, r3⟩ := M.out.x.cells; clear hb hC)
                | (go_at_call 20; refine (known_any _ _).mono ?_; rintro e w' ⟨rfl, rfl⟩)
                | (go_at_call 65; refine (H65l.out A6 k6 wx I6.out).mono ?_; rintro e wx ⟨rfl, hb⟩; have M := Lib.hid (M.out.next hb); have DONE := Lib.hid trivial; obtain ⟨r0, r1, r2, r3⟩ := M.out.x.cells; clear hb)
                | (go_at_call 17; refine (works_any _).mono ?_; rintro e wz ⟨rfl, hb⟩; have MZ := Lib.hid (M.out.next hb); clear hb))
              go_ret
              exact ⟨rfl, MZ.out.B⟩
            · have hd : decide ((40 : Int) < (c.length : Int)) = false := decide_eq_false (by omega)
              have H25 := Lib.hid (H25.out (by omega))
              have H65c := Lib.hid (H65c.out (by omega))
              cases hcb : crewB s c
              · rw [hcb] at H25
                clear h40 hv hnm H27 H65c HMG hcb
                as_aux_lemma =>
                obtain ⟨Ap, cp, Ab, cb⟩ := L
                simp only at eB
                subst eB
                go_enter Try.func14, Try.ntmps14
                go_upto_region 1 with (fail)
                have e := HW0.out
                rw [e]
                clear e
                go_wp2_with (first
                  | (go_at_call 16; refine (HR.out _ M.out.H).mono ?_; rintro e wx ⟨rfl, hb⟩; have M := Lib.hid (M.out.next hb); obtain ⟨r0, r1, r2, r3⟩ := M.out.x.cells; have g1 := DK.out _ hb; have DK := Lib.hid (fun W (hb2 : Below wx.heap.size wx W) => below_cell hb2 g1); clear hb)
                  | (go_at_call 64; refine (H64.out _).mono ?_; rintro e wx ⟨rfl, hb⟩; have M := Lib.hid (M.out.next hb); obtain ⟨r0, r1, r2, r3⟩ := M.out.x.cells; have g1 := DK.out _ hb; have DK := Lib.hid (fun W (hb2 : Below wx.heap.size wx W) => below_cell hb2 g1); clear hb)
                  | (go_at_call 60; refine (H60.out wx M.out.H).mono ?_; rintro e wx ⟨⟨A6, k6, rfl, hI6⟩, hb⟩; have M := Lib.hid (M.out.next hb); have I6 := Lib.hid hI6; obtain ⟨r0, r1, r2, r3⟩ := M.out.x.cells; clear hb hI6)
                  | (go_at_call 34; refine (H34s.out LS wx CS.out).mono ?_; rintro e wx ⟨rfl, hb⟩; have M := Lib.hid (M.out.next hb); have I6 := Lib.hid (ints_later I6.out hb); obtain ⟨r0, r1, r2, r3⟩ := M.out.x.cells; clear hb)
                  | (go_at_call 34; refine (H34.out wx M.out.H).mono ?_; rintro e wx ⟨rfl, hb⟩; have M := Lib.hid (M.out.next hb); have FIRST := Lib.hid trivial; have I6 := Lib.hid (ints_later I6.out hb); obtain ⟨r0, r1, r2, r3⟩ := M.out.x.cells; clear hb)
                  | (go_at_call 38; refine (H38.out wx M.out.H).mono ?_; rintro e wx ⟨⟨LS, rfl, hC⟩, hb⟩; have M := Lib.hid (M.out.next hb); have CS := Lib.hid hC.sea; have I6 := Lib.hid (ints_later I6.out hb); obtain ⟨r0, r1, r2, r3⟩ := M.out.x.cells; clear hb hC)
                  | (go_at_call 20; refine (known_any _ _).mono ?_; rintro e w' ⟨rfl, rfl⟩)
                  | (go_at_call 65; refine (H65l.out A6 k6 wx I6.out).mono ?_; rintro e wx ⟨rfl, hb⟩; have M := Lib.hid (M.out.next hb); have DONE := Lib.hid trivial; obtain ⟨r0, r1, r2, r3⟩ := M.out.x.cells; clear hb)
                  | (go_at_call 25; refine (H25.out wx M.out.H M.out.i).mono ?_; rintro e wx ⟨rfl, hb⟩; have M := Lib.hid (M.out.next hb); obtain ⟨r0, r1, r2, r3⟩ := M.out.x.cells; clear hb)
                  | (go_at_call 17; refine (works_any _).mono ?_; rintro e wz ⟨rfl, hb⟩; have MZ := Lib.hid (M.out.next hb); clear hb))
                go_ret
                exact ⟨rfl, MZ.out.B⟩
              · rw [hcb] at H25
                have hcr := crewB_iff.1 hcb
                have H27 := Lib.hid (H27.out hcr)
                have hlt : liftS s c < m := by have := HMG.out c hcr; omega
                by_cases hin : (i : Int) ∈ c
                · rw [decide_eq_true hin] at H65c
                  clear h40 hv hnm H27 HMG hcb hcr hlt hin
                  as_aux_lemma =>
                  obtain ⟨Ap, cp, Ab, cb⟩ := L
                  simp only at eB
                  subst eB
                  go_enter Try.func14, Try.ntmps14
                  go_upto_region 1 with (fail)
                  have e := HW0.out
                  rw [e]
                  clear e
                  go_wp2_with (first
                    | (go_at_call 16; refine (HR.out _ M.out.H).mono ?_; rintro e wx ⟨rfl, hb⟩; have M := Lib.hid (M.out.next hb); obtain ⟨r0, r1, r2, r3⟩ := M.out.x.cells; have g1 := DK.out _ hb; have DK := Lib.hid (fun W (hb2 : Below wx.heap.size wx W) => below_cell hb2 g1); clear hb)
                    | (go_at_call 64; refine (H64.out _).mono ?_; rintro e wx ⟨rfl, hb⟩; have M := Lib.hid (M.out.next hb); obtain ⟨r0, r1, r2, r3⟩ := M.out.x.cells; have g1 := DK.out _ hb; have DK := Lib.hid (fun W (hb2 : Below wx.heap.size wx W) => below_cell hb2 g1); clear hb)
                    | (go_at_call 60; refine (H60.out wx M.out.H).mono ?_; rintro e wx ⟨⟨A6, k6, rfl, hI6⟩, hb⟩; have M := Lib.hid (M.out.next hb); have I6 := Lib.hid hI6; obtain ⟨r0, r1, r2, r3⟩ := M.out.x.cells; clear hb hI6)
                    | (go_at_call 34; refine (H34s.out LS wx CS.out).mono ?_; rintro e wx ⟨rfl, hb⟩; have M := Lib.hid (M.out.next hb); have I6 := Lib.hid (ints_later I6.out hb); obtain ⟨r0, r1, r2, r3⟩ := M.out.x.cells; clear hb)
                    | (go_at_call 34; refine (H34.out wx M.out.H).mono ?_; rintro e wx ⟨rfl, hb⟩; have M := Lib.hid (M.out.next hb); have FIRST := Lib.hid trivial; have I6 := Lib.hid (ints_later I6.out hb); obtain ⟨r0, r1, r2, r3⟩ := M.out.x.cells; clear hb)
                    | (go_at_call 38; refine (H38.out wx M.out.H).mono ?_; rintro e wx ⟨⟨LS, rfl, hC⟩, hb⟩; have M := Lib.hid (M.out.next hb); have CS := Lib.hid hC.sea; have I6 := Lib.hid (ints_later I6.out hb); obtain ⟨r0, r1, r2, r3⟩ := M.out.x.cells; clear hb hC)
                    | (go_at_call 20; refine (known_any _ _).mono ?_; rintro e w' ⟨rfl, rfl⟩)
                    | (go_at_call 65; have _d := DONE; refine (H65c.out wx M.out.i).mono ?_; rintro e wx ⟨rfl, hb⟩; have M := Lib.hid (M.out.next hb); obtain ⟨r0, r1, r2, r3⟩ := M.out.x.cells; clear hb)
                    | (go_at_call 65; refine (H65l.out A6 k6 wx I6.out).mono ?_; rintro e wx ⟨rfl, hb⟩; have M := Lib.hid (M.out.next hb); have DONE := Lib.hid trivial; obtain ⟨r0, r1, r2, r3⟩ := M.out.x.cells; clear hb)
                    | (go_at_call 25; refine (H25.out wx M.out.H M.out.i).mono ?_; rintro e wx ⟨rfl, hb⟩; have M := Lib.hid (M.out.next hb); obtain ⟨r0, r1, r2, r3⟩ := M.out.x.cells; clear hb)
                    | (go_at_call 17; refine (works_any _).mono ?_; rintro e wz ⟨rfl, hb⟩; have MZ := Lib.hid (M.out.next hb); clear hb))
                  go_ret
                  exact ⟨rfl, MZ.out.B⟩
                · rw [decide_eq_false hin] at H65c
                  generalize liftS s c = o at H27 hlt
                  have hdo : decide (o < m) = true := decide_eq_true hlt
                  clear h40 hv hnm HMG hcb hcr hlt hin
                  as_aux_lemma =>
                  obtain ⟨Ap, cp, Ab, cb⟩ := L
                  simp only at eB
                  subst eB
                  go_enter Try.func14, Try.ntmps14
                  go_upto_region 1 with (fail)
                  have e := HW0.out
                  rw [e]
                  clear e
                  go_wp2_with (first
                    | (go_at_call 16; refine (HR.out _ M.out.H).mono ?_; rintro e wx ⟨rfl, hb⟩; have M := Lib.hid (M.out.next hb); obtain ⟨r0, r1, r2, r3⟩ := M.out.x.cells; have g1 := DK.out _ hb; have DK := Lib.hid (fun W (hb2 : Below wx.heap.size wx W) => below_cell hb2 g1); clear hb)
                    | (go_at_call 64; refine (H64.out _).mono ?_; rintro e wx ⟨rfl, hb⟩; have M := Lib.hid (M.out.next hb); obtain ⟨r0, r1, r2, r3⟩ := M.out.x.cells; have g1 := DK.out _ hb; have DK := Lib.hid (fun W (hb2 : Below wx.heap.size wx W) => below_cell hb2 g1); clear hb)
                    | (go_at_call 60; refine (H60.out wx M.out.H).mono ?_; rintro e wx ⟨⟨A6, k6, rfl, hI6⟩, hb⟩; have M := Lib.hid (M.out.next hb); have I6 := Lib.hid hI6; obtain ⟨r0, r1, r2, r3⟩ := M.out.x.cells; clear hb hI6)
                    | (go_at_call 34; refine (H34s.out LS wx CS.out).mono ?_; rintro e wx ⟨rfl, hb⟩; have M := Lib.hid (M.out.next hb); have I6 := Lib.hid (ints_later I6.out hb); obtain ⟨r0, r1, r2, r3⟩ := M.out.x.cells; clear hb)
                    | (go_at_call 34; refine (H34.out wx M.out.H).mono ?_; rintro e wx ⟨rfl, hb⟩; have M := Lib.hid (M.out.next hb); have FIRST := Lib.hid trivial; have I6 := Lib.hid (ints_later I6.out hb); obtain ⟨r0, r1, r2, r3⟩ := M.out.x.cells; clear hb)
                    | (go_at_call 38; refine (H38.out wx M.out.H).mono ?_; rintro e wx ⟨⟨LS, rfl, hC⟩, hb⟩; have M := Lib.hid (M.out.next hb); have CS := Lib.hid hC.sea; have I6 := Lib.hid (ints_later I6.out hb); obtain ⟨r0, r1, r2, r3⟩ := M.out.x.cells; clear hb hC)
                    | (go_at_call 20; refine (known_any _ _).mono ?_; rintro e w' ⟨rfl, rfl⟩)
                    | (go_at_call 65; have _d := DONE; refine (H65c.out wx M.out.i).mono ?_; rintro e wx ⟨rfl, hb⟩; have M := Lib.hid (M.out.next hb); obtain ⟨r0, r1, r2, r3⟩ := M.out.x.cells; clear hb)
                    | (go_at_call 65; refine (H65l.out A6 k6 wx I6.out).mono ?_; rintro e wx ⟨rfl, hb⟩; have M := Lib.hid (M.out.next hb); have DONE := Lib.hid trivial; obtain ⟨r0, r1, r2, r3⟩ := M.out.x.cells; clear hb)
                    | (go_at_call 25; refine (H25.out wx M.out.H M.out.i).mono ?_; rintro e wx ⟨rfl, hb⟩; have M := Lib.hid (M.out.next hb); obtain ⟨r0, r1, r2, r3⟩ := M.out.x.cells; clear hb)
                    | (go_at_call 27; refine (H27.out wx M.out.H M.out.i).mono ?_; rintro e wx ⟨rfl, hb⟩; have M := Lib.hid (M.out.next hb); obtain ⟨r0, r1, r2, r3⟩ := M.out.x.cells; clear hb)
                    | (go_at_call 17; refine (works_any _).mono ?_; rintro e wz ⟨rfl, hb⟩; have MZ := Lib.hid (M.out.next hb); clear hb))
                  go_ret
                  exact ⟨rfl, MZ.out.B⟩
          · rw [decide_eq_false (fun h => hnm (hmem.1 h))] at H65l
            have hdm : decide (n < m) = false := decide_eq_false hnm
            have hem : (m == n) = true := by simp; omega
            generalize helpsTo s s.bs.length = hs at H60 H65l hlen2 hlen3
            clear hS hk hk2 h999 hz d1 hvs hge h2 h3 hmem hlen hn hm hok hnm hv H27 H25 H65c HMG
            as_aux_lemma =>
            obtain ⟨Ap, cp, Ab, cb⟩ := L
            simp only at eB
            subst eB
            go_enter Try.func14, Try.ntmps14
            go_upto_region 1 with (fail)
            have e := HW0.out
            rw [e]
            clear e
            go_wp2_with (first
              | (go_at_call 16; refine (HR.out _ M.out.H).mono ?_; rintro e wx ⟨rfl, hb⟩; have M := Lib.hid (M.out.next hb); obtain ⟨r0, r1, r2, r3⟩ := M.out.x.cells; have g1 := DK.out _ hb; have DK := Lib.hid (fun W (hb2 : Below wx.heap.size wx W) => below_cell hb2 g1); clear hb)
              | (go_at_call 64; refine (H64.out _).mono ?_; rintro e wx ⟨rfl, hb⟩; have M := Lib.hid (M.out.next hb); obtain ⟨r0, r1, r2, r3⟩ := M.out.x.cells; have g1 := DK.out _ hb; have DK := Lib.hid (fun W (hb2 : Below wx.heap.size wx W) => below_cell hb2 g1); clear hb)
              | (go_at_call 60; refine (H60.out wx M.out.H).mono ?_; rintro e wx ⟨⟨A6, k6, rfl, hI6⟩, hb⟩; have M := Lib.hid (M.out.next hb); have I6 := Lib.hid hI6; obtain ⟨r0, r1, r2, r3⟩ := M.out.x.cells; clear hb hI6)
              | (go_at_call 34; refine (H34s.out LS wx CS.out).mono ?_; rintro e wx ⟨rfl, hb⟩; have M := Lib.hid (M.out.next hb); have I6 := Lib.hid (ints_later I6.out hb); obtain ⟨r0, r1, r2, r3⟩ := M.out.x.cells; clear hb)
              | (go_at_call 34; refine (H34.out wx M.out.H).mono ?_; rintro e wx ⟨rfl, hb⟩; have M := Lib.hid (M.out.next hb); have FIRST := Lib.hid trivial; have I6 := Lib.hid (ints_later I6.out hb); obtain ⟨r0, r1, r2, r3⟩ := M.out.x.cells; clear hb)
              | (go_at_call 38; refine (H38.out wx M.out.H).mono ?_; rintro e wx ⟨⟨LS, rfl, hC⟩, hb⟩; have M := Lib.hid (M.out.next hb); have CS := Lib.hid hC.sea; have I6 := Lib.hid (ints_later I6.out hb); obtain ⟨r0, r1, r2, r3⟩ := M.out.x.cells; clear hb hC)
              | (go_at_call 20; refine (known_any _ _).mono ?_; rintro e w' ⟨rfl, rfl⟩)
              | (go_at_call 65; refine (H65l.out A6 k6 wx I6.out).mono ?_; rintro e wx ⟨rfl, hb⟩; have M := Lib.hid (M.out.next hb); have DONE := Lib.hid trivial; obtain ⟨r0, r1, r2, r3⟩ := M.out.x.cells; clear hb)
              | (go_at_call 17; refine (works_any _).mono ?_; rintro e wz ⟨rfl, hb⟩; have MZ := Lib.hid (M.out.next hb); clear hb))
            go_ret
            exact ⟨rfl, MZ.out.B⟩
end Go.Proofs.Ytgjpllmmpclgaaa
