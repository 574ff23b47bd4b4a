import Derived.Test.YtohoonbbjkefaaaN5
import Derived.Test.YtohoonbbjkefaaaN7
import Derived.Deep.RegionHeld3
import Derived.Deep.DeepCutAuto
namespace Go.Proofs.Ytohoonbbjkefaaa
open Go.RowKit

/-- What a node keeps and what the first j nodes below it get, together. -/
def onceTo (ns : List Node) (P : Int) (k j : Nat) : Int := keptS ns P k + (((kidsN ns k).map (gotS ns P)).take j).sum
theorem onceTo_zero (ns : List Node) (P : Int) (k : Nat) : onceTo ns P k 0 = keptS ns P k := by simp [onceTo]
theorem onceTo_succ {ns : List Node} {P : Int} {k j x : Nat} (hx : (kidsN ns k)[j]? = some x) : onceTo ns P k (j + 1) = onceTo ns P k j + gotS ns P x := by
  unfold onceTo
  rw [take_sum_step (x := gotS ns P x) (by rw [List.getElem?_map, hx]; rfl)]
  omega
theorem onceTo_bd {ns : List Node} (h : GoodC ns) {P : Int} (hP : 0 ≤ P) {k : Nat} (hk : k < ns.length) (j : Nat) : 0 ≤ onceTo ns P k j ∧ onceTo ns P k j ≤ P := by
  obtain ⟨h1, h2, _⟩ := kept_once h hP hk
  have h3 := take_sum_bd _ (gots_nonneg h hP k) j
  have h4 := gotS_bd h hP k hk
  unfold onceTo
  omega
theorem onceTo_end {ns : List Node} (h : GoodC ns) {P : Int} (hP : 0 ≤ P) {k : Nat} (hk : k < ns.length) : onceTo ns P k (kidsN ns k).length = gotS ns P k := by
  have h1 := (kept_once h hP hk).1
  unfold onceTo
  rw [show (kidsN ns k).length = ((kidsN ns k).map (gotS ns P)).length by simp, List.take_length]
  omega
theorem split_once (A : Option Addr) (c : Nat) {ns : List Node} (hv : validB ns = true) {P : Int} (hP : 0 ≤ P ∧ P ≤ 400) {k : Nat} (hk : k < ns.length) {g q : Int} (hg : gotS ns P k = g) (hq : keptS ns P k = q) (w : World) (hN : Nodes w w.heap.size A ns) :
    Calls Try.prog 33 #[.agg #[.slice A ns.length c], .int .i64 k, .int .i64 g] w fun e w' => ∃ B d, e = .returned (.tuple #[.slice B (kidsN ns k).length d, .int .i64 q, .int .i64 0]) ∧ IntsAt w' w'.heap.size B ((kidsN ns k).map (gotS ns P)) ∧ Below w.heap.size w w' := by
  have h8 := validB_len hv
  have hgd := good_of hv
  have hb := gotS_bd hgd hP.1 k hk
  have := split_ok A c ns k g (by omega) w hN (splitE_good hv hk (inR_true.2 (by omega)))
  rw [← hg, split_got hgd, hg] at this
  have e : (splitL g (kidL ns k)).2 = q := by rw [← hq, ← hg]; rfl
  rw [e] at this
  exact this
/-- The law's memory: the custom, what each gets and keeps. -/
structure EnvO (w : World) (A : Option Addr) (c : Nat) (ns : List Node) (bg : Nat) (l : List Int) (bk : Nat) (k : List Int) (W : World) : Prop where
  e : Env w A c ns W
  g : Row W bg l
  k : Row W bk k
theorem EnvO.next {w : World} {A : Option Addr} {c : Nat} {ns : List Node} {bg : Nat} {l : List Int} {bk : Nat} {k : List Int} {W W' : World} (h : EnvO w A c ns bg l bk k W) (hb : Below W.heap.size W W') : EnvO w A c ns bg l bk k W' :=
  ⟨h.e.next hb, Row.below h.g hb (Row.lt h.g), Row.below h.k hb (Row.lt h.k)⟩

set_option maxRecDepth 100000 in
set_option maxHeartbeats 4000000 in
theorem once_law (A : Option Addr) (c : Nat) (ns : List Node) (hn : ns.length ≤ 9223372036854775807) (P : Int) (w : World) (hN : Nodes w w.heap.size A ns) :
    Calls Try.prog 13 #[.agg #[.slice A ns.length c], .int .i64 P] w fun e w' => e = .returned (.bool true) ∧ Below w.heap.size w w' := by
  obtain ⟨W0, hW0⟩ : ∃ W0, w.alloc (.cells #[.slice A ns.length c] 24) = W0 := ⟨_, rfl⟩
  have E0 : Env w A c ns W0 := by rw [← hW0]; exact Env.new c hN
  have q0 := E0.bC.cell
  clear hN
  cases hv : validB ns
  · have HR := Lib.hid (ready_is A c ns hn W0 E0.hN false hv)
    clear hv
    go_enter Try.func13, Try.ntmps13
    go_wp2_with (first
      | (go_at_call 26; go_must (refine HR.out.mono ?_; rintro e w1 ⟨rfl, hb1⟩; have E1 := E0.next hb1))
      | (go_at_call 17; go_must (refine (works_any w1).mono ?_; rintro e w2 ⟨rfl, hb2⟩; have E2 := E1.next hb2)))
    go_ret
    exact ⟨rfl, E2.hb⟩
  · have HR := Lib.hid (ready_is A c ns hn W0 E0.hN true hv)
    have hn8 := validB_len hv
    cases hp : inR P 0 400
    · have HP := Lib.hid hp
      clear hv hp
      go_enter Try.func13, Try.ntmps13
      go_wp2_with (first
        | (go_at_call 26; go_must (refine HR.out.mono ?_; rintro e w1 ⟨rfl, hb1⟩; have E1 := E0.next hb1; have m0 := E1.bC.cell))
        | (go_at_call 32; go_must (refine (refIsPence_is _ _ _ HP.out).mono ?_; rintro e w' ⟨rfl, rfl⟩))
        | (go_at_call 17; go_must (refine (works_any w1).mono ?_; rintro e w3 ⟨rfl, hb3⟩; have E3 := E1.next hb3)))
      go_ret
      exact ⟨rfl, E3.hb⟩
    · have hg := good_of hv
      have hpc := inR_true.1 hp
      have HP := Lib.hid hp
      have HZ := Lib.hid (penceE_of hv hpc)
      have HV := Lib.hid hv
      have h1 := hg.l1
      clear hv hp
      go_enter Try.func13, Try.ntmps13
      go_wp2_with (first
        | (go_at_call 26; go_must (refine HR.out.mono ?_; rintro e w1 ⟨rfl, hb1⟩; have E1 := E0.next hb1; have m0 := E1.bC.cell))
        | (go_at_call 32; go_must (refine (refIsPence_is _ _ _ HP.out).mono ?_; rintro e w' ⟨rfl, rfl⟩))
        | (go_at_call 35; go_must (refine (lawGets_ok A c ns P (by omega) w1 E1.hN HZ.out).mono ?_; rintro e w2 ⟨bg, rfl, hr2, hb2⟩; have E2 := E1.next hb2; have m2 := E2.bC.cell))
        | (go_at_call 50; go_must (refine (keepsAll_ok A c ns P (by omega) w2 E2.hN HZ.out).mono ?_; rintro e w3 ⟨bk, rfl, _, hr3, hb3⟩; have O3 : EnvO w A c ns bg (gotsS ns P) bk (keptsS ns P) w3 := ⟨E2.next hb3, Row.below hr2 hb3 (Row.lt hr2), hr3⟩; have m3 := O3.e.bC.cell)))
      have O3H := Lib.hid O3
      clear q0 m0 m2 m3 hr2 hr3 O3 E1 E2 hb1 hb2 hb3
      go_loopw [9, 10] (fun sm i wr => ∃ k : Nat, k ≤ ns.length ∧ sm = .int .i64 (keptSum ns P k) ∧ i = .int .i64 k ∧ Below w3.heap.size w3 wr) (fun _ i _ => ns.length - (intOf i).toNat)
      case atStart => exact ⟨0, Nat.zero_le _, rfl, rfl, Below.refl _ _⟩
      case round =>
        obtain ⟨k, hk, hsm, rfl, hb⟩ := hrel
        have Or := O3H.out.next hb
        by_cases hlt : k < ns.length
        · obtain ⟨g, hgg⟩ : ∃ g, gotS ns P k = g := ⟨_, rfl⟩
          obtain ⟨q, hqq⟩ : ∃ q, keptS ns P k = q := ⟨_, rfl⟩
          obtain ⟨sm0, hs0⟩ : ∃ s, keptSum ns P k = s := ⟨_, rfl⟩
          have hgb := gotS_bd hg hpc.1 k hlt
          have hqb := (kept_once hg hpc.1 hlt).2
          have hsb := keptSum_bd hg hpc.1 (Nat.le_of_lt hlt)
          have hsb1 := keptSum_bd hg hpc.1 (show k + 1 ≤ ns.length by omega)
          have hsucc := keptSum_succ ns P k
          rw [hgg] at hgb
          rw [hqq] at hqb
          rw [hs0] at hsb hsm
          rw [hs0, hqq] at hsucc
          rw [hsucc] at hsb1
          subst hsm
          have HSP := Lib.hid (fun W h => split_once A c HV.out hpc hlt hgg hqq W h)
          have HGG := Lib.hid hgg
          have HQQ := Lib.hid hqq
          have HSU := Lib.hid hsucc
          have mc := Or.e.bC.cell
          have mg := Row.cell Or.g (k := k) (by rw [gotsS_len]; exact hlt)
          rw [gotsS_at hlt, hgg] at mg
          clear hgg hqq hs0 hsucc
          go_wp2
          go_region_held3 (fun w' => w'.cell? ⟨w.heap.size, 0, none⟩ = some (.slice A ns.length c) ∧ w'.cell? ⟨bg, k, none⟩ = some (.int .i64 g)) (first | go_keep)
            (first
              | (go_at_call 33; refine (HSP.out _ (Nodes.lt Or.e.hN (drew_below wr))).mono ?_; rintro e w5 ⟨B, d, rfl, hI, hb5⟩; have hbw : Below wr.heap.size wr w5 := hb0to (drew_below wr) hb5; have mc5 := below_cell hbw mc; have mg5 := below_cell hbw mg))
          have O5 := Or.next hbw
          have hk5 := kidsN_len hg k
          go_wp2_with (go_at_call 29; go_must (refine (below_any A c ns k (by omega) h1 w5 O5.e.hN).mono ?_; rintro e w6 ⟨D, d2, rfl, hD, hb6⟩; have O6 := O5.next hb6; have I6 := ilt hI hb6; have mk := Row.cell O6.k (k := k) (by rw [keptsS_len]; exact hlt); rw [keptsS_at hlt, HQQ.out] at mk))
          have O6H := Lib.hid O6
          have I6H := Lib.hid I6
          have DH := Lib.hid hD
          clear hI hD I6 O5 mc5 mg5 mc mg mk
          go_loopw [15, 16] (fun al i wq => ∃ j : Nat, j ≤ (kidsN ns k).length ∧ al = .int .i64 (onceTo ns P k j) ∧ i = .int .i64 j ∧ Below w6.heap.size w6 wq) (fun _ i _ => (kidsN ns k).length - (intOf i).toNat)
          case atStart => exact ⟨0, Nat.zero_le _, by rw [onceTo_zero, HQQ.out], rfl, Below.refl _ _⟩
          case round =>
            obtain ⟨j, hj, hal, rfl, hb7⟩ := hrel
            have O7 := O6H.out.next hb7
            have I7 := ilt I6H.out hb7
            have D7 := ilt DH.out hb7
            by_cases hlj : j < (kidsN ns k).length
            · obtain ⟨x, hx, hxl, _, _, hxi⟩ := kid_at hlj
              obtain ⟨v, hvv⟩ : ∃ v, gotS ns P x = v := ⟨_, rfl⟩
              obtain ⟨a, ha⟩ : ∃ a, onceTo ns P k j = a := ⟨_, rfl⟩
              have hst := onceTo_succ (P := P) hx
              have hvb := gotS_bd hg hpc.1 x hxl
              have hab := onceTo_bd hg hpc.1 hlt j
              have hab1 := onceTo_bd hg hpc.1 hlt (j + 1)
              rw [hst] at hab1
              rw [hvv] at hvb
              rw [ha] at hab hal
              rw [ha, hvv] at hst hab1
              subst hal
              obtain ⟨b, off, rfl, _, hcx⟩ := IntsAt.at_ D7 hxi
              obtain ⟨b2, off2, rfl, _, hcv⟩ := IntsAt.at_ I7 (k := j) (x := v) (by rw [List.getElem?_map, hx]; simp [hvv])
              have mg := Row.cell O7.g (k := x) (by rw [gotsS_len]; exact hxl)
              rw [gotsS_at hxl, hvv] at mg
              have e1 := extB_cell hcx
              have e2 := extB_cell hcv
              have e3 := extB_cell mg
              have HST := Lib.hid hst
              have gq : (v != v) = false := by simp
              clear hcx hcv mg hst hx hxi hvv ha
              go_wp2
              refine wp_region_ext (by kernel_rfl) (by kernel_rfl) ?_
              repeat (go_big_quiet_step (fail))
              refine wpQuiet_nil ?_
              rintro _ ⟨x1, rfl⟩
              have hb8 := hb0to hb7 (extB_below _ x1)
              have e4 := e2 x1
              go_wp2
              go_roundw
              case rel => first | exact ⟨j + 1, by omega, by rw [HST.out], by go_num, hb8⟩ | ((repeat apply Exists.intro); exact ⟨⟨j + 1, by omega, by rw [HST.out], by go_num, hb8⟩, rfl⟩)
              case measure => simp [intOf]; omega
            · obtain rfl : j = (kidsN ns k).length := by omega
              rw [onceTo_end hg hpc.1 hlt, HGG.out] at hal
              subst hal
              have mg := Row.cell O7.g (k := k) (by rw [gotsS_len]; exact hlt)
              rw [gotsS_at hlt, HGG.out] at mg
              have mk := Row.cell O7.k (k := k) (by rw [keptsS_len]; exact hlt)
              rw [keptsS_at hlt, HQQ.out] at mk
              have hb8 := hb0to (hb0to hb (hb0to hbw hb6)) hb7
              go_wp2
              go_roundw
              case rel => first | exact ⟨k + 1, by omega, by rw [HSU.out], by go_num, hb8⟩ | ((repeat apply Exists.intro); exact ⟨⟨k + 1, by omega, by rw [HSU.out], by go_num, hb8⟩, rfl⟩)
              case measure => simp [intOf]; omega
        · obtain rfl : k = ns.length := by omega
          rw [keptSum_all hg hpc.1] at hsm
          subst hsm
          have mg := Row.cell Or.g (k := 0) (by rw [gotsS_len]; omega)
          rw [gotsS_at h1, gotS_zero] at mg
          go_wp2_with (go_at_call 17; go_must (refine (works_any _).mono ?_; rintro e w6 ⟨rfl, hb6⟩; have O6 := Or.next hb6))
          go_ret
          exact ⟨rfl, O6.e.hb⟩
end Go.Proofs.Ytohoonbbjkefaaa
