import Derived.Test.YtgemmmdcpbajoaaVK
import Derived.Test.YtgemmmdcpbajoaaVP
import Derived.Test.YtgemmmdcpbajoaaVS
namespace Go.Proofs.Ytgemmmdcpbajoaa
open Go.RowKit

/-! SaltTogether. -/
/-- The bit of a number below 256. -/
def bitB (u : Int) (i : Int) : Bool := bits BinOp.and IntKind.u8 (u / 2 ^ i.toNat) 1 == 1
set_option maxRecDepth 100000 in
set_option maxHeartbeats 4000000 in
theorem together_no (L : HL) (h : House) (A : Option Addr) (c : Nat) (l : List Int) (u : Int) (hl0 : l.length ≤ 9223372036854775807) (r a : Bool) (hr : r = false ∨ (r = true ∧ 40 < l.length) ∨ (r = true ∧ l.length ≤ 40 ∧ a = false))
    (HR : Hid (∀ W, HouseAt W W.heap.size L h → Calls Try.prog 23 #[L.enc h] W fun e w' => e = .returned (.bool r) ∧ Below W.heap.size W w'))
    (HA : Hid (l.length ≤ 40 → r = true → ∀ W, IntsAt W W.heap.size A l → Calls Try.prog 24 #[L.enc h, .slice A l.length c] W fun e w' => e = .returned (.bool a) ∧ Below W.heap.size W w')) (w : World) (hH : HouseAt w w.heap.size L h) (hI : IntsAt w w.heap.size A l) :
    Calls Try.prog 4 #[L.enc h, .slice A l.length c, .int .u8 u] w fun e w' => e = .returned (.bool true) ∧ Below w.heap.size w w' := by
  obtain ⟨W0, hW0, hM, hbw⟩ := LawN.new hH
  have HBW := Lib.hid hbw
  have HW0 := Lib.hid hW0
  have M0 := Lib.hid (LawW.new hM)
  have hc0 := hM.c
  have HI := Lib.hid hI
  clear hW0 hM hbw hH hI
  rcases hr with rfl | ⟨rfl, hl⟩ | ⟨rfl, hl, rfl⟩
  · obtain ⟨Ak, ck, Ap, cp, Ab, cb⟩ := L
    clear hl0
    go_enter Try.func4, Try.ntmps4
    go_upto_region 1 with (fail)
    have e := HW0.out
    rw [e]
    clear e
    go_wp2_with (first
      | (go_at_call 23; refine (HR.out W0 M0.out.M.H).mono ?_; rintro e w1 ⟨rfl, hb1⟩; have M1 := Lib.hid (M0.out.next hb1); clear hb1)
      | (go_at_call 16; refine (works_any w1).mono ?_; rintro e w2 ⟨rfl, hb2⟩; have M2 := Lib.hid (M1.out.next hb2); clear hb2))
    go_ret
    exact ⟨rfl, hb0to HBW.out M2.out.B⟩
  · obtain ⟨Ak, ck, Ap, cp, Ab, cb⟩ := L
    have hd : decide ((40 : Int) < (l.length : Int)) = true := decide_eq_true (by omega)
    go_enter Try.func4, Try.ntmps4
    go_upto_region 1 with (fail)
    have e := HW0.out
    rw [e]
    clear e
    go_wp2_with (first
      | (go_at_call 23; refine (HR.out W0 M0.out.M.H).mono ?_; rintro e w1 ⟨rfl, hb1⟩; have M1 := Lib.hid (M0.out.next hb1); clear hb1)
      | (go_at_call 16; refine (works_any w1).mono ?_; rintro e w2 ⟨rfl, hb2⟩; have M2 := Lib.hid (M1.out.next hb2); clear hb2))
    go_ret
    exact ⟨rfl, hb0to HBW.out M2.out.B⟩
  · obtain ⟨Ak, ck, Ap, cp, Ab, cb⟩ := L
    have HL40 := Lib.hid hl
    have hd : decide ((40 : Int) < (l.length : Int)) = false := decide_eq_false (by omega)
    go_enter Try.func4, Try.ntmps4
    go_upto_region 1 with (fail)
    have e := HW0.out
    rw [e]
    clear e
    go_wp2_with (first
      | (go_at_call 23; refine (HR.out W0 M0.out.M.H).mono ?_; rintro e w1 ⟨rfl, hb1⟩; have M1 := Lib.hid (M0.out.next hb1); have m1 := M1.out.M.c; clear hb1)
      | (go_at_call 24; refine (HA.out HL40.out (by trivial) w1 (ints_later HI.out (hb0to HBW.out M1.out.B))).mono ?_; rintro e w2 ⟨rfl, hb2⟩; have M2 := Lib.hid (M1.out.next hb2); clear hb2)
      | (go_at_call 16; refine (works_any w2).mono ?_; rintro e w3 ⟨rfl, hb3⟩; have M3 := Lib.hid (M2.out.next hb3); clear hb3))
    go_ret
    exact ⟨rfl, hb0to HBW.out M3.out.B⟩
end Go.Proofs.Ytgemmmdcpbajoaa
