import Derived.Test.YtgemmmdcpbajoaaS0
namespace Go.Proofs.Ytgemmmdcpbajoaa
open Go.RowKit

theorem between_any (n lo hi : Int) (w : World) : Calls Try.prog 65 #[.int .i64 n, .int .i64 lo, .int .i64 hi] w fun e w' => e = .returned (.bool (inR n lo hi)) ∧ w = w' := by
  by_cases h : lo ≤ n <;> by_cases h2 : n ≤ hi
  all_goals
    have e : inR n lo hi = (decide (lo ≤ n) && decide (n ≤ hi)) := rfl
    have E := Lib.hid e
    clear e
    go_enter Try.func65, Try.ntmps65
    go_wp2
    go_ret
    exact ⟨by rw [E.out]; simp <;> omega, rfl⟩

theorem saltC_any (c : Cask) (fl : Int) (hc : c.ok) (hf : 0 ≤ fl ∧ fl ≤ 9) (w : World) : Calls Try.prog 74 #[c.enc, .int .i64 fl] w fun e w' => e = .returned (.int .i64 (saltC fl c)) ∧ Below w.heap.size w w' := by
  obtain ⟨n, p, s, d⟩ := c
  obtain ⟨hn0, hn1, hp0, hp1, hs0, hs1, hd0, hd1⟩ := hc
  simp only at hn0 hn1 hp0 hp1 hs0 hs1 hd0 hd1
  have hps : 0 ≤ p * s := Int.mul_nonneg hp0 hs0
  have hps2 : p * s ≤ 10000 * 9 := Int.mul_le_mul hp1 hs1 hs0 (by omega)
  by_cases h0 : n = 0
  · have hd : (n == 0) = true := by simpa using h0
    have H0 := Lib.hid h0
    clear h0
    go_enter Try.func74, Try.ntmps74
    go_wp2
    go_ret
    exact ⟨by simp [saltC, H0.out], (Below.refl _ _).alloc (Nat.le_refl _) _⟩
  · have hd : (n == 0) = false := by simpa using h0
    have H0 := Lib.hid h0
    clear h0
    go_enter Try.func74, Try.ntmps74
    go_wp2
    go_ret
    exact ⟨by simp [saltC, H0.out], (Below.refl _ _).alloc (Nat.le_refl _) _⟩
end Go.Proofs.Ytgemmmdcpbajoaa
