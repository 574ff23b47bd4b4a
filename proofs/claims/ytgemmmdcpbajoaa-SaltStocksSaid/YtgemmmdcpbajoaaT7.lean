import Derived.Deep.RegionHeld3
import Derived.Deep.QuietTactic
import Derived.Test.YtgemmmdcpbajoaaL4
import Derived.Test.YtgemmmdcpbajoaaT6
namespace Go.Proofs.Ytgemmmdcpbajoaa
open Go.RowKit

theorem drew_below (w : World) : Below w.heap.size w w.drew := (Below.refl _ _).drew
theorem hb0to {w w1 w2 : World} (h : Below w.heap.size w w1) (k : Below w1.heap.size w1 w2) : Below w.heap.size w w2 := h.trans (k.mono h.size)
/-- What Pack returns. -/
def PackRet (h : House) (f : List Cask → Int) (B : Nat) (w' : World) (e : Ending) : Prop :=
  ∃ A n c, e = .returned (.tuple #[.slice A n c, .int .i64 (numRet h true f).2]) ∧ ((numRet h true f).2 ≠ 0 → A = none ∧ n = 0 ∧ c = 0) ∧
    ∀ p m, validH h = true → bestOf (fun p => f (packedC h p)) (packsL h) = some (p, m) → ∃ pb, A = some ⟨pb, 0, none⟩ ∧ n = p.length ∧ c = p.length ∧ PackAt w' pb p ∧ B ≤ pb
set_option maxRecDepth 100000 in
set_option maxHeartbeats 4000000 in
theorem pack_any (L : HL) (h : House) (hn : h.ks.length ≤ 1000 ∧ h.ps.length ≤ 1000 ∧ h.bs.length ≤ 1000) (w : World) (hH : HouseAt w w.heap.size L h) :
    Calls Try.prog 38 #[L.enc h] w fun e w' => PackRet h (fun l => sumC (saltC h.fl) l 5) w.heap.size w' e ∧ Below w.heap.size w w' := by
  have hX := HBox.new w L h
  have hb0 : Below w.heap.size w (w.alloc (.cells #[.slice L.Ak h.ks.length L.ck, .int .i64 h.fl, .slice L.Ap h.ps.length L.cp, .slice L.Ab h.bs.length L.cb] 26)) := (Below.refl _ _).alloc (Nat.le_refl _) _
  have HC := Lib.hid (choose_any 87 #[.pointer (some ⟨w.heap.size, 0, none⟩)] (fun _ _ => rfl) (fun l => sumC (saltC h.fl) l 5) L h hn true _ (hH.below hb0) (fun hv l W hl hok hb => pack1_any L h ⟨(HOK.ofValid hv).f0, (HOK.ofValid hv).f1⟩ w.heap.size l hl hok W (hX.of (hb.block _ hX.lt))))
  have HB0 := Lib.hid hb0
  clear hb0 hX hH
  go_enter Try.func38, Try.ntmps38
  go_wp2_with (go_at_call 85; refine HC.out.mono ?_; rintro e w1 ⟨hc, hb1⟩; obtain ⟨best, rfl, ⟨⟨A, n, c, rfl⟩, h2⟩, h3⟩ := chooseRet_split hc; have H2 := Lib.hid h2; have H3 := Lib.hid h3; clear h2 h3 hc)
  go_ret2
  refine ⟨⟨A, n, c, rfl, fun hh => by have := H2.out hh; cases this; exact ⟨rfl, rfl, rfl⟩, fun p m hv hb => ?_⟩, HB0.out.trans (hb1.mono HB0.out.size)⟩
  obtain ⟨pb, e, hp, hB⟩ := H3.out p m hv trivial hb
  cases e
  exact ⟨pb, rfl, rfl, rfl, hp, by simp at hB; omega⟩
set_option maxRecDepth 100000 in
set_option maxHeartbeats 4000000 in
theorem fewest_any (L : HL) (h : House) (hn : h.ks.length ≤ 1000 ∧ h.ps.length ≤ 1000 ∧ h.bs.length ≤ 1000) (w : World) (hH : HouseAt w w.heap.size L h) :
    Calls Try.prog 40 #[L.enc h] w fun e w' => e = .returned (.tuple #[.int .i64 (numRet h true fun l => sumC usedC l 5).1, .int .i64 (numRet h true fun l => sumC usedC l 5).2]) ∧ Below w.heap.size w w' := by
  have hb0 : Below w.heap.size w (w.alloc (.cells #[.slice L.Ak h.ks.length L.ck, .int .i64 h.fl, .slice L.Ap h.ps.length L.cp, .slice L.Ab h.bs.length L.cb] 26)) := (Below.refl _ _).alloc (Nat.le_refl _) _
  have HC := Lib.hid (choose_any 89 #[] (fun _ _ => rfl) (fun l => sumC usedC l 5) L h hn true _ (hH.below hb0) (fun hv l W hl hok hb => used_any l hl hok W))
  have HB0 := Lib.hid hb0
  clear hb0 hH
  go_enter Try.func40, Try.ntmps40
  go_wp2_with (go_at_call 85; refine HC.out.mono ?_; rintro e w1 ⟨hc, hb1⟩; obtain ⟨best, rfl, -, -⟩ := chooseRet_split hc)
  go_ret2
  exact ⟨rfl, HB0.out.trans (hb1.mono HB0.out.size)⟩
theorem numRet_late (h : House) (is : Bool) (day : Int) : -1000000 ≤ (numRet h is fun l => sumC (lateC day) l 5).1 ∧ (numRet h is fun l => sumC (lateC day) l 5).1 ≤ 0 := by
  unfold numRet
  split
  · simp
  · rename_i hv
    split
    · simp
    · split
      · simp
      · rename_i p m hb
        obtain ⟨rfl, -⟩ := bestOf_some hb
        have hv' : validH h = true := by simpa using hv
        have := sumC_bd2 (f := lateC day) (l := packedC h p) (fun j hj => lateC_bd (packedC_ok (HOK.ofValid hv') p j _ (at_caskOf hj))) 5 (by rw [packedC_len]; exact Nat.le_refl _)
        simp only
        omega
set_option maxRecDepth 100000 in
set_option maxHeartbeats 4000000 in
theorem early_any (day : Int) (L : HL) (h : House) (hn : h.ks.length ≤ 1000 ∧ h.ps.length ≤ 1000 ∧ h.bs.length ≤ 1000) (w : World) (hH : HouseAt w w.heap.size L h) :
    Calls Try.prog 45 #[L.enc h, .int .i64 day] w fun e w' => e = .returned (.tuple #[.int .i64 (-(numRet h (inR day 0 20) fun l => sumC (lateC day) l 5).1), .int .i64 (numRet h (inR day 0 20) fun l => sumC (lateC day) l 5).2]) ∧ Below w.heap.size w w' := by
  have hX := HBox.new w L h
  have hD := Boxed.new (w.alloc (.cells #[.slice L.Ak h.ks.length L.ck, .int .i64 h.fl, .slice L.Ap h.ps.length L.cp, .slice L.Ab h.bs.length L.cb] 26)) 3 (.int .i64 day)
  simp only [World.size_alloc] at hD
  have hb0 : Below w.heap.size w ((w.alloc (.cells #[.slice L.Ak h.ks.length L.ck, .int .i64 h.fl, .slice L.Ap h.ps.length L.cp, .slice L.Ab h.bs.length L.cb] 26)).alloc (.cells #[.int .i64 day] 3)) := ((Below.refl _ _).alloc (Nat.le_refl _) _).alloc (by simp) _
  obtain ⟨W1, hW1⟩ : ∃ W1, (w.alloc (.cells #[.slice L.Ak h.ks.length L.ck, .int .i64 h.fl, .slice L.Ap h.ps.length L.cp, .slice L.Ab h.bs.length L.cb] 26)).alloc (.cells #[.int .i64 day] 3) = W1 := ⟨_, rfl⟩
  have hX1 : HBox W1 w.heap.size L h := by rw [← hW1]; exact hX.of (Below.heap_alloc _ _ _ (by simp))
  rw [hW1] at hD hb0
  have HC := Lib.hid (fun W (hW : Below W1.heap.size W1 W) => choose_any 90 #[.pointer (some ⟨w.heap.size + 1, 0, none⟩)] (fun _ _ => rfl) (fun l => sumC (lateC day) l 5) L h hn (inR day 0 20) W ((hH.below hb0).below hW) (fun hv l W' hl hok hb => early1_any day (w.heap.size + 1) l hl hok W' (below_cell (hb0to hW hb) hD.cell)))
  have HB0 := Lib.hid hb0
  obtain ⟨g0, g1, g2, g3⟩ := hX1.cells
  have g4 := hD.cell
  have HW1 := Lib.hid hW1
  clear hb0 hX hH hD hX1 hW1
  have hnb : -1000000 ≤ (numRet h (inR day 0 20) fun l => sumC (lateC day) l 5).1 ∧ (numRet h (inR day 0 20) fun l => sumC (lateC day) l 5).1 ≤ 0 := numRet_late h _ day
  obtain ⟨n0, n1⟩ := hnb
  go_enter Try.func45, Try.ntmps45
  go_wp2
  rw [HW1.out]
  go_region_held3 (fun w' => w'.cell? ⟨w.heap.size, 0, none⟩ = some (.slice L.Ak h.ks.length L.ck) ∧ w'.cell? ⟨w.heap.size, 1, none⟩ = some (.int .i64 h.fl) ∧ w'.cell? ⟨w.heap.size, 2, none⟩ = some (.slice L.Ap h.ps.length L.cp) ∧ w'.cell? ⟨w.heap.size, 3, none⟩ = some (.slice L.Ab h.bs.length L.cb) ∧ w'.cell? ⟨w.heap.size + 1, 0, none⟩ = some (.int .i64 day)) (first | go_keep)
    (first
      | (go_at_call 65; refine (between_any _ _ _ _).mono ?_; rintro e w' ⟨rfl, rfl⟩)
      | (go_at_call 85; refine (HC.out _ (drew_below _)).mono ?_; rintro e w2 ⟨hc, hb2⟩; obtain ⟨best, rfl, ⟨⟨A, n, c, rfl⟩, h2⟩, h3⟩ := chooseRet_split hc; clear h2 h3 hc; have hb3 := hb0to (drew_below _) hb2; have x0 := below_cell hb3 g0; have x1 := below_cell hb3 g1; have x2 := below_cell hb3 g2; have x3 := below_cell hb3 g3; have x4 := below_cell hb3 g4))
  all_goals
    go_wp2
    go_ret2
    exact ⟨rfl, HB0.out.trans (hb3.mono HB0.out.size)⟩
end Go.Proofs.Ytgemmmdcpbajoaa
