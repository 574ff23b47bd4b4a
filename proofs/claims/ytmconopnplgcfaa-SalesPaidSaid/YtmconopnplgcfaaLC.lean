import Derived.Test.YtmconopnplgcfaaLB
import Derived.Test.YtmconopnplgcfaaFM
namespace Go.Proofs.Ytmconopnplgcfaa
open Go.RowKit

/-! works 19. -/
theorem ex_fn5 : FN (dayF exF 5) := ⟨by decide, by decide, by decide, by decide⟩
theorem exReady : readyRet (dayF exF 5) = ([1], 0) := by kernel_rfl
theorem exMost : mostRet exF = (45, 0) := by kernel_rfl
theorem exWin : winRet exF = ([1], 0) := by kernel_rfl
theorem exPay : payRet exF 1 = (42, 0) := by kernel_rfl
theorem exNeed : needRet exF 0 = (33, 0) := by kernel_rfl
theorem exWhen : whenRet exF = (10, 0) := by kernel_rfl
structure ExW (W : World) (s : Nat) (F G : FL) : Prop where
  f : FairAt W W.heap.size F exF
  g : FairAt W W.heap.size G (dayF exF 5)
  x : FBox W s F exF
  y : FBox W (s + 1) G (dayF exF 5)
theorem ExW.next {W W' : World} {s : Nat} {F G : FL} (H : ExW W s F G) (hb : Below W.heap.size W W') : ExW W' s F G := ⟨H.f.below hb, H.g.below hb, H.x.of (hb.block _ H.x.lt), H.y.of (hb.block _ H.y.lt)⟩
theorem ExW.c {W : World} {s : Nat} {F G : FL} (H : ExW W s F G) : (W.cell? ⟨s, 0, none⟩ = some (.slice F.L.Ak exF.h.ks.length F.L.ck) ∧ W.cell? ⟨s, 1, none⟩ = some (.int .i64 exF.h.fl) ∧ W.cell? ⟨s, 2, none⟩ = some (.slice F.L.Ap exF.h.ps.length F.L.cp) ∧ W.cell? ⟨s, 3, none⟩ = some (.slice F.L.Ab exF.h.bs.length F.L.cb) ∧ W.cell? ⟨s, 4, none⟩ = some (.slice F.Ap exF.pk.length F.cp) ∧ W.cell? ⟨s, 5, none⟩ = some (.int .i64 exF.day) ∧ W.cell? ⟨s, 6, none⟩ = some (.int .i64 exF.nb) ∧ W.cell? ⟨s, 7, none⟩ = some (.slice F.Aq exF.q.length F.cq)) ∧ W.cell? ⟨s + 1, 0, none⟩ = some (.slice G.L.Ak (dayF exF 5).h.ks.length G.L.ck) ∧ W.cell? ⟨s + 1, 1, none⟩ = some (.int .i64 (dayF exF 5).h.fl) ∧ W.cell? ⟨s + 1, 2, none⟩ = some (.slice G.L.Ap (dayF exF 5).h.ps.length G.L.cp) ∧ W.cell? ⟨s + 1, 3, none⟩ = some (.slice G.L.Ab (dayF exF 5).h.bs.length G.L.cb) ∧ W.cell? ⟨s + 1, 4, none⟩ = some (.slice G.Ap (dayF exF 5).pk.length G.cp) ∧ W.cell? ⟨s + 1, 5, none⟩ = some (.int .i64 (dayF exF 5).day) ∧ W.cell? ⟨s + 1, 6, none⟩ = some (.int .i64 (dayF exF 5).nb) ∧ W.cell? ⟨s + 1, 7, none⟩ = some (.slice G.Aq (dayF exF 5).q.length G.cq) := ⟨H.x.cells, H.y.cells⟩
theorem ExW.new {W : World} {F G : FL} (hF : FairAt W W.heap.size F exF) (hG : FairAt W W.heap.size G (dayF exF 5)) : ExW ((W.alloc (.cells (F.cells exF) 29)).alloc (.cells (G.cells (dayF exF 5)) 29)) W.heap.size F G := by
  have hb := hb0to (al_below W (.cells (F.cells exF) 29)) (al_below _ (.cells (G.cells (dayF exF 5)) 29))
  exact ⟨hF.below hb, hG.below hb, (FBox.new W F exF).of (Below.heap_alloc _ _ _ (by simp)), heap_new2 W _ _⟩
theorem exC29 {W : World} {s : Nat} {F G : FL} (H : ExW W s F G) : Calls Try.prog 29 #[G.enc (dayF exF 5)] W fun e w' => (∃ A c, e = .returned (.tuple #[.slice A 1 c, .int .i64 0]) ∧ IntsAt w' w'.heap.size A [1]) ∧ Below W.heap.size W w' := by
  refine (Ready_any G _ ex_fn5 W H.g).mono ?_
  rintro e w' ⟨⟨v, rfl, hv⟩, hb⟩
  rw [exReady] at hv ⊢
  obtain ⟨A, c, rfl, -, -, hI⟩ := ints_slice hv
  exact ⟨⟨A, c, rfl, hI⟩, hb⟩
theorem exC42 {W : World} {s : Nat} {F G : FL} (H : ExW W s F G) : Calls Try.prog 42 #[F.enc exF] W fun e w' => (∃ A c, e = .returned (.tuple #[.slice A 1 c, .int .i64 0]) ∧ IntsAt w' w'.heap.size A [1]) ∧ Below W.heap.size W w' := by
  refine (Winners_any F _ ex_fn W H.f).mono ?_
  rintro e w' ⟨⟨v, rfl, hv⟩, hb⟩
  rw [exWin] at hv ⊢
  obtain ⟨A, c, rfl, -, -, hI⟩ := ints_slice hv
  exact ⟨⟨A, c, rfl, hI⟩, hb⟩
theorem exC40 {W : World} {s : Nat} {F G : FL} (H : ExW W s F G) : Calls Try.prog 40 #[F.enc exF] W fun e w' => e = .returned (.tuple #[.int .i64 45, .int .i64 0]) ∧ Below W.heap.size W w' := by
  refine (Most_any F _ ex_fn W H.f).mono ?_
  rintro e w' ⟨h, hb⟩
  unfold NumEnd at h
  rw [exMost] at h
  exact ⟨h, hb⟩
theorem exC23 {W : World} {s : Nat} {F G : FL} (H : ExW W s F G) : Calls Try.prog 23 #[F.enc exF, .int .i64 1] W fun e w' => e = .returned (.tuple #[.int .i64 42, .int .i64 0]) ∧ Below W.heap.size W w' := by
  refine (Pays_any F _ ex_fn 1 W H.f).mono ?_
  rintro e w' ⟨h, hb⟩
  unfold NumEnd at h
  rw [exPay] at h
  exact ⟨h, hb⟩
theorem exC37 {W : World} {s : Nat} {F G : FL} (H : ExW W s F G) : Calls Try.prog 37 #[F.enc exF, .int .i64 0] W fun e w' => e = .returned (.tuple #[.int .i64 33, .int .i64 0]) ∧ Below W.heap.size W w' := by
  refine (Need_any F _ ex_fn 0 W H.f).mono ?_
  rintro e w' ⟨h, hb⟩
  unfold NumEnd at h
  rw [exNeed] at h
  exact ⟨h, hb⟩
theorem exC31 {W : World} {s : Nat} {F G : FL} (H : ExW W s F G) : Calls Try.prog 31 #[F.enc exF] W fun e w' => e = .returned (.tuple #[.int .i64 10, .int .i64 0]) ∧ Below W.heap.size W w' := by
  refine (When_any F _ ex_fn W H.f).mono ?_
  rintro e w' ⟨h, hb⟩
  unfold NumEnd at h
  rw [exWhen] at h
  exact ⟨h, hb⟩
theorem exC38 {W : World} {A1 A2 : Option Addr} {c1 c2 : Nat} (h1 : IntsAt W W.heap.size A1 [1]) (h2 : IntsAt W W.heap.size A2 [1]) : Calls Try.prog 38 #[.slice A1 1 c1, .slice A2 1 c2] W fun e w' => e = .returned (.bool true) ∧ Below W.heap.size W w' :=
  sameInts_is A1 A2 c1 c2 [1] (by decide) W h1 h2
theorem ex_one (W : World) : IntsAt (W.alloc (.cells #[.int .i64 1] 3)) (W.alloc (.cells #[.int .i64 1] 3)).heap.size (some ⟨W.heap.size, 0, none⟩) [1] := ints_lay (World.alloc_heap_new W _)
set_option maxRecDepth 100000 in
set_option maxHeartbeats 4000000 in
theorem works_any (w : World) : Calls Try.prog 19 #[] w fun e w' => e = .returned (.bool true) ∧ Below w.heap.size w w' := by
  go_enter Try.func19, Try.ntmps19
  go_wp2_with (first
    | (go_at_call 65; go_must (refine (example_any _).mono ?_; rintro e w1 ⟨⟨⟨⟨k1, k2, k3, k4, k5, k6⟩, k7, k8, k9, k10⟩, ⟨⟨l1, l2, l3, l4, l5, l6⟩, l7, l8, l9, l10⟩, rfl, hF, hG⟩, hb⟩; have M := Lib.hid (ExW.new hF hG); have B := Lib.hid (hb0to hb (hb0to (al_below w1 (.cells #[.slice k1 exF.h.ks.length k2, .int .i64 exF.h.fl, .slice k3 exF.h.ps.length k4, .slice k5 exF.h.bs.length k6, .slice k7 exF.pk.length k8, .int .i64 exF.day, .int .i64 exF.nb, .slice k9 exF.q.length k10] 29)) (al_below _ (.cells #[.slice l1 (dayF exF 5).h.ks.length l2, .int .i64 (dayF exF 5).h.fl, .slice l3 (dayF exF 5).h.ps.length l4, .slice l5 (dayF exF 5).h.bs.length l6, .slice l7 (dayF exF 5).pk.length l8, .int .i64 (dayF exF 5).day, .int .i64 (dayF exF 5).nb, .slice l9 (dayF exF 5).q.length l10] 29)))); obtain ⟨⟨c0, c1, c2, c3, c4, c5, c6, c7⟩, d0, d1, d2, d3, d4, d5, d6, d7⟩ := M.out.c; clear hF hG hb))
    | (go_at_call 29; go_must (refine (exC29 M.out).mono ?_; rintro e wn ⟨⟨Ar, cr, rfl, hI⟩, hb⟩; have BN := Lib.hid (hb0to B.out hb); have MN := Lib.hid (M.out.next hb); have B := BN; have M := MN; have IR := Lib.hid hI; clear BN MN; obtain ⟨⟨c0, c1, c2, c3, c4, c5, c6, c7⟩, d0, d1, d2, d3, d4, d5, d6, d7⟩ := M.out.c; clear hb hI))
    | (go_at_call 40; go_must (refine (exC40 M.out).mono ?_; rintro e wn ⟨rfl, hb⟩; have BN := Lib.hid (hb0to B.out hb); have MN := Lib.hid (M.out.next hb); have B := BN; have M := MN; have IR := Lib.hid (ints_later IR.out hb); clear BN MN; obtain ⟨⟨c0, c1, c2, c3, c4, c5, c6, c7⟩, d0, d1, d2, d3, d4, d5, d6, d7⟩ := M.out.c; clear hb))
    | (go_at_call 42; go_must (refine (exC42 M.out).mono ?_; rintro e wn ⟨⟨Aw, cw, rfl, hI⟩, hb⟩; have BN := Lib.hid (hb0to B.out hb); have MN := Lib.hid (M.out.next hb); have B := BN; have M := MN; have IR := Lib.hid (ints_later IR.out hb); have IW := Lib.hid hI; clear BN MN; obtain ⟨⟨c0, c1, c2, c3, c4, c5, c6, c7⟩, d0, d1, d2, d3, d4, d5, d6, d7⟩ := M.out.c; clear hb hI))
    | (go_at_call 23; go_must (refine (exC23 M.out).mono ?_; rintro e wn ⟨rfl, hb⟩; have BN := Lib.hid (hb0to B.out hb); have MN := Lib.hid (M.out.next hb); have B := BN; have M := MN; have IR := Lib.hid (ints_later IR.out hb); have IW := Lib.hid (ints_later IW.out hb); clear BN MN; obtain ⟨⟨c0, c1, c2, c3, c4, c5, c6, c7⟩, d0, d1, d2, d3, d4, d5, d6, d7⟩ := M.out.c; clear hb))
    | (go_at_call 37; go_must (refine (exC37 M.out).mono ?_; rintro e wn ⟨rfl, hb⟩; have BN := Lib.hid (hb0to B.out hb); have MN := Lib.hid (M.out.next hb); have B := BN; have M := MN; have IR := Lib.hid (ints_later IR.out hb); have IW := Lib.hid (ints_later IW.out hb); clear BN MN; obtain ⟨⟨c0, c1, c2, c3, c4, c5, c6, c7⟩, d0, d1, d2, d3, d4, d5, d6, d7⟩ := M.out.c; clear hb))
    | (go_at_call 31; go_must (refine (exC31 M.out).mono ?_; rintro e wn ⟨rfl, hb⟩; have BN := Lib.hid (hb0to B.out hb); have MN := Lib.hid (M.out.next hb); have B := BN; have M := MN; have IR := Lib.hid (ints_later IR.out hb); have IW := Lib.hid (ints_later IW.out hb); clear BN MN; obtain ⟨⟨c0, c1, c2, c3, c4, c5, c6, c7⟩, d0, d1, d2, d3, d4, d5, d6, d7⟩ := M.out.c; clear hb))
    | (go_at_call 38; go_must (refine (exC38 (by first | exact ints_later IR.out (al_below _ _) | exact ints_later IW.out (al_below _ _)) (ex_one _)).mono ?_; rintro e wn ⟨rfl, hb⟩; have BN := Lib.hid (hb0to (hb0to B.out (al_below _ _)) hb); have B := BN; have IW := Lib.hid (ints_later IW.out (hb0to (al_below _ _) hb)); clear BN hb)))
  go_ret
  exact ⟨rfl, B.out⟩

end Go.Proofs.Ytmconopnplgcfaa
