import Derived.Test.YtmbcpmnigggbaaaU6
import Derived.Deep.DeepCutAuto
import Derived.Test.YtmbcpmnigggbaaaS6
import Derived.Laws.EntriesVeiled
import Derived.Deep.RegionHeld3
import Derived.Deep.QuietTactic
import Derived.ArgAppend
import Derived.Outline
import Derived.WalkMore
import Derived.RangeFuncBox
import Derived.RangeFuncCalls
import Derived.RangeFuncLeaves
import Derived.RangeFuncNested
import Derived.Shelf.Abstract
import Derived.StillTailTactics
namespace Go.Proofs.Ytmbcpmnigggbaaa
open Go.RowKit
theorem hbox_other {W : World} {B b o : Nat} {L : HL} {h : House} {u : Value} (hb : HBox W B L h) (hne : B ≠ b) : HBox (W.setCell ⟨b, o, none⟩ u) B L h := hb.of (((KpB.refl (fun k => k = b) W.heap.size W).set o u (.inl rfl)).block B hb.lt hne)
/-! Copies of a house. -/
structure HLOK (L : HL) (h : House) : Prop where
  k : L.Ak = none → L.ck = 0 ∧ h.ks = []
  p : L.Ap = none → L.cp = 0 ∧ h.ps = []
  b : L.Ab = none → L.cb = 0 ∧ h.bs = []
/-- The slices of a house are the call's own, each in a block of its own. -/
structure Copied (W : World) (n0 n1 n2 : Nat) (L : HL) (h : House) : Prop where
  k : OwnsP W 95 n0 (.slice L.Ak h.ks.length L.ck) h.ks
  k1 : ∀ g, (Value.slice L.Ak h.ks.length L.ck).ownBlock = some g → g < n1
  p : OwnsP W 97 n1 (.slice L.Ap h.ps.length L.cp) h.ps
  p1 : ∀ g, (Value.slice L.Ap h.ps.length L.cp).ownBlock = some g → g < n2
  b : Ints W n2 (.slice L.Ab h.bs.length L.cb) h.bs
  n01 : n0 ≤ n1
  n12 : n1 ≤ n2
theorem ownsP_at {W : World} {t : TypeId} {base : Nat} {A : Option Addr} {n c : Nat} {ns : List (Int × Int)} (h : OwnsP W t base (.slice A n c) ns) : PairsAt W W.heap.size A ns ∧ (A = none → c = 0 ∧ ns = []) := by
  obtain ⟨A', c', e, h1, h2⟩ := h.lay
  cases e
  exact ⟨h2, h1⟩
theorem ints_at {W : World} {base : Nat} {A : Option Addr} {n c : Nat} {l : List Int} (h : Ints W base (.slice A n c) l) : IntsIn W base W.heap.size A l ∧ (A = none → c = 0 ∧ l = []) ∧ l.length ≤ c := by
  obtain ⟨A', c', e, h1, h2, h3⟩ := h.lay
  cases e
  exact ⟨h3, h1, h2⟩
theorem Copied.house {W : World} {n0 n1 n2 : Nat} {L : HL} {h : House} (H : Copied W n0 n1 n2 L h) : HouseAt W W.heap.size L h := ⟨(ownsP_at H.k).1, (ownsP_at H.p).1, (ints_at H.b).1.at_⟩
theorem Copied.ok {W : World} {n0 n1 n2 : Nat} {L : HL} {h : House} (H : Copied W n0 n1 n2 L h) : HLOK L h := ⟨(ownsP_at H.k).2, (ownsP_at H.p).2, (ints_at H.b).2.1⟩
theorem Copied.cap {W : World} {n0 n1 n2 : Nat} {L : HL} {h : House} (H : Copied W n0 n1 n2 L h) : h.bs.length ≤ L.cb ∧ (L.Ab = none → L.cb = 0) := ⟨(ints_at H.b).2.2, fun e => ((ints_at H.b).2.1 e).1⟩
theorem Copied.below {W W' : World} {n0 n1 n2 : Nat} {L : HL} {h : House} (H : Copied W n0 n1 n2 L h) (hb : Below W.heap.size W W') : Copied W' n0 n1 n2 L h :=
  ⟨H.k.below_ hb (Nat.le_refl _), H.k1, H.p.below_ hb (Nat.le_refl _), H.p1, H.b.below_ hb (Nat.le_refl _), H.n01, H.n12⟩
theorem info88 : (Try.prog.info? 95).map (fun i => (i.zero, i.size, i.bytes)) = some (some (.agg #[.int .i64 0, .int .i64 0]), 2, 16) := by kernel_rfl
theorem info38 : (Try.prog.info? 97).map (fun i => (i.zero, i.size, i.bytes)) = some (some (.agg #[.int .i64 0, .int .i64 0]), 2, 16) := by kernel_rfl
/-- Copy's memory. -/
structure CpSt (W : World) (s : Nat) (L : HL) (h : House) (a b c : Value) : Prop where
  x : HBox W s L h
  y : W.heap[s + 1]? = some (.cells #[.slice none 0 0, .int .i64 0, .slice none 0 0, .slice none 0 0] 27 (0, 0))
  z : W.heap[s + 1 + 1]? = some (.cells #[a, .int .i64 h.fl, b, c] 27 (0, 0))
theorem CpSt.kp {W W' : World} {s : Nat} {L : HL} {h : House} {a b c : Value} (H : CpSt W s L h a b c) {n : Nat} (hb : Below n W W') (hn : s + 3 ≤ n) : CpSt W' s L h a b c :=
  ⟨H.x.of (hb.block _ (by omega)), (hb.block _ (by omega)).trans H.y, (hb.block _ (by omega)).trans H.z⟩
theorem CpSt.zc {W : World} {s : Nat} {L : HL} {h : House} {a b c : Value} (H : CpSt W s L h a b c) : W.cell? ⟨s + 1 + 1, 0, none⟩ = some a ∧ W.cell? ⟨s + 1 + 1, 1, none⟩ = some (.int .i64 h.fl) ∧ W.cell? ⟨s + 1 + 1, 2, none⟩ = some b ∧ W.cell? ⟨s + 1 + 1, 3, none⟩ = some c := by
  simp [World.cell?, H.z]
theorem CpSt.fz {W : World} {s : Nat} {L : HL} {h : House} {a b c : Value} (H : CpSt W s L h a b c) : ∀ o, W.frozen? ⟨s + 1 + 1, o, none⟩ = false := fun o => by simp [World.frozen?, H.z]
theorem CpSt.yc {W : World} {s : Nat} {L : HL} {h : House} {a b c : Value} (H : CpSt W s L h a b c) : W.cell? ⟨s + 1, 0, none⟩ = some (.slice none 0 0) ∧ W.cell? ⟨s + 1, 1, none⟩ = some (.int .i64 0) ∧ W.cell? ⟨s + 1, 2, none⟩ = some (.slice none 0 0) ∧ W.cell? ⟨s + 1, 3, none⟩ = some (.slice none 0 0) := by
  simp [World.cell?, H.y]
theorem CpSt.fy {W : World} {s : Nat} {L : HL} {h : House} {a b c : Value} (H : CpSt W s L h a b c) : ∀ o, W.frozen? ⟨s + 1, o, none⟩ = false := fun o => by simp [World.frozen?, H.y]
theorem CpSt.lt {W : World} {s : Nat} {L : HL} {h : House} {a b c : Value} (H : CpSt W s L h a b c) : s + 3 ≤ W.heap.size := by have := heap_lt H.z; omega
theorem CpSt.set {W : World} {s : Nat} {L : HL} {h : House} {a b c : Value} (H : CpSt W s L h a b c) (o : Nat) (v : Value) : HBox (W.setCell ⟨s + 1 + 1, o, none⟩ v) s L h ∧ (W.setCell ⟨s + 1 + 1, o, none⟩ v).heap[s + 1]? = some (.cells #[.slice none 0 0, .int .i64 0, .slice none 0 0, .slice none 0 0] 27 (0, 0)) ∧
    (W.setCell ⟨s + 1 + 1, o, none⟩ v).heap[s + 1 + 1]? = some (.cells (#[a, .int .i64 h.fl, b, c].setIfInBounds o v) 27 (0, 0)) :=
  ⟨hbox_other H.x (by omega), (((KpB.refl (fun k => k = s + 1 + 1) W.heap.size W).set o v (.inl rfl)).block _ (heap_lt H.y) (by omega)).trans H.y, heap_set v H.z⟩
theorem CpSt.set0 {W : World} {s : Nat} {L : HL} {h : House} {a b c : Value} (H : CpSt W s L h a b c) (v : Value) : CpSt (W.setCell ⟨s + 1 + 1, 0, none⟩ v) s L h v b c := by obtain ⟨h1, h2, h3⟩ := H.set 0 v; exact ⟨h1, h2, h3⟩
theorem CpSt.set2 {W : World} {s : Nat} {L : HL} {h : House} {a b c : Value} (H : CpSt W s L h a b c) (v : Value) : CpSt (W.setCell ⟨s + 1 + 1, 2, none⟩ v) s L h a v c := by obtain ⟨h1, h2, h3⟩ := H.set 2 v; exact ⟨h1, h2, h3⟩
theorem CpSt.set3 {W : World} {s : Nat} {L : HL} {h : House} {a b c : Value} (H : CpSt W s L h a b c) (v : Value) : CpSt (W.setCell ⟨s + 1 + 1, 3, none⟩ v) s L h a b v := by obtain ⟨h1, h2, h3⟩ := H.set 3 v; exact ⟨h1, h2, h3⟩
theorem CpSt.new (w : World) (L : HL) (h : House) : CpSt (((w.alloc (.cells #[.slice L.Ak h.ks.length L.ck, .int .i64 h.fl, .slice L.Ap h.ps.length L.cp, .slice L.Ab h.bs.length L.cb] 27)).alloc (.cells #[.slice none 0 0, .int .i64 0, .slice none 0 0, .slice none 0 0] 27)).alloc (.cells #[.slice L.Ak h.ks.length L.ck, .int .i64 h.fl, .slice L.Ap h.ps.length L.cp, .slice L.Ab h.bs.length L.cb] 27)) w.heap.size L h (.slice L.Ak h.ks.length L.ck) (.slice L.Ap h.ps.length L.cp) (.slice L.Ab h.bs.length L.cb) := by
  have c0 := HBox.new w L h
  have c1 := World.alloc_heap_new (w.alloc (.cells #[.slice L.Ak h.ks.length L.ck, .int .i64 h.fl, .slice L.Ap h.ps.length L.cp, .slice L.Ab h.bs.length L.cb] 27)) (.cells #[.slice none 0 0, .int .i64 0, .slice none 0 0, .slice none 0 0] 27)
  have c2 := World.alloc_heap_new ((w.alloc (.cells #[.slice L.Ak h.ks.length L.ck, .int .i64 h.fl, .slice L.Ap h.ps.length L.cp, .slice L.Ab h.bs.length L.cb] 27)).alloc (.cells #[.slice none 0 0, .int .i64 0, .slice none 0 0, .slice none 0 0] 27)) (.cells #[.slice L.Ak h.ks.length L.ck, .int .i64 h.fl, .slice L.Ap h.ps.length L.cp, .slice L.Ab h.bs.length L.cb] 27)
  simp only [World.size_alloc] at c1 c2
  exact ⟨(c0.of (Below.heap_alloc _ _ _ (by simp))).of (Below.heap_alloc _ _ _ (by simp; omega)), (Below.heap_alloc _ _ _ (by simp)).trans c1, c2⟩
def CopyRet (h : House) (B : Nat) (w' : World) (e : Ending) : Prop := ∃ L n1 n2, e = .returned (HL.enc L h) ∧ Copied w' B n1 n2 L h
theorem OwnsP.set_other {W : World} {t : TypeId} {base s o : Nat} {u v : Value} {l : List (Int × Int)} (h : OwnsP W t base v l) (hs : s < base) : OwnsP (W.setCell ⟨s, o, none⟩ u) t base v l := by
  refine ⟨h.1, ?_⟩
  rcases h.2 with h2 | ⟨g, cap, cur, e, hb2, hg, h4⟩
  · exact .inl h2
  · exact .inr ⟨g, cap, cur, e, hb2, (((KpB.refl (fun k => k = s) W.heap.size W).set o u (.inl rfl)).block g (heap_lt hg) (by omega)).trans hg, h4⟩
theorem Ints.set_other {W : World} {base s o : Nat} {u v : Value} {l : List Int} (h : Ints W base v l) (hs : s < base) : Ints (W.setCell ⟨s, o, none⟩ u) base v l := by
  refine ⟨h.1, ?_⟩
  rcases h.2 with h2 | ⟨g, cap, cur, e, hb2, hg, h4⟩
  · exact .inl h2
  · exact .inr ⟨g, cap, cur, e, hb2, (((KpB.refl (fun k => k = s) W.heap.size W).set o u (.inl rfl)).block g (heap_lt hg) (by omega)).trans hg, h4⟩
theorem OwnsP.alloc {W : World} {t : TypeId} {base : Nat} {v : Value} {l : List (Int × Int)} (h : OwnsP W t base v l) (o : Obj) : OwnsP (W.alloc o) t base v l := World.ownsRow.alloc h o
theorem OwnsP.mono {W : World} {t : TypeId} {base base' : Nat} {v : Value} {l : List (Int × Int)} (h : OwnsP W t base v l) (hb : base' ≤ base) : OwnsP W t base' v l := by
  refine ⟨h.1, ?_⟩
  rcases h.2 with h2 | ⟨g, cap, cur, e, hb2, h4⟩
  · exact .inl h2
  · exact .inr ⟨g, cap, cur, e, Nat.le_trans hb hb2, h4⟩
theorem ownP_lt {W : World} {t : TypeId} {base : Nat} {v : Value} {l : List (Int × Int)} (h : OwnsP W t base v l) : ∀ g, v.ownBlock = some g → g < W.heap.size := fun g hg => (World.ownsRow.lt h g hg).2
theorem CpSt.al {W : World} {s : Nat} {L : HL} {h : House} {a b c : Value} (H : CpSt W s L h a b c) (o : Obj) : CpSt (W.alloc o) s L h a b c := H.kp (Below.alloc (Below.refl W.heap.size W) (Nat.le_refl _) o) H.lt
theorem ownsP_madeS (w : World) (a : Addr) (u : Value) (t : TypeId) : OwnsP ((w.setCell a u).alloc (.cells #[] t)) t w.heap.size (.slice (some ⟨w.heap.size, 0, none⟩) 0 0) [] := by
  have := ownsP_made (w.setCell a u) t w.heap.size (by simp)
  rwa [World.size_setCell] at this
theorem ints_madeS (w : World) (a : Addr) (u : Value) : Ints ((w.setCell a u).alloc (.cells #[] 3)) w.heap.size (.slice (some ⟨w.heap.size, 0, none⟩) 0 0) [] := by
  have := ints_made (w.setCell a u) w.heap.size (by simp)
  rwa [World.size_setCell] at this
theorem below_sal (w : World) (a : Addr) (u : Value) (o : Obj) : Below w.heap.size (w.setCell a u) ((w.setCell a u).alloc o) := (Below.refl _ _).alloc (by simp) _
theorem load26 {W : World} {b : Nat} {x y z u : Value} (h0 : W.cell? ⟨b, 0, none⟩ = some x) (h1 : W.cell? ⟨b, 1, none⟩ = some y) (h2 : W.cell? ⟨b, 2, none⟩ = some z) (h3 : W.cell? ⟨b, 3, none⟩ = some u) :
    (Instr.loadAt 27 (.pointer (some ⟨b, 0, none⟩))).run Try.prog W = .ok (.agg #[x, y, z, u]) W := by
  simp [go_sem, Instr.loadAt, Instr.sureAddr, *]
/-- The box of the result is written, cell by cell. -/
theorem cp_store {W : World} {s : Nat} {L : HL} {h : House} {a b c : Value} (H : CpSt W s L h a b c) (x y z u : Value) :
    (Instr.loadAt 27 (.pointer (some ⟨s + 1, 0, none⟩))).run Try.prog ((((W.setCell ⟨s + 1, 0, none⟩ x).setCell ⟨s + 1, 1, none⟩ y).setCell ⟨s + 1, 2, none⟩ z).setCell ⟨s + 1, 3, none⟩ u) = .ok (.agg #[x, y, z, u]) ((((W.setCell ⟨s + 1, 0, none⟩ x).setCell ⟨s + 1, 1, none⟩ y).setCell ⟨s + 1, 2, none⟩ z).setCell ⟨s + 1, 3, none⟩ u) := by
  have e := heap_set u (o := 3) (heap_set z (o := 2) (heap_set y (o := 1) (heap_set x (o := 0) H.y)))
  refine load26 ?_ ?_ ?_ ?_ <;> simp [World.cell?, e]
theorem set_any {Q : World → Prop} {s : Nat} (hQ : ∀ W o u, Q W → Q (W.setCell ⟨s, o, none⟩ u)) {W : World} (h : Q W) (x y z u : Value) : Q ((((W.setCell ⟨s, 0, none⟩ x).setCell ⟨s, 1, none⟩ y).setCell ⟨s, 2, none⟩ z).setCell ⟨s, 3, none⟩ u) :=
  hQ _ _ _ (hQ _ _ _ (hQ _ _ _ (hQ _ _ _ h)))
set_option maxRecDepth 100000 in
set_option maxHeartbeats 4000000 in
theorem copy_any (L : HL) (h : House) (hn : h.ks.length ≤ 1000 ∧ h.ps.length ≤ 1000 ∧ h.bs.length ≤ 1000) (hok : HLOK L h) (w : World) (hH : HouseAt w w.heap.size L h) :
    Calls Try.prog 67 #[L.enc h] w fun e w' => CopyRet h w.heap.size w' e ∧ Below w.heap.size w w' := by
  have hb0 : Below w.heap.size w (((w.alloc (.cells #[.slice L.Ak h.ks.length L.ck, .int .i64 h.fl, .slice L.Ap h.ps.length L.cp, .slice L.Ab h.bs.length L.cb] 27)).alloc (.cells #[.slice none 0 0, .int .i64 0, .slice none 0 0, .slice none 0 0] 27)).alloc (.cells #[.slice L.Ak h.ks.length L.ck, .int .i64 h.fl, .slice L.Ap h.ps.length L.cp, .slice L.Ab h.bs.length L.cb] 27)) :=
    (((Below.refl _ _).alloc (Nat.le_refl _) _).alloc (by simp) _).alloc (by simp; omega) _
  have HS := Lib.hid (CpSt.new w L h)
  obtain ⟨n1, n2, n3⟩ := hn
  obtain ⟨ik, hik, k0, k1, k2⟩ := info_parts info88
  obtain ⟨ip, hip, p0, p1, p2⟩ := info_parts info38
  have HI := Lib.hid (And.intro hik (And.intro k0 (And.intro k1 (And.intro k2 (And.intro hip (And.intro p0 (And.intro p1 p2)))))))
  have HOK' := Lib.hid hok
  have HH := Lib.hid hH
  have HB0 := Lib.hid hb0
  obtain ⟨W0, hW0⟩ : ∃ W0, W0 = ((w.alloc (.cells #[.slice L.Ak h.ks.length L.ck, .int .i64 h.fl, .slice L.Ap h.ps.length L.cp, .slice L.Ab h.bs.length L.cb] 27)).alloc (.cells #[.slice none 0 0, .int .i64 0, .slice none 0 0, .slice none 0 0] 27)).alloc (.cells #[.slice L.Ak h.ks.length L.ck, .int .i64 h.fl, .slice L.Ap h.ps.length L.cp, .slice L.Ab h.bs.length L.cb] 27) := ⟨_, rfl⟩
  rw [← hW0] at HS HB0
  have HW0 := Lib.hid hW0
  clear hok hH hb0 hik k0 k1 k2 hip p0 p1 p2 hW0
  go_enter Try.func67, Try.ntmps67
  go_upto_region 2 with (fail)
  have e := HW0.out
  rw [← e]
  clear e
  have HN := Lib.hid (HH.out.below (HB0.out))
  have Z0 : w.heap.size + 3 ≤ W0.heap.size := HS.out.lt
  have xc := HS.out.x.cells
  have xd := (HS.out.al (.cells #[] 95)).x.cells
  go_wp2_with (first
    | (at_builtin; have hg3 := HS2.out.x; go_must (refine wpl_copyI rfl (.tmp 15) (.tmp 17) rfl w2.heap.size _ [] rfl (ints_madeS w2 _ _) L.Ab L.cb h.bs HOK'.out.b rfl (HH.out.below (HB2'.out.alloc (by have := HB2'.out.size; omega) (.cells #[] 3))).b (by simp) n3 (by simp) ?_; intro v3 w3 own3 hb3; have hc3 := Below.trans (below_sal w2 _ _ _) hb3; have S3 := HS2.out.kp hc3 Z2; have zf3 := S3.fz; have zw3 := S3.zc; have yf3 := S3.fy; have yw3 := S3.yc; have HB3 := Lib.hid (HB2'.out.trans (hc3.mono HB2.out.size)); rw [List.nil_append] at own3; obtain ⟨A3, c3, rfl, oA3, pA3⟩ := own3.lay; have HO13 := Lib.hid ((HO12.out.set_other (s := w.heap.size + 1 + 1) (o := 2) (u := .slice A2 h.ps.length c2) (by omega)).below_ hc3 (by simp)); have HO23 := Lib.hid ((HO2.out.set_other (s := w.heap.size + 1 + 1) (o := 2) (u := .slice A2 h.ps.length c2) (by omega)).below_ hc3 (by simp)); have HO3 := Lib.hid own3; have HS3 := Lib.hid (S3.set3 (.slice A3 h.bs.length c3)); have HB3' := Lib.hid (HB3.out.setCell (p := ⟨w.heap.size + 1 + 1, 3, none⟩) (by show w.heap.size ≤ w.heap.size + 1 + 1; omega) (.slice A3 h.bs.length c3)); have Z3 : w.heap.size + 3 ≤ w3.heap.size := S3.lt; clear own3 hb3 hc3 S3 oA3 pA3))
    | (at_builtin; have hg2 := HS1.out.x; go_must (refine wpl_copyP2 rfl (.tmp 10) (.tmp 12) 24 97 Try.underlying24 HI.out.2.2.2.2.1 HI.out.2.2.2.2.2.1 HI.out.2.2.2.2.2.2.1 HI.out.2.2.2.2.2.2.2 rfl w1.heap.size _ [] rfl (ownsP_madeS w1 _ _ 97) L.Ap L.cp h.ps HOK'.out.p rfl (HH.out.below (HB1'.out.alloc (by have := HB1'.out.size; omega) (.cells #[] 97))).p (by simp) n2 (by simp) ?_; intro v2 w2 own2 hb2; have hc2 := Below.trans (below_sal w1 _ _ _) hb2; have S2 := HS1.out.kp hc2 Z1; have zf2 := S2.fz; have zw2 := S2.zc; have HB2 := Lib.hid (HB1'.out.trans (hc2.mono HB1.out.size)); rw [List.nil_append] at own2; obtain ⟨A2, c2, rfl, oA2, pA2⟩ := own2.lay; have HO12 := Lib.hid ((HO1.out.set_other (s := w.heap.size + 1 + 1) (o := 0) (u := .slice A1 h.ks.length c1) (by omega)).below_ hc2 (by simp)); have HO2 := Lib.hid own2; have HS2 := Lib.hid (S2.set2 (.slice A2 h.ps.length c2)); have HB2' := Lib.hid (HB2.out.setCell (p := ⟨w.heap.size + 1 + 1, 2, none⟩) (by show w.heap.size ≤ w.heap.size + 1 + 1; omega) (.slice A2 h.ps.length c2)); have xd2 := (HS2.out.al (.cells #[] 3)).x.cells; have Z2 : w.heap.size + 3 ≤ w2.heap.size := S2.lt; have Z12 : w1.heap.size ≤ w2.heap.size := (by have := hc2.size; simpa using this); clear own2 hb2 hc2 S2 oA2 pA2))
    | (at_builtin; go_must (refine wpl_copyP2 rfl (.tmp 5) (.tmp 7) 23 95 Try.underlying23 HI.out.1 HI.out.2.1 HI.out.2.2.1 HI.out.2.2.2.1 rfl W0.heap.size _ [] rfl (ownsP_made W0 95 W0.heap.size (Nat.le_refl _)) L.Ak L.ck h.ks HOK'.out.k rfl (HN.out.below ((Below.refl _ W0).alloc (Nat.le_refl _) _)).k (by simp) n1 (by simp) ?_; intro v1 w1 own1 hb1; have hc1 := Below.trans (Below.alloc (Below.refl W0.heap.size W0) (Nat.le_refl _) _) hb1; have S1 := HS.out.kp hc1 Z0; have zf1 := S1.fz; have zw1 := S1.zc; have HB1 := Lib.hid (HB0.out.trans (hc1.mono HB0.out.size)); rw [List.nil_append] at own1; obtain ⟨A1, c1, rfl, oA1, pA1⟩ := own1.lay; have HO1 := Lib.hid own1; have HS1 := Lib.hid (S1.set0 (.slice A1 h.ks.length c1)); have HB1' := Lib.hid (HB1.out.setCell (p := ⟨w.heap.size + 1 + 1, 0, none⟩) (by show w.heap.size ≤ w.heap.size + 1 + 1; omega) (.slice A1 h.ks.length c1)); have xd1 := (HS1.out.al (.cells #[] 97)).x.cells; have Z1 : w.heap.size + 3 ≤ w1.heap.size := S1.lt; have Z01 : W0.heap.size ≤ w1.heap.size := hc1.size; clear own1 hb1 hc1 S1 oA1 pA1)))
  refine bodyPost_ret (results_cell rfl rfl (cp_store (HS3.out) _ _ _ _)) rfl ⟨⟨⟨A1, c1, A2, c2, A3, c3⟩, w1.heap.size, w2.heap.size, rfl, ?_⟩, ?_⟩
  · have q1 := (HO13.out.set_other (s := w.heap.size + 1 + 1) (o := 3) (u := .slice A3 h.bs.length c3) (by omega))
    have q2 := (HO23.out.set_other (s := w.heap.size + 1 + 1) (o := 3) (u := .slice A3 h.bs.length c3) (by omega))
    have q3 := (HO3.out.set_other (s := w.heap.size + 1 + 1) (o := 3) (u := .slice A3 h.bs.length c3) (by omega))
    have r1 := set_any (s := w.heap.size + 1) (Q := fun W => OwnsP W 95 W0.heap.size (.slice A1 h.ks.length c1) h.ks) (fun W o u hh => hh.set_other (by omega)) q1 (.slice A1 h.ks.length c1) (.int .i64 h.fl) (.slice A2 h.ps.length c2) (.slice A3 h.bs.length c3)
    have r2 := set_any (s := w.heap.size + 1) (Q := fun W => OwnsP W 97 w1.heap.size (.slice A2 h.ps.length c2) h.ps) (fun W o u hh => hh.set_other (by omega)) q2 (.slice A1 h.ks.length c1) (.int .i64 h.fl) (.slice A2 h.ps.length c2) (.slice A3 h.bs.length c3)
    have r3 := set_any (s := w.heap.size + 1) (Q := fun W => Ints W w2.heap.size (.slice A3 h.bs.length c3) h.bs) (fun W o u hh => hh.set_other (by omega)) q3 (.slice A1 h.ks.length c1) (.int .i64 h.fl) (.slice A2 h.ps.length c2) (.slice A3 h.bs.length c3)
    exact ⟨r1.mono (by omega), ownP_lt HO1.out, r2, ownP_lt HO2.out, r3, by omega, Z12⟩
  · exact set_any (s := w.heap.size + 1) (Q := fun W => Below w.heap.size w W) (fun W o u hh => hh.setCell (p := ⟨w.heap.size + 1, o, none⟩) (by show w.heap.size ≤ w.heap.size + 1; omega) u) HB3'.out _ _ _ _
end Go.Proofs.Ytmbcpmnigggbaaa
namespace Go.Proofs.Ytmbcpmnigggbaaa
open Go.RowKit
def hugeB (h : House) : Bool := decide (40 < h.ks.length) || (decide (40 < h.ps.length) || decide (40 < h.bs.length))
set_option maxRecDepth 100000 in
set_option maxHeartbeats 4000000 in
theorem huge_any (L : HL) (h : House) (w : World) :
    Calls Try.prog 10 #[L.enc h] w fun e w' => e = .returned (.bool (hugeB h)) ∧ Below w.heap.size w w' := by
  have hbw := Lib.hid ((Below.refl w.heap.size w).alloc (Nat.le_refl _) (.cells #[.slice L.Ak h.ks.length L.ck, .int .i64 h.fl, .slice L.Ap h.ps.length L.cp, .slice L.Ab h.bs.length L.cb] 27))
  obtain ⟨Ak, ck, Ap, cp, Ab, cb⟩ := L
  by_cases k1 : 40 < h.ks.length
  · have hv : hugeB h = true := by simp [hugeB, k1]
    rw [hv]; clear hv
    go_enter Try.func10, Try.ntmps10
    go_wp2
    go_ret
    exact ⟨rfl, hbw.out⟩
  · have k2 : h.ks.length ≤ 40 := by omega
    by_cases p1 : 40 < h.ps.length
    · have hv : hugeB h = true := by simp [hugeB, p1]
      rw [hv]; clear hv k1
      go_enter Try.func10, Try.ntmps10
      go_wp2
      go_ret
      exact ⟨congrArg (fun b => Ending.returned (.bool b)) (by first | (simp; done) | (simp; omega)), hbw.out⟩
    · have p2 : h.ps.length ≤ 40 := by omega
      by_cases b1 : 40 < h.bs.length
      · have hv : hugeB h = true := by simp [hugeB, b1]
        rw [hv]; clear hv k1 p1
        go_enter Try.func10, Try.ntmps10
        go_wp2
        go_ret
        exact ⟨congrArg (fun b => Ending.returned (.bool b)) (by first | (simp; done) | (simp; omega)), hbw.out⟩
      · have b2 : h.bs.length ≤ 40 := by omega
        have hv : hugeB h = false := by simp [hugeB]; omega
        rw [hv]; clear hv k1 p1 b1
        go_enter Try.func10, Try.ntmps10
        go_wp2
        go_ret
        exact ⟨congrArg (fun b => Ending.returned (.bool b)) (by first | (simp; done) | (simp; omega)), hbw.out⟩
def farB (h : House) : Bool := hugeB h || (validH h && decide (700 < (h.bs.length + 1) ^ h.ps.length))
theorem pow_le {a k : Nat} (ha : a ≤ 4) (hk : k ≤ 6) : (a + 1) ^ k ≤ 15625 :=
  Nat.le_trans (Nat.pow_le_pow_left (Nat.succ_le_succ ha) k) (Nat.le_trans (Nat.pow_le_pow_right (by decide) hk) (by decide))
theorem huge_no {h : House} (hh : hugeB h = false) : h.ks.length ≤ 40 ∧ h.ps.length ≤ 40 ∧ h.bs.length ≤ 40 := by
  simp only [hugeB, Bool.or_eq_false_iff, decide_eq_false_iff_not] at hh
  omega
set_option maxRecDepth 100000 in
set_option maxHeartbeats 4000000 in
theorem far_any (L : HL) (h : House) (w : World) (hH : HouseAt w w.heap.size L h) :
    Calls Try.prog 12 #[L.enc h] w fun e w' => e = .returned (.bool (farB h)) ∧ Below w.heap.size w w' := by
  have hbw := (Below.refl w.heap.size w).alloc (Nat.le_refl _) (.cells #[.slice L.Ak h.ks.length L.ck, .int .i64 h.fl, .slice L.Ap h.ps.length L.cp, .slice L.Ab h.bs.length L.cb] 27)
  have HB := Lib.hid (HBox.new w L h)
  have hc0 := (HBox.new w L h).cells
  obtain ⟨W0, hW0⟩ : ∃ W0, w.alloc (.cells #[.slice L.Ak h.ks.length L.ck, .int .i64 h.fl, .slice L.Ap h.ps.length L.cp, .slice L.Ab h.bs.length L.cb] 27) = W0 := ⟨_, rfl⟩
  rw [hW0] at hbw HB hc0
  have HU := Lib.hid (huge_any L h W0)
  have HBW := Lib.hid hbw
  have HW0 := Lib.hid hW0
  have HH := Lib.hid (hH.below hbw)
  clear hbw hW0 hH
  cases hh : hugeB h
  · have hf : farB h = (validH h && decide (700 < (h.bs.length + 1) ^ h.ps.length)) := by rw [farB, hh]; rfl
    rw [hf]
    have hn := huge_no hh
    clear hf
    have HC := Lib.hid (rcheck_any L h ⟨by omega, by omega, by omega⟩)
    have HH' := Lib.hid hh
    clear hh hn
    cases hv : validH h
    · have hck : ckH h = 80 := ckH_no hv
      obtain ⟨Ak, ck, Ap, cp, Ab, cb⟩ := L
      go_enter Try.func12, Try.ntmps12
      go_upto_region 1 with (fail)
      have e := HW0.out
      rw [e]
      clear e
      go_wp2_with (first
        | (go_at_call 10; refine (HU.out).mono ?_; rintro e w1 ⟨rfl, hb1⟩; rw [HH'.out]; have HB1 := Lib.hid hb1; have hc1 := (HB.out.of (hb1.block _ HB.out.lt)).cells; clear hb1)
        | (go_at_call 11; refine (HC.out w1 (HH.out.below HB1.out)).mono ?_; rintro e w2 ⟨rfl, hb2⟩; rw [hck]; have HB2 := Lib.hid (hb0to HB1.out hb2); clear hb2))
      go_ret
      exact ⟨rfl, hb0to HBW.out HB2.out⟩
    · have hck : ckH h = 0 := ckH_yes hv
      have hV := HOK.ofValid hv
      have hbl := hV.bl
      have hpl := hV.pl
      obtain ⟨Ak, ck, Ap, cp, Ab, cb⟩ := L
      clear hV hv
      go_enter Try.func12, Try.ntmps12
      go_upto_region 1 with (fail)
      have e := HW0.out
      rw [e]
      clear e
      go_wp2_with (first
        | (go_at_call 10; refine (HU.out).mono ?_; rintro e w1 ⟨rfl, hb1⟩; rw [HH'.out]; have HB1 := Lib.hid hb1; have hc1 := (HB.out.of (hb1.block _ HB.out.lt)).cells; clear hb1)
        | (go_at_call 11; refine (HC.out w1 (HH.out.below HB1.out)).mono ?_; rintro e w2 ⟨rfl, hb2⟩; rw [hck]; have HB2 := Lib.hid (hb0to HB1.out hb2); clear hb2))
      clear hc0 hc1
      go_loopw [3, 4] (fun n i wr => ∃ k : Nat, k ≤ h.ps.length ∧ i = .int .i64 k ∧ n = .int .i64 ((h.bs.length + 1) ^ k : Nat) ∧ Below W0.heap.size W0 wr) (fun _ i _ => h.ps.length - (intOf i).toNat)
      case atStart => exact ⟨0, Nat.zero_le _, rfl, rfl, HB2.out⟩
      case round =>
        obtain ⟨k, hk, rfl, rfl, hb⟩ := hrel
        have hc := (HB.out.of (hb.block _ HB.out.lt)).cells
        have hP := pow_le hbl (Nat.le_trans hk hpl)
        have hPs := pow_le (k := k) hbl (by omega)
        obtain ⟨P, hPe⟩ : ∃ P, P = (h.bs.length + 1) ^ k := ⟨_, rfl⟩
        rw [← hPe] at hP hPs ⊢
        by_cases hlt : k < h.ps.length
        · have hP2 := pow_le (k := k + 1) hbl (by omega)
          rw [Nat.pow_succ, ← hPe] at hP2
          have q0 : (0 : Int) ≤ (P : Int) * ((h.bs.length : Int) + 1) := by have := Int.natCast_nonneg (P * (h.bs.length + 1)); push_cast at this; exact this
          have q2 : ((P * (h.bs.length + 1) : Nat) : Int) ≤ 15625 := by omega
          have q1 : (P : Int) * ((h.bs.length : Int) + 1) ≤ 15625 := by push_cast at q2; exact q2
          clear q2
          have HN := Lib.hid (show (P : Int) * ((h.bs.length : Int) + 1) = ((h.bs.length + 1) ^ (k + 1) : Nat) by rw [Nat.pow_succ, ← hPe]; push_cast; rfl)
          clear hPe
          go_wp2
          go_roundw
          case rel => exact ⟨k + 1, by omega, by go_num, by rw [← HN.out], hb⟩
          case measure => simp [intOf]; omega
        · obtain rfl : k = h.ps.length := by omega
          have HE := Lib.hid hPe
          clear hPe
          go_wp2
          go_ret
          exact ⟨by rw [← HE.out]; simp; omega, hb0to HBW.out hb⟩
  · have hf : farB h = true := by rw [farB, hh]; rfl
    rw [hf]
    have HH' := Lib.hid hh
    clear hh hf
    obtain ⟨Ak, ck, Ap, cp, Ab, cb⟩ := L
    go_enter Try.func12, Try.ntmps12
    go_upto_region 1 with (fail)
    have e := HW0.out
    rw [e]
    clear e
    go_wp2_with (go_at_call 10; refine (HU.out).mono ?_; rintro e w1 ⟨rfl, hb1⟩; rw [HH'.out]; have HB1 := Lib.hid hb1; clear hb1)
    go_ret
    exact ⟨rfl, hb0to HBW.out HB1.out⟩

set_option maxRecDepth 100000 in
set_option maxHeartbeats 4000000 in
theorem rIn_any (l : List Int) (hl : l.length ≤ 1000) (x : Int) (A : Option Addr) (c : Nat) (w : World) (hI : IntsAt w w.heap.size A l) :
    Calls Try.prog 77 #[.slice A l.length c, .int .i64 x] w fun e w' => e = .returned (.bool (decide (x ∈ l))) ∧ Below w.heap.size w w' := by
  have HI := Lib.hid hI
  clear hI
  go_enter Try.func77, Try.ntmps77
  go_wp2
  go_loopw [5] (fun i wr => ∃ k : Nat, k ≤ l.length ∧ i = .int .i64 k ∧ Hid (∀ j, j < k → l[j]? ≠ some x) ∧ Below w.heap.size w wr) (fun i _ => l.length - (intOf i).toNat)
  case atStart => exact ⟨0, Nat.zero_le _, rfl, Lib.hid (fun j hj => by omega), Below.refl _ _⟩
  case round =>
    obtain ⟨k, hk', rfl, hno, hb⟩ := hrel
    by_cases hlt : k < l.length
    · obtain ⟨y, hy⟩ : ∃ y, l[k]? = some y := ⟨_, List.getElem?_eq_getElem hlt⟩
      obtain ⟨b1, o1, rfl, b1lt, d1⟩ := HI.out.at_ hy
      have e1 := below_cell hb d1
      have hki : (k : Int) < l.length := by omega
      have hk0' : (0 : Int) ≤ (k : Int) := by omega
      have HY := Lib.hid hy
      clear hy d1
      by_cases hxy : y = x
      · subst hxy
        have HE := Lib.hid (show decide (y ∈ l) = true from decide_eq_true (List.mem_of_getElem? HY.out))
        go_wp2
        go_ret
        exact ⟨by rw [HE.out]; rfl, hb⟩
      · have HN := Lib.hid (show ∀ j, j < k + 1 → l[j]? ≠ some x from fun j hj => by
          rcases Nat.lt_succ_iff_lt_or_eq.1 hj with h1 | rfl
          · exact hno.out j h1
          · rw [HY.out]; simpa using hxy)
        have hne : decide (y = x) = false := decide_eq_false hxy
        clear hno
        go_wp2
        go_roundw
        case rel => exact ⟨k + 1, by omega, by go_num, HN, hb⟩
        case measure => simp [intOf]; omega
    · obtain rfl : k = l.length := by omega
      have HE := Lib.hid (show decide (x ∈ l) = false from decide_eq_false fun hm => by
        obtain ⟨j, hj, e⟩ := List.mem_iff_getElem.1 hm
        exact hno.out j hj (by rw [List.getElem?_eq_getElem hj, e]))
      clear hno
      go_wp2
      go_ret
      exact ⟨by rw [HE.out]; rfl, hb⟩
end Go.Proofs.Ytmbcpmnigggbaaa
namespace Go.Proofs.Ytmbcpmnigggbaaa
open Go.RowKit

/-! A law of an iterator that makes memory; words on blocks. -/
theorem set_other_heap {W : World} {b o k : Nat} {u : Value} (hk : k < W.heap.size) (hne : k ≠ b) : (W.setCell ⟨b, o, none⟩ u).heap[k]? = W.heap[k]? := ((KpB.refl (fun k => k = b) W.heap.size W).set o u (.inl rfl)).block k hk hne
theorem al_below (W : World) (o : Obj) : Below W.heap.size W (W.alloc o) := (Below.refl _ W).alloc (Nat.le_refl _) o
theorem cell_of_heap {W : World} {b o : Nat} {arr : Array Value} {t : TypeId} {v : Value} (h : W.heap[b]? = some (.cells arr t (0, 0))) (hv : arr[o]? = some v) : W.cell? ⟨b, o, none⟩ = some v := by
  unfold World.cell?
  simp only [h]
  exact hv
theorem frozen_of_heap {W : World} {b : Nat} {arr : Array Value} {t : TypeId} (h : W.heap[b]? = some (.cells arr t (0, 0))) (o : Nat) : W.frozen? ⟨b, o, none⟩ = false := by
  unfold World.frozen?
  simp only [h]
  simp
theorem heap_keep {W : World} {b : Nat} {o o' : Obj} (h : W.heap[b]? = some o) : (W.alloc o').heap[b]? = some o := (Below.heap_alloc _ _ _ (heap_lt h)).trans h
theorem heap_new1 (W : World) (o : Obj) : (W.alloc o).heap[W.heap.size]? = some o := World.alloc_heap_new W o
theorem heap_new2 (W : World) (o1 o2 : Obj) : ((W.alloc o1).alloc o2).heap[W.heap.size + 1]? = some o2 := by
  have := World.alloc_heap_new (W.alloc o1) o2; rwa [World.size_alloc] at this
theorem heap_new3 (W : World) (o1 o2 o3 : Obj) : (((W.alloc o1).alloc o2).alloc o3).heap[W.heap.size + 1 + 1]? = some o3 := by
  have := World.alloc_heap_new ((W.alloc o1).alloc o2) o3; rwa [World.size_alloc, World.size_alloc] at this
/-- **AN ITERATOR THAT MAKES MEMORY AND WRITES NOTHING ELDER, WHOSE YIELDS CAN BE SEEN**: 'Sees B x args X' tells what it hands over at a yield, and how that lies in memory (from B on). S: what the round may write of what lay in w₀. -/
def SeqMakes {α : Type} (F : Fence) (n : Nat) (P : Program) (g : Nat) (fb lb : Array Value) (S : Nat → Prop) (Sees : Nat → α → Array Value → World → Prop) (xs : List α) (w₀ : World) : Prop :=
  ∀ (l : Nat) (J Jx : List α → World → Prop) (W : World), Below w₀.heap.size w₀ W →
    (∀ s X Y, W.heap.size ≤ X.heap.size → J s X → Below X.heap.size X Y → J s Y) →
    (∀ s X Y, W.heap.size ≤ X.heap.size → Jx s X → Below X.heap.size X Y → Jx s Y) →
    (∀ pre x args X, W.heap.size ≤ X.heap.size → J pre X → Sees W.heap.size x args X → pre ++ [x] <+: xs →
      YieldAt F (n - 1) P l args X fun e X' => KpB (fun k => S k ∨ Seg w₀.heap.size W.heap.size k) X.heap.size X X' ∧
        ((e = .returned (.bool true) ∧ J (pre ++ [x]) X') ∨ (e = .returned (.bool false) ∧ Jx (pre ++ [x]) X'))) →
    J [] W →
    CallsIn F n P g (fb ++ #[.func (.yield l) #[] #[]] ++ lb) W fun e W' => (∃ v, e = .returned v) ∧ W.heap.size ≤ W'.heap.size ∧ (J xs W' ∨ ∃ pre, pre <+: xs ∧ Jx pre W')

/-- How the body of a round may be left. -/
def makesPost {α : Type} (S : Nat → Prop) (I : List α → World → Prop) (Ix : Code → List α → World → Prop) (xs : List α) (X : World) : Exit → Act → World → Prop
  | .normal, _, X' => KpB S X.heap.size X X' ∧ I xs X'
  | .ret, _, X' => KpB S X.heap.size X X' ∧ Ix .ret xs X'
  | .exit id, _, X' => KpB S X.heap.size X X' ∧ Ix (.exit id) xs X'
  | .goto t, _, X' => KpB S X.heap.size X X' ∧ Ix (.goto t) xs X'
  | .panic _, _, _ => False
  | .outgrown, _, _ => False

variable {F : Fence} {n : Nat} {P : Program}

theorem wpIn_rangeFunc_makes {α : Type} {g : Operand} {ps : Array Tmp} {assign body : Code} {Q : Exit → Act → World → Prop} {a : Act} {w : World}
    (hro : F.round = none) (h1 : 1 ≤ n) {gf : Nat} {fb lb : Array Value} (hg : a.eval g = .func (.func gf) fb lb) (hFg : F.fn gf) (eg : ∀ args w, (callFunc gf args).run P w = .ok (.enter gf args) w)
    {S : Nat → Prop} {Sees : Nat → α → Array Value → World → Prop} {xs : List α} {w0 : World} (hseq : SeqMakes F (n - 1) P gf fb lb S Sees xs w0) (hb0 : Below w0.heap.size w0 w) (hS : ∀ k, S k → k < w.heap.size)
    (hps : ∀ B x args X, Sees B x args X → args.size = ps.size)
    (hSees : ∀ B x args X Y, B ≤ X.heap.size → Sees B x args X → KpB (fun k => k < B) X.heap.size X Y → Sees B x args Y)
    (I : List α → World → Prop) (Ix : Code → List α → World → Prop)
    (hI : ∀ s X Y, w.heap.size + 2 ≤ X.heap.size → I s X → KpB (Seg w.heap.size (w.heap.size + 2)) X.heap.size X Y → I s Y)
    (hIx : ∀ c s X Y, w.heap.size + 2 ≤ X.heap.size → Ix c s X → KpB (Seg w.heap.size (w.heap.size + 2)) X.heap.size X Y → Ix c s Y)
    (h0 : ∀ X, w.heap.size + 2 ≤ X.heap.size → Below w.heap.size w X → I [] X)
    (Ax : α → Array Value → Act → World → Prop) (hAx : ∀ x args a' X Y, w.heap.size + 2 ≤ X.heap.size → Ax x args a' X → KpB (fun k => k < w.heap.size + 2) X.heap.size X Y → Ax x args a' Y)
    (hassign : ∀ (l : Nat) (x : α) (args : Array Value) (X : World) (K : Act → World → Prop), w.heap.size + 2 ≤ X.heap.size → Sees (w.heap.size + 2) x args X → (∀ a' X', (X' = X ∨ ∃ o, X' = X.alloc o) → Ax x args a' X' → K a' X') →
      assign.wpIn (F.inRound l) (n - 1 - 1) P (Exit.then K (fun _ _ _ => False)) { tmps := (ps.zip args).foldl (fun t (p, v) => t.setIfInBounds p v) a.tmps, defers := [] } X)
    (hbody : ∀ (l : Nat) (pre : List α) (x : α) (args : Array Value) (a' : Act) (X : World), w.heap.size + 2 ≤ X.heap.size → pre ++ [x] <+: xs → I pre X → Sees (w.heap.size + 2) x args X → Ax x args a' X →
      body.wpIn (F.inRound l) (n - 1 - 1) P (makesPost S I Ix (pre ++ [x]) X) a' X)
    (hdone : ∀ (X : World), w.heap.size + 2 ≤ X.heap.size → I xs X → X.heap[w.heap.size]? = some (.deferred (some [])) → Q .normal { a with defers := { target := .collected w.heap.size, args := #[] } :: a.defers } X)
    (hstop : ∀ (c : Code) (pre : List α) (X : World), w.heap.size + 2 ≤ X.heap.size → pre <+: xs → Ix c pre X → X.heap[w.heap.size]? = some (.deferred (some [])) →
      c.wpIn F n P Q { a with defers := { target := .collected w.heap.size, args := #[] } :: a.defers } X) :
    (Code.rangeFunc g ps assign body).wpIn F n P Q a w := by
  refine wpIn_rangeFunc ?_
  intro fn hfn
  rw [hro]
  obtain ⟨rec, hrec⟩ : ∃ rec : LoopState → Option Code → Loop, rec = fun st pe => { state := st, pending := pe, fn, tmps := a.tmps, params := ps, assign, body, defers := w.heap.size } := ⟨_, rfl⟩
  obtain ⟨W1, hW1⟩ : ∃ W1, (w.alloc (.deferred (some []))).alloc (.loop (rec .ready none)) = W1 := ⟨_, rfl⟩
  have hL1 : W1.heap[w.heap.size + 1]? = some (.loop (rec .ready none)) := by
    rw [← hW1]; have := World.alloc_heap_new (w.alloc (.deferred (some []))) (.loop (rec .ready none)); rwa [World.size_alloc] at this
  have hK1 : W1.heap[w.heap.size]? = some (.deferred (some [])) := by
    rw [← hW1]; exact (Below.heap_alloc _ _ _ (by simp)).trans (World.alloc_heap_new w _)
  have hb1w : Below w.heap.size w W1 := by
    rw [← hW1]; exact ((Below.refl _ w).alloc (Nat.le_refl _) _).alloc (by simp) _
  have hb1 : Below w0.heap.size w0 W1 := hb0.trans (hb1w.mono hb0.size)
  have hz1 : W1.heap.size = w.heap.size + 2 := by rw [← hW1]; simp
  refine ⟨w.heap.size + 1, [{ target := .collected w.heap.size, args := #[] }], W1, { target := .fn (.func gf) lb, args := fb ++ #[.func (.yield (w.heap.size + 1)) #[] #[]] }, W1, gf,
    fb ++ #[.func (.yield (w.heap.size + 1)) #[] #[]] ++ lb, W1, ?_, ?_, ?_, ?_, fun _ => h1, ?_⟩
  · rw [← hW1, hrec]; exact run_enterLoop_outer _ _ _ _ _
  · simp only [resolve, hg]
    simp [go_sem, Deferred.ofValue]
  · intro f' hf'; simp [Target.leads] at hf'; subst hf'; exact hFg
  · simp [invoke, go_sem, eg]
  · have hbk : ∀ {X Y : World}, Below X.heap.size X Y → KpB (Seg w.heap.size (w.heap.size + 2)) X.heap.size X Y := fun h => kpB_of_below h
    refine (hseq (w.heap.size + 1)
      (fun pre X => I pre X ∧ X.heap[w.heap.size + 1]? = some (.loop (rec .ready none)) ∧ X.heap[w.heap.size]? = some (.deferred (some [])))
      (fun pre X => ∃ c, Ix c pre X ∧ X.heap[w.heap.size + 1]? = some (.loop (rec .done (some c))) ∧ X.heap[w.heap.size]? = some (.deferred (some [])))
      W1 hb1
      (fun s X Y hX hs hk => ⟨hI s X Y (by omega) hs.1 (hbk hk), (hk.block _ (by omega)).trans hs.2.1, (hk.block _ (by omega)).trans hs.2.2⟩)
      (fun s X Y hX hs hk => by
        obtain ⟨c, hc, hl, hkk⟩ := hs
        exact ⟨c, hIx c s X Y (by omega) hc (hbk hk), (hk.block _ (by omega)).trans hl, (hk.block _ (by omega)).trans hkk⟩)
      ?_ ⟨h0 _ (by omega) hb1w, hL1, hK1⟩).mono ?_
    · -- one round
      rintro pre x args X hX ⟨hi, hl, hk⟩ hsee hpre
      rw [hz1] at hsee
      have hy := run_yield (P := P) (args := args) hl (by rw [hrec]; exact hps _ x args X hsee)
      rw [hrec] at hy
      refine ⟨fn, _, assign, body, hy, roundIn_of_wpIn hfn (hassign _ x args X _ (by omega) hsee ?_)⟩
      clear hy
      intro a' Xa hXa hax
      have hka : KpB (fun _ => False) X.heap.size X Xa := by
        rcases hXa with rfl | ⟨o, rfl⟩
        · exact KpB.refl _ _ _
        · exact (KpB.refl _ _ _).alloc _ (Nat.le_refl _)
      have hza : X.heap.size ≤ Xa.heap.size := hka.size
      have hla : Xa.heap[w.heap.size + 1]? = some (.loop (rec .ready none)) := (hka.block _ (by omega) (fun h => h)).trans hl
      have hkka : Xa.heap[w.heap.size]? = some (.deferred (some [])) := (hka.block _ (by omega) (fun h => h)).trans hk
      have hia : I pre Xa := hI pre X Xa (by omega) hi (hka.mono (Nat.le_refl _) fun _ _ h => h.elim)
      have hseea : Sees (w.heap.size + 2) x args Xa := hSees _ _ _ _ _ (by omega) hsee (hka.mono (Nat.le_refl _) fun _ _ h => h.elim)
      refine ⟨_, run_beginRound hla (by rw [hrec]), ?_⟩
      obtain ⟨Xb, hXb⟩ : ∃ Xb, Xa.putObj (w.heap.size + 1) (.loop { rec .ready none with state := .busy }) = Xb := ⟨_, rfl⟩
      have hlb : Xb.heap[w.heap.size + 1]? = some (.loop { rec .ready none with state := .busy }) := by rw [← hXb]; exact World.putObj_heap_same (by omega)
      have hkb : Xb.heap[w.heap.size]? = some (.deferred (some [])) := by rw [← hXb]; exact (World.putObj_heap_other (by omega)).trans hkka
      have hzb : Xb.heap.size = Xa.heap.size := by rw [← hXb]; simp
      have hab : KpB (fun k => k = w.heap.size + 1) Xa.heap.size Xa Xb := by rw [← hXb]; exact (KpB.refl _ _ _).put _ _ (.inl rfl)
      rw [hXb]
      have hib : I pre Xb := hI pre Xa Xb (by omega) hia (hab.mono (Nat.le_refl _) fun k _ h => ⟨by omega, by omega⟩)
      have hseeb : Sees (w.heap.size + 2) x args Xb := hSees _ _ _ _ _ (by omega) hseea (hab.mono (Nat.le_refl _) fun k _ h => (by have h' : k = w.heap.size + 1 := h; omega : k < w.heap.size + 2))
      have haxb : Ax x args a' Xb := hAx _ _ _ _ _ (by omega) hax (hab.mono (Nat.le_refl _) fun k _ h => (by have h' : k = w.heap.size + 1 := h; omega : k < w.heap.size + 2))
      refine wpIn_mono (hbody _ pre x args a' Xb (by omega) hpre hib hseeb haxb) ?_
      have hS' : ∀ {X3}, KpB S Xb.heap.size Xb X3 → ∀ (o : Obj), KpB (fun k => S k ∨ Seg w0.heap.size W1.heap.size k) X.heap.size X (X3.putObj (w.heap.size + 1) o) := fun {X3} h3 o => by
        have hw0 := hb0.size
        have hl' : Seg w0.heap.size W1.heap.size (w.heap.size + 1) := ⟨by omega, by omega⟩
        have k1 : KpB (fun k => S k ∨ Seg w0.heap.size W1.heap.size k) X.heap.size X Xa := hka.mono (by omega) fun _ _ h => h.elim
        have k2 : KpB (fun k => S k ∨ Seg w0.heap.size W1.heap.size k) X.heap.size Xa Xb := hab.mono (by omega) fun k _ h => by have h' : k = w.heap.size + 1 := h; subst h'; exact .inr hl'
        have k3 : KpB (fun k => S k ∨ Seg w0.heap.size W1.heap.size k) X.heap.size Xb X3 := h3.mono (by omega) fun _ _ h => .inl h
        exact ((k1.trans k2).trans k3).put _ _ (.inl (.inr hl'))
      have fin : ∀ (jump : Option Code) (X3 : World), KpB S Xb.heap.size Xb X3 →
          (Instr.endRound (w.heap.size + 1) jump).run P X3 = .ok (.bool jump.isNone) (X3.putObj (w.heap.size + 1) (.loop (rec (if jump.isNone then .ready else .done) jump))) ∧
          w.heap.size + 2 ≤ X3.heap.size ∧
          (X3.putObj (w.heap.size + 1) (.loop (rec (if jump.isNone then .ready else .done) jump))).heap[w.heap.size + 1]? = some (.loop (rec (if jump.isNone then .ready else .done) jump)) ∧
          (X3.putObj (w.heap.size + 1) (.loop (rec (if jump.isNone then .ready else .done) jump))).heap[w.heap.size]? = some (.deferred (some [])) ∧
          KpB (Seg w.heap.size (w.heap.size + 2)) X3.heap.size X3 (X3.putObj (w.heap.size + 1) (.loop (rec (if jump.isNone then .ready else .done) jump))) := fun jump X3 hk3 => by
        have hns : ¬ S (w.heap.size + 1) := fun h => by have := hS _ h; omega
        have hns' : ¬ S w.heap.size := fun h => by have := hS _ h; omega
        have hl3 := (hk3.block _ (by omega) hns).trans hlb
        have hk3' := (hk3.block _ (by omega) hns').trans hkb
        have hz3 := hk3.size
        have := run_endRound (P := P) jump hl3
        rw [hrec] at this ⊢
        exact ⟨this, by omega, World.putObj_heap_same (by omega), (World.putObj_heap_other (by omega)).trans hk3', (KpB.refl _ _ _).put _ _ (.inl ⟨by omega, by omega⟩)⟩
      rintro e a3 X3 hp
      cases e with
      | normal =>
        obtain ⟨hk3, hi3⟩ := hp
        obtain ⟨hr, hz3, hl4, hk4, hs4⟩ := fin none X3 hk3
        exact ⟨_, _, hr, hS' hk3 _, .inl ⟨rfl, hI _ _ _ hz3 hi3 hs4, hl4, hk4⟩⟩
      | ret =>
        obtain ⟨hk3, hi3⟩ := hp
        obtain ⟨hr, hz3, hl4, hk4, hs4⟩ := fin (some .ret) X3 hk3
        exact ⟨_, _, hr, hS' hk3 _, .inr ⟨rfl, .ret, hIx _ _ _ _ hz3 hi3 hs4, hl4, hk4⟩⟩
      | exit id =>
        obtain ⟨hk3, hi3⟩ := hp
        obtain ⟨hr, hz3, hl4, hk4, hs4⟩ := fin (some (.exit id)) X3 hk3
        exact ⟨_, _, hr, hS' hk3 _, .inr ⟨rfl, .exit id, hIx _ _ _ _ hz3 hi3 hs4, hl4, hk4⟩⟩
      | goto t =>
        obtain ⟨hk3, hi3⟩ := hp
        obtain ⟨hr, hz3, hl4, hk4, hs4⟩ := fin (some (.goto t)) X3 hk3
        exact ⟨_, _, hr, hS' hk3 _, .inr ⟨rfl, .goto t, hIx _ _ _ _ hz3 hi3 hs4, hl4, hk4⟩⟩
      | panic ch => exact hp.elim
      | outgrown => exact hp.elim
    · -- behind the iterator
      rintro e W2 ⟨⟨v, rfl⟩, hD2, (⟨hi, hl, hk⟩ | ⟨pre, hpre, c, hi, hl, hk⟩)⟩
      · refine ⟨none, _, by have := run_endLoop (P := P) hl (by rw [hrec]; simp); rw [hrec] at this; exact this, hdone _ (by simp; omega) (hI _ _ _ (by omega) hi ((KpB.refl _ _ _).put _ _ (.inl ⟨by omega, by omega⟩))) ((World.putObj_heap_other (by omega)).trans hk)⟩
      · refine ⟨some c, _, by have := run_endLoop (P := P) hl (by rw [hrec]; simp); rw [hrec] at this; exact this, hstop c pre _ (by simp; omega) hpre (hIx _ _ _ _ (by omega) hi ((KpB.refl _ _ _).put _ _ (.inl ⟨by omega, by omega⟩))) ((World.putObj_heap_other (by omega)).trans hk)⟩
end Go.Proofs.Ytmbcpmnigggbaaa
namespace Go.Proofs.Ytmbcpmnigggbaaa.Cu
open Go.RowKit
def vals (l : List Int) : List Value := l.map (Value.int .i64)
/-- A block that holds costs. -/
def CB (W : World) (b : Nat) (l : List Int) : Prop := W.heap[b]? = some (.cells (vals l).toArray 226 (0, 0))
theorem CB.lt {W : World} {b : Nat} {l : List Int} (h : CB W b l) : b < W.heap.size := heap_lt h
theorem CB.cell {W : World} {b n : Nat} {l : List Int} {x : Int} (h : CB W b l) (hx : l[n]? = some x) : W.cell? ⟨b, n, none⟩ = some (.int .i64 x) := cell_of_heap (o := n) h (by simp [vals, hx])
theorem CB.frozen {W : World} {b : Nat} {l : List Int} (h : CB W b l) (o : Nat) : W.frozen? ⟨b, o, none⟩ = false := frozen_of_heap h o
theorem CB.of {W W' : World} {b : Nat} {l : List Int} (h : CB W b l) (e : W'.heap[b]? = W.heap[b]?) : CB W' b l := e.trans h
theorem CB.next {W W' : World} {b : Nat} {l : List Int} (h : CB W b l) (hb : Below W.heap.size W W') : CB W' b l := h.of (hb.block _ h.lt)
theorem CB.set {W : World} {b : Nat} {l : List Int} (h : CB W b l) (n : Nat) (x : Int) : CB (W.setCell ⟨b, n, none⟩ (.int .i64 x)) b (l.set n x) := by
  unfold CB
  rw [heap_set (o := n) (.int .i64 x) h]
  simp [vals]
theorem CB.other {W : World} {b z o : Nat} {l : List Int} {u : Value} (h : CB W b l) (hn : b ≠ z) : CB (W.setCell ⟨z, o, none⟩ u) b l := h.of (set_other_heap h.lt hn)
theorem CB.range {W : World} {b : Nat} {l : List Int} (h : CB W b l) : W.rangeAt b 0 (vals l) := fun j v hj => by
  simp [World.cell?, show W.heap[b]? = _ from h, hj]
theorem CB.there {W : World} {b : Nat} {l : List Int} (h : CB W b l) : W.there b 0 l.length := fun j hj => by
  have hj' : j < (vals l).length := by simpa [vals] using hj
  exact ⟨by simp [World.cell?, show W.heap[b]? = _ from h, hj'], by simp [World.frozen?, show W.heap[b]? = _ from h]⟩
theorem vals_one (l : List Int) : (vals l).toArray.all (·.oneCell') = true := by
  rw [Array.all_eq_true']
  intro v hv
  simp [vals] at hv
  obtain ⟨x, _, rfl⟩ := hv
  rfl
theorem info226 {l : List Int} (hl : l.length = 31) : (Try.prog.info? 226).map (·.size) = some (vals l).length := by rw [vals, List.length_map, hl]; kernel_rfl
theorem info226' {l : List Int} (hl : l.length = 31) : (Try.prog.info? 226).map (·.size) = some (vals l).toArray.size := by rw [List.size_toArray]; exact info226 hl
/-- Many cells of a block stored one behind the other. -/
theorem setCells_heap (b : Nat) (t : TypeId) : ∀ (vs : List Value) (o : Nat) (pre post : List Value) (W : World), post.length = vs.length → ∀ suf : List Value, W.heap[b]? = some (.cells (pre ++ post ++ suf).toArray t (0, 0)) → pre.length = o → (W.setCells b o vs).heap[b]? = some (.cells (pre ++ vs ++ suf).toArray t (0, 0))
  | [], o, pre, post, W, hl, suf, h, _ => by
    have : post = [] := List.length_eq_zero_iff.1 hl
    subst this
    exact h
  | v :: vs, o, pre, post, W, hl, suf, h, ho => by
    cases post with
    | nil => simp at hl
    | cons p post =>
      rw [World.setCells]
      have h1 := heap_set (o := o) v h
      have e : (pre ++ (p :: post) ++ suf).toArray.setIfInBounds o v = ((pre ++ [v]) ++ post ++ suf).toArray := by
        subst ho
        simp
      rw [e] at h1
      have := setCells_heap b t vs (o + 1) (pre ++ [v]) post _ (by simpa using hl) suf h1 (by simp [ho])
      simpa using this
theorem CB.put {W : World} {b : Nat} {l l' : List Int} (h : CB W b l) (hl : l'.length = l.length) : CB (W.setCells b 0 (vals l')) b l' := by
  have := setCells_heap b 226 (vals l') 0 [] (vals l) W (by simp [vals, hl]) [] (by have h' : W.heap[b]? = some (.cells (vals l).toArray 226 (0, 0)) := h; simpa using h') rfl
  have e : (W.setCells b 0 (vals l')).heap[b]? = some (.cells (vals l').toArray 226 (0, 0)) := by simpa using this
  exact e
theorem setCells_other (b z : Nat) (hn : b ≠ z) : ∀ (vs : List Value) (o : Nat) (W : World), b < W.heap.size → (W.setCells z o vs).heap[b]? = W.heap[b]?
  | [], _, _, _ => rfl
  | v :: vs, o, W, h => by
    rw [World.setCells, setCells_other b z hn vs (o + 1) _ (by simpa using h)]
    exact set_other_heap h hn
theorem setCells_size (z : Nat) : ∀ (vs : List Value) (o : Nat) (W : World), (W.setCells z o vs).heap.size = W.heap.size
  | [], _, _ => rfl
  | v :: vs, o, W => by rw [World.setCells, setCells_size z vs (o + 1)]; simp
theorem below_setCells {n : Nat} {w : World} {z : Nat} (hz : n ≤ z) : ∀ (vs : List Value) (o : Nat) (W : World), Below n w W → Below n w (W.setCells z o vs)
  | [], _, _, h => h
  | v :: vs, o, W, h => by
    rw [World.setCells]
    exact below_setCells hz vs (o + 1) _ (h.setCell (p := ⟨z, o, none⟩) hz v)
theorem CB.far_put {W : World} {b z : Nat} {l : List Int} (h : CB W b l) (hn : b ≠ z) (vs : List Value) (o : Nat) : CB (W.setCells z o vs) b l := h.of (setCells_other b z hn vs o W h.lt)
/-- A whole array is loaded. -/
theorem wpl_loadC {ops : Array Oper} {rest : List Oper} {o : Oper} {a : Act} {w : World} {Q : Exit → Act → World → Prop} (hgd : o.guard = none) (x : Operand) (ho : o.op = .load 226 x) (b : Nat)
    (hx : a.eval x = .pointer (some ⟨b, 0, none⟩)) (l : List Int) (hl : l.length = 31) (hC : CB w b l) (h : wpList Try.prog ops Q rest (a.put o.dst (.agg (vals l).toArray)) w) : wpList Try.prog ops Q (o :: rest) a w :=
  wpList_load_mid hgd 226 x ho b 0 hx (vals l) _ hC.range Try.underlying226 rfl (info226 hl) h
/-- A whole array is stored. -/
theorem wpl_storeC {ops : Array Oper} {rest : List Oper} {o : Oper} {a : Act} {w : World} {Q : Exit → Act → World → Prop} (hgd : o.guard = none) (x y : Operand) (ho : o.op = .store 226 x y) (b : Nat)
    (hx : a.eval x = .pointer (some ⟨b, 0, none⟩)) (l l' : List Int) (hy : a.eval y = .agg (vals l').toArray) (hl : l.length = 31) (hl' : l'.length = 31) (hC : CB w b l)
    (h : wpList Try.prog ops Q rest (a.put o.dst undef) (w.setCells b 0 (vals l'))) : wpList Try.prog ops Q (o :: rest) a w :=
  wpList_store_mid hgd 226 x y ho b 0 (vals l').toArray hx hy (by
    have := hC.there
    rw [hl] at this
    have e : (vals l').toArray.size = 31 := by simp [vals, hl']
    rw [e]; exact this) (info226' hl') (vals_one l') (by rw [List.toList_toArray]; exact h)
theorem loadC {W : World} {b : Nat} {l : List Int} (hl : l.length = 31) (hC : CB W b l) : (Instr.loadAt 226 (.pointer (some ⟨b, 0, none⟩))).run Try.prog W = .ok (.agg (vals l).toArray) W :=
  run_loadAt_mid W b 0 226 (vals l) _ hC.range Try.underlying226 rfl (info226 hl)
theorem CB.new (W : World) (l : List Int) : CB (W.alloc (.cells (vals l).toArray 226)) W.heap.size l := World.alloc_heap_new W _

end Go.Proofs.Ytmbcpmnigggbaaa.Cu
namespace Go.Proofs.Ytmbcpmnigggbaaa.Cu
open Go.RowKit
theorem minL_snoc (l : List Int) (x : Int) (h : l ≠ []) : minL (l ++ [x]) = min (minL l) x := by
  cases l with
  | nil => exact absurd rfl h
  | cons y ys => simp [minL]
theorem minL_next {l : List Int} {k : Nat} {x : Int} (hk : 0 < k) (h : l[k]? = some x) : minL (l.take (k + 1)) = min (minL (l.take k)) x := by
  have hlt := (List.getElem?_eq_some_iff.1 h).1
  rw [List.take_add_one, h]
  refine minL_snoc _ _ (fun e => ?_)
  have h2 := congrArg List.length e
  rw [List.length_take, List.length_nil] at h2
  omega
set_option maxRecDepth 100000 in
set_option maxHeartbeats 4000000 in
theorem min_any (b : Nat) (l : List Int) (hl : l.length = 31) (w : World) (hC : CB w b l) : Calls Try.prog 194 #[.slice (some ⟨b, 0, none⟩) 31 31] w fun e w' => e = .returned (.int .i64 (minL l)) ∧ w = w' := by
  obtain ⟨x0, hx0⟩ : ∃ x, l[0]? = some x := ⟨_, List.getElem?_eq_getElem (by omega)⟩
  have e0 := hC.cell hx0
  have HC := Lib.hid hC
  have H0 := Lib.hid (show x0 = minL (l.take 1) by
    cases l with
    | nil => simp at hl
    | cons y ys =>
      simp at hx0
      subst hx0
      simp [minL])
  clear hx0 hC
  go_enter Try.func194, Try.ntmps194
  go_wp2
  go_loopw [3, 4] (fun m i wr => ∃ k : Nat, 1 ≤ k ∧ k ≤ 31 ∧ i = .int .i64 k ∧ (∃ y : Int, m = .int .i64 y ∧ Hid (y = minL (l.take k))) ∧ w = wr) (fun _ i _ => 31 - (intOf i).toNat)
  case atStart => exact ⟨1, Nat.le_refl _, by omega, rfl, ⟨x0, rfl, H0⟩, rfl⟩
  case round =>
    obtain ⟨k, h1, hk, rfl, ⟨y, rfl, hy⟩, rfl⟩ := hrel
    by_cases hlt : k < 31
    · obtain ⟨x, hx⟩ : ∃ x, l[k]? = some x := ⟨_, List.getElem?_eq_getElem (by omega)⟩
      have e1 := HC.out.cell hx
      have hd : decide ((k : Int) < 31) = true := decide_eq_true (by omega)
      have hki : (k : Int) < 31 := by omega
      have HN := Lib.hid (show (if x < y then x else y) = minL (l.take (k + 1)) by
        rw [minL_next h1 hx, ← hy.out]
        split <;> omega)
      clear hx
      go_wp2
      go_roundw
      case rel => exact ⟨k + 1, by omega, by omega, by go_num, ⟨_, rfl, HN⟩, by trivial⟩
      case measure => simp [intOf]; omega
    · obtain rfl : k = 31 := by omega
      have e : y = minL l := by rw [hy.out, List.take_of_length_le (by omega)]
      subst e
      go_wp2
      go_ret
      exact ⟨rfl, rfl⟩

end Go.Proofs.Ytmbcpmnigggbaaa.Cu
namespace Go.Proofs.Ytmbcpmnigggbaaa.Cu
open Go.RowKit
abbrev encP (p : CP) : Value := .agg #[.int .i64 p.of, .int .i64 p.wl, .int .i64 p.wh, .int .i64 p.sl, .int .i64 p.sh, .int .i64 p.pe]
/-- A table in memory. -/
def TableAt (W : World) (B : Nat) (A : Option Addr) (t : List CP) : Prop :=
  t = [] ∨ ∃ b off, A = some ⟨b, off, none⟩ ∧ b < B ∧ ∀ (i : Nat) p, t[i]? = some p → W.cell? ⟨b, off + i * 6, none⟩ = some (.int .i64 p.of) ∧ W.cell? ⟨b, off + i * 6 + 1, none⟩ = some (.int .i64 p.wl) ∧ W.cell? ⟨b, off + i * 6 + 2, none⟩ = some (.int .i64 p.wh) ∧ W.cell? ⟨b, off + i * 6 + 3, none⟩ = some (.int .i64 p.sl) ∧ W.cell? ⟨b, off + i * 6 + 4, none⟩ = some (.int .i64 p.sh) ∧ W.cell? ⟨b, off + i * 6 + 5, none⟩ = some (.int .i64 p.pe)
theorem TableAt.keep {W W' : World} {B B' : Nat} {A : Option Addr} {t : List CP} (h : TableAt W B A t) (hB : B ≤ B') (hk : ∀ b o, b < B → W'.cell? ⟨b, o, none⟩ = W.cell? ⟨b, o, none⟩) : TableAt W' B' A t := by
  rcases h with h | ⟨b, off, hA, hb, hc⟩
  · exact .inl h
  · exact .inr ⟨b, off, hA, by omega, fun i p hp => by rw [hk _ _ hb, hk _ _ hb, hk _ _ hb, hk _ _ hb, hk _ _ hb, hk _ _ hb]; exact hc i p hp⟩
theorem TableAt.lt {W W' : World} {A : Option Addr} {t : List CP} (h : TableAt W W.heap.size A t) (hb : Below W.heap.size W W') : TableAt W' W'.heap.size A t :=
  h.keep hb.size fun _ _ hlt => hb.cell (p := ⟨_, _, none⟩) hlt
theorem TableAt.at_ {W : World} {B : Nat} {A : Option Addr} {t : List CP} (h : TableAt W B A t) {k : Nat} {p : CP} (hx : t[k]? = some p) : ∃ b off, A = some ⟨b, off, none⟩ ∧ b < B ∧
    W.cell? ⟨b, off + k * 6, none⟩ = some (.int .i64 p.of) ∧ W.cell? ⟨b, off + k * 6 + 1, none⟩ = some (.int .i64 p.wl) ∧ W.cell? ⟨b, off + k * 6 + 2, none⟩ = some (.int .i64 p.wh) ∧ W.cell? ⟨b, off + k * 6 + 3, none⟩ = some (.int .i64 p.sl) ∧ W.cell? ⟨b, off + k * 6 + 4, none⟩ = some (.int .i64 p.sh) ∧ W.cell? ⟨b, off + k * 6 + 5, none⟩ = some (.int .i64 p.pe) := by
  rcases h with h | ⟨b, off, hA, hb, hc⟩
  · subst h; simp at hx
  · exact ⟨b, off, hA, hb, hc k p hx⟩
def IdxP (p : CP → Bool) (l : List CP) (r : Int) : Prop := decide (0 ≤ r) = l.any p
set_option maxRecDepth 100000 in
set_option maxHeartbeats 4000000 in
theorem idxC_any (gf pb c : Nat) (A : Option Addr) (l : List CP) (hl : l.length ≤ 1000) (p : CP → Bool) (w : World) (hP : TableAt w w.heap.size A l) (eg : ∀ args w, (callFunc gf args).run Try.prog w = .ok (.enter gf args) w)
    (hf : ∀ (x : CP) (W : World), x ∈ l → Below w.heap.size w W → Calls Try.prog gf #[encP x, .pointer (some ⟨pb, 0, none⟩)] W fun e w' => e = .returned (.bool (p x)) ∧ Below W.heap.size W w') :
    Calls Try.prog 211 #[.slice A l.length c, .func (.func gf) #[] #[.pointer (some ⟨pb, 0, none⟩)]] w fun e w' => ∃ r, e = .returned (.int .i64 r) ∧ IdxP p l r ∧ Below w.heap.size w w' := by
  have HF := Lib.hid hf
  have HPn := Lib.hid hP
  clear hf hP
  go_enter Try.func211, Try.ntmps211
  go_wp2
  go_loopw [5, 8] (fun _ i wr => ∃ k : Nat, k ≤ l.length ∧ i = .int .i64 k ∧ Hid (∀ x ∈ l.take k, p x = false) ∧ Below w.heap.size w wr) (fun _ i _ => l.length - (intOf i).toNat)
  case atStart => exact ⟨0, Nat.zero_le _, rfl, Lib.hid (fun j hj => by simp at hj), Below.refl _ _⟩
  case round =>
    obtain ⟨k, hk, rfl, HK, hb⟩ := hrel
    by_cases hlt : k < l.length
    · obtain ⟨x, hx⟩ : ∃ x, l[k]? = some x := ⟨_, List.getElem?_eq_getElem hlt⟩
      obtain ⟨b, off, rfl, hbb, c1, c2, c3, c4, c5, c6⟩ := HPn.out.at_ hx
      have d1 := below_cell hb c1
      have d2 := below_cell hb c2
      have d3 := below_cell hb c3
      have d4 := below_cell hb c4
      have d5 := below_cell hb c5
      have d6 := below_cell hb c6
      have hmem : x ∈ l := List.mem_of_getElem? hx
      have htk : l.take (k + 1) = l.take k ++ [x] := by rw [List.take_add_one, hx]; rfl
      have HT := Lib.hid htk
      clear hx c1 c2 c3 c4 c5 c6 htk
      cases hp : p x
      all_goals
        have hc := HF.out x wr hmem hb
        rw [hp] at hc
        have HC := Lib.hid hc
        have HP := Lib.hid hp
        clear hc hp
        go_wp2_with (refine HC.out.mono ?_; rintro e w1 ⟨rfl, hb1⟩)
      · go_roundw
        case rel => exact ⟨k + 1, by omega, by go_num, Lib.hid (fun y hy => by
            rw [HT.out, List.mem_append] at hy
            rcases hy with hy | hy
            · exact HK.out y hy
            · rw [List.mem_singleton.1 hy]; exact HP.out), hb.trans (hb1.mono hb.size)⟩
        case measure => simp [intOf]; omega
      · go_ret
        refine ⟨k, rfl, ?_, hb.trans (hb1.mono hb.size)⟩
        rw [IdxP, List.any_eq_true.2 ⟨x, hmem, HP.out⟩]
        simp
    · obtain rfl : k = l.length := by omega
      go_wp2
      go_ret
      refine ⟨-1, rfl, ?_, hb⟩
      have : l.any p = false := by
        rw [List.any_eq_false]
        intro y hy
        rw [HK.out y (by rw [List.take_length]; exact hy)]
        simp
      rw [IdxP, this]
      rfl
theorem hasC_any (gf pb c : Nat) (A : Option Addr) (l : List CP) (hl : l.length ≤ 1000) (p : CP → Bool) (w : World) (hP : TableAt w w.heap.size A l) (eg : ∀ args w, (callFunc gf args).run Try.prog w = .ok (.enter gf args) w)
    (hf : ∀ (x : CP) (W : World), x ∈ l → Below w.heap.size w W → Calls Try.prog gf #[encP x, .pointer (some ⟨pb, 0, none⟩)] W fun e w' => e = .returned (.bool (p x)) ∧ Below W.heap.size W w') :
    Calls Try.prog 206 #[.slice A l.length c, .func (.func gf) #[] #[.pointer (some ⟨pb, 0, none⟩)]] w fun e w' => e = .returned (.bool (l.any p)) ∧ Below w.heap.size w w' := by
  have H := Lib.hid (idxC_any gf pb c A l hl p w hP eg hf)
  clear hf hP eg
  go_enter Try.func206, Try.ntmps206
  go_wp2_with (go_at_call 211; refine H.out.mono ?_; rintro e w1 ⟨r, rfl, hr, hb1⟩; have HR := Lib.hid hr; clear hr)
  go_ret
  exact ⟨by rw [← HR.out]; rfl, hb1⟩

set_option maxRecDepth 100000 in
set_option maxHeartbeats 4000000 in
theorem cut1_any (p : CP) (g : Nat) (i : Int) (w : World) (hg : w.cell? ⟨g, 0, none⟩ = some (.int .i64 i)) :
    Calls Try.prog 207 #[encP p, .pointer (some ⟨g, 0, none⟩)] w fun e w' => e = .returned (.bool (decide (p.of = i))) ∧ Below w.heap.size w w' := by
  have hg2 := below_cell (al_below w (.cells #[.int .i64 p.of, .int .i64 p.wl, .int .i64 p.wh, .int .i64 p.sl, .int .i64 p.sh, .int .i64 p.pe] 51)) hg
  go_enter Try.func207, Try.ntmps207
  go_wp2
  go_ret
  exact ⟨rfl, al_below _ _⟩
set_option maxRecDepth 100000 in
set_option maxHeartbeats 4000000 in
theorem canCut_any (A : Option Addr) (c : Nat) (t : List CP) (hl : t.length ≤ 1000) (k : Nat) (w : World) (hT : TableAt w w.heap.size A t) :
    Calls Try.prog 192 #[.slice A t.length c, .int .i64 k] w fun e w' => e = .returned (.bool (canCut t k)) ∧ Below w.heap.size w w' := by
  have hb := al_below w (.cells #[.int .i64 (k : Int)] 3)
  have HB := Lib.hid hb
  have hx := heap_new1 w (.cells #[.int .i64 (k : Int)] 3)
  have H := Lib.hid (hasC_any 207 w.heap.size c A t hl (fun p => decide (p.of = (k : Int))) _ (hT.lt hb) (enters_of Try.func207 (by kernel_rfl) rfl) (fun x W _ hW => cut1_any x w.heap.size k W (below_cell hW (cell_of_heap (o := 0) hx rfl))))
  clear hT hx hb
  go_enter Try.func192, Try.ntmps192
  go_wp2_with (go_at_call 206; refine H.out.mono ?_; rintro e w1 ⟨rfl, hb1⟩; have HB1 := Lib.hid hb1; clear hb1)
  go_ret
  exact ⟨rfl, hb0to HB.out HB1.out⟩

end Go.Proofs.Ytmbcpmnigggbaaa.Cu
namespace Go.Proofs.Ytmbcpmnigggbaaa.Cu
open Go.RowKit
attribute [local go_sem] Oper.semAt_some
/-- The parts of a table, from the last one on, k of them. -/
def backTo (t : List CP) (k : Nat) : List (CP × Nat) := t.zipIdx.reverse.take k
def backL (t : List CP) : List (CP × Nat) := t.zipIdx.reverse
theorem back_at {t : List CP} {k : Nat} (h : k < t.length) : ∃ p, t[t.length - 1 - k]? = some p ∧ (backL t)[k]? = some (p, t.length - 1 - k) := by
  have h1 : t.length - 1 - k < t.length := by omega
  refine ⟨t[t.length - 1 - k], List.getElem?_eq_getElem h1, ?_⟩
  unfold backL
  rw [List.getElem?_reverse (by simpa using h), List.length_zipIdx, List.getElem?_zipIdx, List.getElem?_eq_getElem h1]
  simp
theorem back_succ {t : List CP} {k : Nat} {p : CP} (h : (backL t)[k]? = some (p, t.length - 1 - k)) : backTo t (k + 1) = backTo t k ++ [(p, t.length - 1 - k)] := by
  unfold backTo
  rw [List.take_add_one, show t.zipIdx.reverse[k]? = _ from h]
  rfl
theorem back_pre (t : List CP) (k : Nat) : backTo t k <+: backL t := List.take_prefix _ _
theorem back_all (t : List CP) : backTo t t.length = backL t := by
  unfold backTo backL
  rw [List.take_of_length_le (by simp)]
theorem back_len {t : List CP} {k : Nat} (h : k ≤ t.length) : (backTo t k).length = k := by simp [backTo]; omega
def SeesB (_ : Nat) (x : CP × Nat) (args : Array Value) (_ : World) : Prop := args = #[.int .i64 (x.2 : Int), encP x.1]
set_option maxRecDepth 100000 in
set_option maxHeartbeats 4000000 in
theorem back_makes (n : Nat) (A : Option Addr) (c : Nat) (t : List CP) (hl : t.length ≤ 1000) (g : Nat) (w0 w : World) (hT : TableAt w0 w0.heap.size A t) (hg : w.heap[g]? = some (.cells #[.slice A t.length c] 103 (0, 0))) (hb0 : Below w0.heap.size w0 w) (S : Nat → Prop) (hgS : ¬ S g) (hS : ∀ k, S k → w0.heap.size ≤ k ∧ k < w.heap.size) :
    SeqMakes Fence.wide n Try.prog 205 #[] #[.pointer (some ⟨g, 0, none⟩)] S SeesB (backL t) w := by
  intro l J Jx W hbW hJ hJx hY h0
  have HSK := Lib.hid (show ∀ k, (S k ∨ Seg w.heap.size W.heap.size k) → w0.heap.size ≤ k from fun k hk => by
    rcases hk with hk | hk
    · exact (hS k hk).1
    · have := hk.1; have := hb0.size; omega)
  have HT := Lib.hid hT
  have hgl := heap_lt hg
  have HGW := Lib.hid ((hbW.block g hgl).trans hg)
  have HKG := Lib.hid (show ∀ X Y : World, w.heap.size ≤ X.heap.size → KpB (fun k => S k ∨ Seg w.heap.size W.heap.size k) X.heap.size X Y → Y.heap[g]? = X.heap[g]? from fun X Y hX hk => hk.block g (by omega) (fun hs => hs.elim hgS (fun hs => by have := hs.1; omega)))
  have HSW := Lib.hid hbW.size
  have hbw := hb0to hb0 hbW
  have HBW := Lib.hid hbw
  have HJ := Lib.hid hJ
  have HY := Lib.hid hY
  have H0 := Lib.hid h0
  have g1 := cell_of_heap (o := 0) HGW.out rfl
  have hw1 : IntKind.i64.wrap ((t.length : Int) - 1) = (t.length : Int) - 1 := IntWalk.i64_in _ (by omega)
  clear hT hg hb0 hbw hJ hJx hY h0 hS hbW hgS hgl
  refine callsIn_of_wp Try.func205 rfl trivial ?_ rfl
  simp only [Try.ntmps205, List.size_toArray, List.length_cons, List.length_nil, Nat.reduceAdd, Nat.reduceSub, Array.replicate_succ, Array.replicate_zero, List.push_toArray, List.append_toArray, List.nil_append, List.cons_append]
  gi_wp2_with (fail)
  gi_loopw [3] (fun i wr => ∃ k : Nat, k ≤ t.length ∧ i = .int .i64 ((t.length : Int) - 1 - (k : Int)) ∧ Hid (J (backTo t k) wr) ∧ Hid (Below w0.heap.size w0 wr) ∧ Hid (W.heap.size ≤ wr.heap.size) ∧ Hid (wr.heap[g]? = some (.cells #[.slice A t.length c] 103 (0, 0)))) (fun i _ => (intOf i + 1).toNat)
  case atStart => exact ⟨0, Nat.zero_le _, by simp, Lib.hid H0.out, HBW, Lib.hid (Nat.le_refl _), HGW⟩
  case round =>
    obtain ⟨k, hk, rfl, hJk, hb, hsz, hgr⟩ := hrel
    have g1 := cell_of_heap (o := 0) hgr.out rfl
    by_cases hlt : k < t.length
    · obtain ⟨p, hp, hbk⟩ := back_at hlt
      have HT2 := Lib.hid (back_succ hbk)
      have HPR := Lib.hid (back_pre t (k + 1))
      obtain ⟨b1, o1, rfl, hbb, d1, d2, d3, d4, d5, d6⟩ := HT.out.at_ hp
      have e1 := below_cell hb.out d1
      have e2 := below_cell hb.out d2
      have e3 := below_cell hb.out d3
      have e4 := below_cell hb.out d4
      have e5 := below_cell hb.out d5
      have e6 := below_cell hb.out d6
      have hi : ((t.length : Int) - 1 - (k : Int)) = ((t.length - 1 - k : Nat) : Int) := by omega
      have HI := Lib.hid hi
      have hY2 := HY.out (backTo t k) (p, t.length - 1 - k) #[.int .i64 ((t.length - 1 - k : Nat) : Int), encP p] wr hsz.out hJk.out rfl (by rw [← HT2.out]; exact HPR.out)
      rw [← HT2.out] at hY2
      obtain ⟨fn, tmps, assign, body, hy, hR⟩ := hY2
      have HR := Lib.hid hR
      rw [hi]
      have hil : t.length - 1 - k < t.length := by omega
      have hge : decide ((0 : Int) ≤ ((t.length - 1 - k : Nat) : Int)) = true := decide_eq_true (by omega)
      have hwi : IntKind.i64.wrap (((t.length - 1 - k : Nat) : Int) - 1) = ((t.length - 1 - k : Nat) : Int) - 1 := IntWalk.i64_in _ (by omega)
      clear hR hi hp hbk d1 d2 d3 d4 d5 d6
      gi_wp2_with (fail)
      refine ⟨(fun h => by cases h), HR.out.mono ?_⟩
      clear HR hy
      rintro e X' ⟨hk2, (⟨rfl, hj2⟩ | ⟨rfl, hj2⟩)⟩
      · have HJ2 := Lib.hid hj2
        have HK2 := Lib.hid hk2
        clear hj2 hk2
        gi_wp2_with (fail)
        go_roundw
        case rel => exact ⟨k + 1, by omega, by rw [show ((t.length : Int) - 1 - ((k + 1 : Nat) : Int)) = ((t.length - 1 - k : Nat) : Int) - 1 by omega], HJ2, Lib.hid (hb.out.trans (HK2.out.belowOf hb.out.size HSK.out)), Lib.hid (Nat.le_trans hsz.out HK2.out.size), Lib.hid ((HKG.out _ _ (Nat.le_trans HSW.out hsz.out) HK2.out).trans hgr.out)⟩
        case measure => first | (simp [intOf]; done) | (simp [intOf]; omega)
      · have HJ2 := Lib.hid hj2
        have HK2 := Lib.hid hk2
        clear hj2 hk2
        gi_wp2_with (fail)
        refine bodyPost_ret (results_none rfl _ _ _) rfl ?_
        exact ⟨⟨_, rfl⟩, Nat.le_trans hsz.out HK2.out.size, .inr ⟨_, HPR.out, HJ2.out⟩⟩
    · obtain rfl : k = t.length := by omega
      have HJN := Lib.hid hJk.out
      rw [back_all] at HJN
      have hge : decide ((0 : Int) ≤ (t.length : Int) - 1 - (t.length : Int)) = false := decide_eq_false (by omega)
      have hm1 : (t.length : Int) - 1 - (t.length : Int) = -1 := by omega
      rw [hm1]
      gi_wp2_with (fail)
      go_end0
      exact ⟨⟨_, rfl⟩, hsz.out, .inl HJN.out⟩
theorem back_any (A : Option Addr) (c n : Nat) (w : World) : Calls Try.prog 191 #[.slice A n c] w fun e w' => e = .returned (.func (.func 205) #[] #[.pointer (some ⟨w.heap.size, 0, none⟩)]) ∧ w' = w.alloc (.cells #[.slice A n c] 103) := by
  go_enter Try.func191, Try.ntmps191
  go_wp2
  go_ret
  exact ⟨rfl, rfl⟩

end Go.Proofs.Ytmbcpmnigggbaaa.Cu
namespace Go.Proofs.Ytmbcpmnigggbaaa.Cu
open Go.RowKit
def fillL (k : Nat) : List Int := List.replicate k far ++ List.replicate (31 - k) 0
theorem fill_len {k : Nat} (h : k ≤ 31) : (fillL k).length = 31 := by simp [fillL]; omega
theorem fill_next {k : Nat} (h : k < 31) : (fillL k).set k far = fillL (k + 1) := by
  apply List.ext_getElem?
  intro n
  rw [List.getElem?_set, fill_len (by omega)]
  unfold fillL
  simp only [List.getElem?_append, List.getElem?_replicate, List.length_replicate]
  by_cases h1 : k = n
  · subst h1
    simp [h]
  · by_cases h2 : n < k
    · simp [h1, h2, Nat.lt_succ_of_lt h2]
    · have h3 : ¬ n < k + 1 := by omega
      simp only [h1, h2, h3, if_false]
      by_cases h4 : n < 31
      · rw [if_pos (by omega), if_pos (by omega)]
      · rw [if_neg (by omega), if_neg (by omega)]
theorem fill_end : (fillL 31).set 0 0 = nothingL := rfl
theorem CB.zero (W : World) : CB (W.alloc (.cells #[.int .i64 0, .int .i64 0, .int .i64 0, .int .i64 0, .int .i64 0, .int .i64 0, .int .i64 0, .int .i64 0, .int .i64 0, .int .i64 0, .int .i64 0, .int .i64 0, .int .i64 0, .int .i64 0, .int .i64 0, .int .i64 0, .int .i64 0, .int .i64 0, .int .i64 0, .int .i64 0, .int .i64 0, .int .i64 0, .int .i64 0, .int .i64 0, .int .i64 0, .int .i64 0, .int .i64 0, .int .i64 0, .int .i64 0, .int .i64 0, .int .i64 0] 226)) W.heap.size (List.replicate 31 0) := World.alloc_heap_new W _
set_option maxRecDepth 100000 in
set_option maxHeartbeats 4000000 in
theorem nothing_any (w : World) : Calls Try.prog 190 #[] w fun e w' => e = .returned (.agg (vals nothingL).toArray) ∧ Below w.heap.size w w' := by
  have HZ := Lib.hid (CB.zero w)
  have HB := Lib.hid (al_below w (.cells #[.int .i64 0, .int .i64 0, .int .i64 0, .int .i64 0, .int .i64 0, .int .i64 0, .int .i64 0, .int .i64 0, .int .i64 0, .int .i64 0, .int .i64 0, .int .i64 0, .int .i64 0, .int .i64 0, .int .i64 0, .int .i64 0, .int .i64 0, .int .i64 0, .int .i64 0, .int .i64 0, .int .i64 0, .int .i64 0, .int .i64 0, .int .i64 0, .int .i64 0, .int .i64 0, .int .i64 0, .int .i64 0, .int .i64 0, .int .i64 0, .int .i64 0] 226))
  go_enter Try.func190, Try.ntmps190
  go_wp2
  go_loopw [2] (fun i wr => ∃ k : Nat, k ≤ 31 ∧ i = .int .i64 k ∧ Hid (CB wr w.heap.size (fillL k)) ∧ Hid (Below w.heap.size w wr)) (fun i _ => 31 - (intOf i).toNat)
  case atStart => exact ⟨0, Nat.zero_le _, rfl, HZ, HB⟩
  case round =>
    obtain ⟨k, hk, rfl, M, B⟩ := hrel
    by_cases hlt : k < 31
    · have hx : (fillL k)[k]? = some 0 := by
        unfold fillL
        rw [List.getElem?_append_right (by simp), List.length_replicate, Nat.sub_self, List.getElem?_replicate, if_pos (by omega)]
      have c0 := M.out.cell hx
      have cf := M.out.frozen
      have hd : decide ((k : Int) < 31) = true := decide_eq_true (by omega)
      clear hx
      go_wp2
      go_roundw
      case rel => exact ⟨k + 1, by omega, by go_num, Lib.hid (by rw [← fill_next hlt]; exact M.out.set k far), Lib.hid (B.out.setCell (p := ⟨w.heap.size, k, none⟩) (Nat.le_refl _) _)⟩
      case measure => simp [intOf]; omega
    · obtain rfl : k = 31 := by omega
      have c0 := M.out.cell (n := 0) (x := far) rfl
      have cf := M.out.frozen
      have M2 := Lib.hid (show CB (wr.setCell ⟨w.heap.size, 0, none⟩ (.int .i64 0)) w.heap.size nothingL by rw [← fill_end]; exact M.out.set 0 0)
      have B2 := Lib.hid (B.out.setCell (p := ⟨w.heap.size, 0, none⟩) (Nat.le_refl _) (.int .i64 0))
      go_wp2_with (first
        | (refine wpl_loadC (by rfl) (.tmp 0) (by rfl) w.heap.size (by rfl) nothingL rfl M2.out ?_)
        | (refine wpl_storeC (by rfl) (.tmp 0) (.tmp 9) (by rfl) w.heap.size (by rfl) nothingL nothingL (by rfl) rfl rfl M2.out ?_))
      refine bodyPost_ret (results_cell rfl rfl (loadC rfl (M2.out.put rfl))) rfl ⟨rfl, below_setCells (Nat.le_refl _) _ _ _ B2.out⟩
/-- The sums so far: the first part's weights below k are done, and of k those with j weights of the second. -/
def outV (c d : List Int) (k j : Nat) : List Int := (List.range 31).map fun n => if k ≤ n ∧ n < k + j then convTo c d n (k + 1) else convTo c d n k
theorem outV_len (c d : List Int) (k j : Nat) : (outV c d k j).length = 31 := by simp [outV]
theorem outV_start (c d : List Int) : List.replicate 31 far = outV c d 0 0 := by
  apply List.ext_getElem?
  intro n
  by_cases hn : n < 31
  · rw [List.getElem?_replicate, if_pos hn]
    simp only [outV, List.getElem?_map, List.getElem?_range hn, Option.map_some]
    rw [if_neg (by omega)]
    rfl
  · rw [List.getElem?_eq_none (by rw [List.length_replicate]; omega), List.getElem?_eq_none (by rw [outV_len]; omega)]
theorem outV_row (c d : List Int) {k : Nat} (hk : k < 31) : outV c d k (31 - k) = outV c d (k + 1) 0 := by
  unfold outV
  refine List.map_congr_left fun n hn => ?_
  have hn' := List.mem_range.1 hn
  rw [if_neg (show ¬ (k + 1 ≤ n ∧ n < k + 1 + 0) by omega)]
  by_cases h : k ≤ n
  · rw [if_pos ⟨h, by omega⟩]
  · rw [if_neg (fun e => h e.1), conv_skip (by omega)]
theorem outV_end (c d : List Int) : outV c d 31 0 = plusL c d := by
  unfold outV plusL
  refine List.map_congr_left fun n hn => ?_
  have hn' := List.mem_range.1 hn
  rw [if_neg (by omega)]
theorem outV_at (c d : List Int) {k j : Nat} (h : k + j < 31) : (outV c d k j)[k + j]? = some (convTo c d (k + j) k) := by
  simp only [outV, List.getElem?_map, List.getElem?_range h, Option.map_some]
  rw [if_neg (by omega)]
theorem outV_yes {c d : List Int} {k j : Nat} (h : k + j < 31) : (outV c d k j).set (k + j) (convTo c d (k + j) (k + 1)) = outV c d k (j + 1) := by
  apply List.ext_getElem?
  intro n
  rw [List.getElem?_set, outV_len]
  by_cases hn : n < 31
  · by_cases e : k + j = n
    · subst e
      simp only [if_true, h, outV, List.getElem?_map, List.getElem?_range h, Option.map_some]
      rw [if_pos (by omega)]
    · simp only [if_neg e, outV, List.getElem?_map, List.getElem?_range hn, Option.map_some]
      congr 1
      by_cases h2 : k ≤ n ∧ n < k + j
      · rw [if_pos h2, if_pos ⟨h2.1, by omega⟩]
      · rw [if_neg h2, if_neg (by omega)]
  · rw [if_neg (by omega), List.getElem?_eq_none (by rw [outV_len]; omega), List.getElem?_eq_none (by rw [outV_len]; omega)]
theorem outV_no {c d : List Int} {k j : Nat} (h : k + j < 31) (e : convTo c d (k + j) (k + 1) = convTo c d (k + j) k) : outV c d k (j + 1) = outV c d k j := by
  rw [← outV_yes h, e]
  apply List.ext_getElem?
  intro n
  rw [List.getElem?_set, outV_len]
  by_cases e2 : k + j = n
  · subst e2
    rw [if_pos rfl, if_pos h, outV_at c d h]
  · rw [if_neg e2]
theorem slice31 (W : World) (b : Nat) {k : Nat} (hk : k ≤ 31) : (Instr.sliceAt 226 (.pointer (some ⟨b, 0, none⟩)) none (some (.int .i64 (31 - (k : Int)))) none).run Try.prog W = .ok (.slice (some ⟨b, 0, none⟩) (31 - k) 31) W := by
  have e : Try.prog.arrayLen 226 = 31 := by kernel_rfl
  have e3 : Try.prog.elem 226 = 3 := by kernel_rfl
  have es : (sizeOf (Try.prog.elem 226)).run Try.prog W = .ok 1 W := by
    obtain ⟨i0, hi, hz0, hz1, hz2⟩ := info_parts info3'
    rw [e3]
    simp [sizeOf, typeInfo, hi, hz1]
  rw [run_sliceAt_array_h W 226 ⟨b, 0, none⟩ (by rw [e, e3]; exact Try.underlying226) .i64 (31 - (k : Int)) (by omega) (by rw [e]; omega), es]
  simp [slicedAt, e, show (31 - (k : Int)).toNat = 31 - k by omega, Addr.add_mid]
structure PIn (w : World) (z : Nat) (c d out : List Int) (W : World) : Prop where
  c : CB W w.heap.size c
  d : CB W (w.heap.size + 1) d
  r : CB W (w.heap.size + 2) (List.replicate 31 0)
  o : CB W z out
  hz : w.heap.size + 2 < z
  B : Below w.heap.size w W
theorem PIn.set {w : World} {z : Nat} {c d out : List Int} {W : World} (M : PIn w z c d out W) (n : Nat) (x : Int) : PIn w z c d (out.set n x) (W.setCell ⟨z, n, none⟩ (.int .i64 x)) :=
  ⟨M.c.other (by have := M.hz; omega), M.d.other (by have := M.hz; omega), M.r.other (by have := M.hz; omega), M.o.set n x, M.hz, M.B.setCell (p := ⟨z, n, none⟩) (by have := M.hz; show w.heap.size ≤ z; omega) _⟩
theorem PIn.drew {w : World} {z : Nat} {c d out : List Int} {W : World} (M : PIn w z c d out W) : PIn w z c d out W.drew := ⟨M.c, M.d, M.r, M.o, M.hz, M.B.drew⟩
set_option maxRecDepth 100000 in
set_option maxHeartbeats 4000000 in
theorem plus_any (c d : List Int) (a1 a2 : Int) (hc : Fin a1 c) (hd : Fin a2 d) (ha : a1 + a2 < far) (w : World) : Calls Try.prog 193 #[.agg (vals c).toArray, .agg (vals d).toArray] w fun e w' => e = .returned (.agg (vals (plusL c d)).toArray) ∧ Below w.heap.size w w' := by
  obtain ⟨W0, hW0⟩ : ∃ W0, ((w.alloc (.cells (vals c).toArray 226)).alloc (.cells (vals d).toArray 226)).alloc (.cells #[.int .i64 0, .int .i64 0, .int .i64 0, .int .i64 0, .int .i64 0, .int .i64 0, .int .i64 0, .int .i64 0, .int .i64 0, .int .i64 0, .int .i64 0, .int .i64 0, .int .i64 0, .int .i64 0, .int .i64 0, .int .i64 0, .int .i64 0, .int .i64 0, .int .i64 0, .int .i64 0, .int .i64 0, .int .i64 0, .int .i64 0, .int .i64 0, .int .i64 0, .int .i64 0, .int .i64 0, .int .i64 0, .int .i64 0, .int .i64 0, .int .i64 0] 226) = W0 := ⟨_, rfl⟩
  have hb0 : Below w.heap.size w W0 := by rw [← hW0]; exact hb0to (hb0to (al_below _ _) (al_below _ _)) (al_below _ _)
  have hC : CB W0 w.heap.size c := by rw [← hW0]; exact heap_keep (heap_keep (CB.new w c))
  have hD : CB W0 (w.heap.size + 1) d := by rw [← hW0]; exact heap_keep (heap_new2 w _ _)
  have hR : CB W0 (w.heap.size + 2) (List.replicate 31 0) := by rw [← hW0]; exact heap_new3 w _ _ _
  have HW0 := Lib.hid hW0
  have HC := Lib.hid hC
  have HD := Lib.hid hD
  have HR := Lib.hid hR
  have HB := Lib.hid hb0
  have HFC := Lib.hid hc
  have HFD := Lib.hid hd
  have HN := Lib.hid (nothing_any W0)
  have hs0 : w.heap.size + 2 < W0.heap.size := hR.lt
  clear hW0 hb0 hC hD hR hc hd
  go_enter Try.func193, Try.ntmps193
  go_upto_region 1 with (fail)
  have e := HW0.out
  rw [e]
  clear e
  go_upto_region 2 with (first
    | (go_at_call 190; refine HN.out.mono ?_; rintro e w1 ⟨rfl, hb⟩; have HB1 := Lib.hid hb; have HZ := Lib.hid (CB.zero w1); clear hb)
    | (refine wpl_storeC (by rfl) (.tmp 5) (.tmp 8) (by rfl) w1.heap.size (by rfl) (List.replicate 31 0) nothingL (by rfl) rfl rfl HZ.out ?_))
  obtain ⟨W2, hW2⟩ : ∃ x, (w1.alloc (.cells #[.int .i64 0, .int .i64 0, .int .i64 0, .int .i64 0, .int .i64 0, .int .i64 0, .int .i64 0, .int .i64 0, .int .i64 0, .int .i64 0, .int .i64 0, .int .i64 0, .int .i64 0, .int .i64 0, .int .i64 0, .int .i64 0, .int .i64 0, .int .i64 0, .int .i64 0, .int .i64 0, .int .i64 0, .int .i64 0, .int .i64 0, .int .i64 0, .int .i64 0, .int .i64 0, .int .i64 0, .int .i64 0, .int .i64 0, .int .i64 0, .int .i64 0] 226)).setCells w1.heap.size 0 (vals nothingL) = x := ⟨_, rfl⟩
  have M := Lib.hid (show PIn w w1.heap.size c d nothingL W2 by
    rw [← hW2]
    have hbA := hb0to HB1.out (al_below w1 (.cells #[.int .i64 0, .int .i64 0, .int .i64 0, .int .i64 0, .int .i64 0, .int .i64 0, .int .i64 0, .int .i64 0, .int .i64 0, .int .i64 0, .int .i64 0, .int .i64 0, .int .i64 0, .int .i64 0, .int .i64 0, .int .i64 0, .int .i64 0, .int .i64 0, .int .i64 0, .int .i64 0, .int .i64 0, .int .i64 0, .int .i64 0, .int .i64 0, .int .i64 0, .int .i64 0, .int .i64 0, .int .i64 0, .int .i64 0, .int .i64 0, .int .i64 0] 226))
    have hs := HB1.out.size
    exact ⟨(HC.out.next hbA).far_put (by have := HC.out.lt; omega) _ _, (HD.out.next hbA).far_put (by have := HD.out.lt; omega) _ _, (HR.out.next hbA).far_put (by have := HR.out.lt; omega) _ _, HZ.out.put rfl, by omega, below_setCells (by omega) _ _ _ (hb0to HB.out hbA)⟩)
  rw [hW2]
  clear hW2 HZ HB1 HN HC HD HR HB
  have c0 := M.out.o.cell (n := 0) (x := 0) rfl
  have cf := M.out.o.frozen
  have M2 := Lib.hid (M.out.set 0 far)
  go_upto_region 3 with (fail)
  obtain ⟨W3, hW3⟩ : ∃ x, W2.setCell ⟨w1.heap.size, 0, none⟩ (.int .i64 1099511627776) = x := ⟨_, rfl⟩
  have M3 := Lib.hid (show PIn w w1.heap.size c d (outV c d 0 0) W3 by rw [← hW3, ← outV_start]; exact M2.out)
  rw [hW3]
  clear hW3 c0 cf M M2
  go_wp2
  go_loopw [10] (fun i wr => ∃ k : Nat, k ≤ 31 ∧ i = .int .i64 k ∧ Hid (PIn w w1.heap.size c d (outV c d k 0) wr)) (fun i _ => 31 - (intOf i).toNat)
  case atStart => exact ⟨0, Nat.zero_le _, rfl, M3⟩
  case round =>
    obtain ⟨k, hk, rfl, M⟩ := hrel
    by_cases hlt : k < 31
    · have hd1 : decide ((k : Int) < 31) = true := decide_eq_true (by omega)
      have hsl := slice31 wr (w.heap.size + 1) hk
      go_wp2
      go_loopw [17] (fun i wr => ∃ j : Nat, j ≤ 31 - k ∧ i = .int .i64 j ∧ Hid (PIn w w1.heap.size c d (outV c d k j) wr)) (fun i _ => 31 - k - (intOf i).toNat)
      case atStart => exact ⟨0, Nat.zero_le _, rfl, M⟩
      case round =>
        obtain ⟨j, hj, rfl, M⟩ := hrel
        by_cases hlj : j < 31 - k
        · have hkj : k + j < 31 := by omega
          have hd2 : decide ((j : Int) < ((31 - k : Nat) : Int)) = true := decide_eq_true (by omega)
          obtain ⟨x, hx⟩ : ∃ x, cat c k = x := ⟨_, rfl⟩
          obtain ⟨y, hy⟩ : ∃ y, cat d j = y := ⟨_, rfl⟩
          have cx := M.out.c.cell (n := k) (x := x) (by rw [← hx]; exact cat_at (by rw [HFC.out.1]; exact hlt))
          have cy := M.out.d.cell (n := j) (x := y) (by rw [← hy]; exact cat_at (by rw [HFD.out.1]; omega))
          have co := M.out.o.cell (outV_at c d hkj)
          have cf := M.out.o.frozen
          have hbx : x = far ∨ (-a1 ≤ x ∧ x ≤ a1) := HFC.out.2 k x (by rw [← hx]; exact cat_at (by rw [HFC.out.1]; exact hlt))
          have hby : y = far ∨ (-a2 ≤ y ∧ y ≤ a2) := HFD.out.2 j y (by rw [← hy]; exact cat_at (by rw [HFD.out.1]; omega))
          by_cases h1 : x < far
          · have g1 : decide (x < 1099511627776) = true := decide_eq_true h1
            by_cases h2 : y < far
            · have g2 : decide (y < 1099511627776) = true := decide_eq_true h2
              have HE := Lib.hid (show convTo c d (k + j) (k + 1) = min (convTo c d (k + j) k) (x + y) by rw [conv_yes (by rw [hx]; exact h1) (by rw [hy]; exact h2), hx, hy])
              have HS := Lib.hid (outV_yes (c := c) (d := d) hkj)
              obtain ⟨o, ho⟩ : ∃ o, convTo c d (k + j) k = o := ⟨_, rfl⟩
              rw [ho] at co HE
              have hxx : -a1 ≤ x ∧ x ≤ a1 := by unfold far at *; omega
              have hyy : -a2 ≤ y ∧ y ≤ a2 := by unfold far at *; omega
              have hwx : IntKind.i64.wrap (x + y) = x + y := IntWalk.i64_in _ (by unfold far at ha; omega)
              have hwk : IntKind.i64.wrap ((k : Int) + (j : Int)) = (k : Int) + (j : Int) := IntWalk.i64_in _ (by omega)
              have hk0 : (0 : Int) ≤ (k : Int) + (j : Int) := by omega
              have hk1 : (k : Int) + (j : Int) < 31 := by omega
              have hkn : ((k : Int) + (j : Int)).toNat = k + j := by omega
              have hki : (k : Int) < 31 := by omega
              have hji : (j : Int) < 31 := by omega
              clear hx hy hbx hby ho hxx hyy
              go_upto_region 10 with (fail)
              go_still_tail 17, (by kernel_rfl)
              change wpList _ _ _ _ _ wr.drew
              obtain ⟨m, hm⟩ : ∃ m, (if x + y < o then x + y else o) = m := ⟨_, rfl⟩
              rw [hm]
              have HM := Lib.hid (show convTo c d (k + j) (k + 1) = m by rw [HE.out, ← hm]; split <;> omega)
              clear hm
              go_wp2
              go_roundw
              case rel => exact ⟨j + 1, by omega, by go_num, Lib.hid (by rw [← HS.out, HM.out]; first | exact M.out.drew.set (k + j) m | exact (M.out.set (k + j) m).drew)⟩
              case measure => simp [intOf]; omega
            · have g2 : decide (y < 1099511627776) = false := decide_eq_false h2
              have HE := Lib.hid (show convTo c d (k + j) (k + 1) = convTo c d (k + j) k from conv_no (fun e => h2 (by rw [← hy]; exact e.2)))
              clear hx hy hbx hby
              go_wp2
              go_roundw
              case rel => exact ⟨j + 1, by omega, by go_num, Lib.hid (by rw [outV_no hkj HE.out]; exact M.out)⟩
              case measure => simp [intOf]; omega
          · have g1 : decide (x < 1099511627776) = false := decide_eq_false h1
            have HE := Lib.hid (show convTo c d (k + j) (k + 1) = convTo c d (k + j) k from conv_no (fun e => h1 (by rw [← hx]; exact e.1)))
            clear hx hy hbx hby
            go_wp2
            go_roundw
            case rel => exact ⟨j + 1, by omega, by go_num, Lib.hid (by rw [outV_no hkj HE.out]; exact M.out)⟩
            case measure => simp [intOf]; omega
        · obtain rfl : j = 31 - k := by omega
          have hd2 : decide (((31 - k : Nat) : Int) < ((31 - k : Nat) : Int)) = false := decide_eq_false (by omega)
          go_wp2
          go_roundw
          case rel => exact ⟨k + 1, by omega, by go_num, Lib.hid (by rw [← outV_row c d hlt]; exact M.out)⟩
          case measure => simp [intOf]; omega
    · obtain rfl : k = 31 := by omega
      rw [outV_end] at M
      have hpl := plusL_len c d
      go_wp2_with (first
        | (refine wpl_loadC (by rfl) (.tmp 5) (by rfl) w1.heap.size (by rfl) (plusL c d) hpl M.out.o ?_)
        | (refine wpl_storeC (by rfl) (.tmp 4) (.tmp 49) (by rfl) (w.heap.size + 1 + 1) (by rfl) (List.replicate 31 0) (plusL c d) (by rfl) rfl hpl M.out.r ?_))
      refine bodyPost_ret (results_cell rfl rfl (loadC hpl (M.out.r.put (by rw [hpl]; rfl)))) rfl ⟨rfl, below_setCells (by omega) _ _ _ M.out.B⟩

end Go.Proofs.Ytmbcpmnigggbaaa.Cu
