import Derived.Test.YtmbcpmnigggbaaaU4
import Derived.Deep.DeepCutAuto
namespace Go.Proofs.Ytmbcpmnigggbaaa
open Go.RowKit
set_option maxRecDepth 100000 in
set_option maxHeartbeats 4000000 in
theorem rising_any (l : List Int) (hl : l.length ≤ 1000) (n : Int) (A : Option Addr) (c : Nat) (w : World) (hI : IntsAt w w.heap.size A l) :
    Calls Try.prog 88 #[.slice A l.length c, .int .i64 0, .int .i64 (n - 1)] w fun e w' => e = .returned (.bool (riseB l n)) ∧ Below w.heap.size w w' := by
  have HI := Lib.hid hI
  clear hI
  go_enter Try.func88, Try.ntmps88
  go_wp2
  go_loopw [7] (fun i wr => ∃ k : Nat, k ≤ l.length ∧ i = .int .i64 k ∧ Hid (∀ j, j < k → riseOK l n j = true) ∧ Below w.heap.size w wr) (fun i _ => l.length - (intOf i).toNat)
  case atStart => exact ⟨0, Nat.zero_le _, rfl, Lib.hid (fun j hj => by omega), Below.refl _ _⟩
  case round =>
    obtain ⟨k, hk', rfl, hok, hb⟩ := hrel
    have hsz := hb.size
    by_cases hlt : k < l.length
    · obtain ⟨x, hx⟩ : ∃ x, l[k]? = some x := ⟨_, List.getElem?_eq_getElem hlt⟩
      have hgx : l.getD k 0 = x := by simp [List.getD, hx]
      have hI := HI.out
      obtain ⟨b1, o1, rfl, b1lt, d1⟩ := HI.out.at_ hx
      have e1 := extB_cell (below_cell hb d1)
      have hki : (k : Int) < l.length := by omega
      have hk0' : (0 : Int) ≤ (k : Int) := by omega
      cases hr : inR x 0 (n - 1)
      · have hno : Hid (riseOK l n k = false) := Lib.hid (by rw [riseOK, hgx, hr]; rfl)
        clear hx hgx hI d1
        go_wp2
        refine wp_region_extW (by kernel_rfl) (by kernel_rfl) ?_
        repeat (go_big_quiet_step ((go_at_call 28; exact ext_same (within1_any _ _ _ _))))
        refine wpQuiet_nil ?_
        rintro _ ⟨x1, rfl⟩
        have hb3 := hb0to hb (extB_below wr x1)
        clear e1
        go_wp2
        go_ret
        exact ⟨by rw [riseB_no hlt hno.out]; rfl, hb3⟩
      · rcases Nat.eq_zero_or_pos k with rfl | hk0
        · have hyes : Hid (riseOK l n 0 = true) := Lib.hid (by rw [riseOK, hgx, hr]; rfl)
          simp only [Nat.add_zero] at e1
          clear hx hgx hI d1
          go_wp2
          refine wp_region_extW (by kernel_rfl) (by kernel_rfl) ?_
          repeat (go_big_quiet_step ((go_at_call 28; exact ext_same (within1_any _ _ _ _))))
          refine wpQuiet_nil ?_
          rintro _ ⟨x1, rfl⟩
          have hb3 := hb0to hb (extB_below wr x1)
          clear e1
          go_wp2
          go_roundw
          case rel => exact ⟨1, by omega, by go_num, Lib.hid (fun j hj => by obtain rfl : j = 0 := (by omega); exact hyes.out), hb3⟩
          case measure => simp [intOf]; omega
        · obtain ⟨y, hy⟩ : ∃ y, l[k - 1]? = some y := ⟨_, List.getElem?_eq_getElem (by omega)⟩
          have hgy : l.getD (k - 1) 0 = y := by simp [List.getD, hy]
          obtain ⟨b1', o1', e', _, d2⟩ := hI.at_ hy
          cases e'
          have hd0 : decide (0 < k) = true := by simp; omega
          have ht3 : (1 : Int) ≤ (k : Int) := by omega
          have ht2 : (0 : Int) ≤ (k : Int) - 1 := by omega
          have ht4 : (k : Int) - 1 < l.length := by omega
          have ec : IntKind.i64.wrap ((k : Int) - 1) = ((k - 1 : Nat) : Int) := by rw [IntWalk.i64_in _ (by omega)]; omega
          have e2 := extB_cell (below_cell hb d2)
          have hk1 : ((k - 1 : Nat) : Int) < l.length := by omega
          have hk2 : k - 1 < l.length := by omega
          by_cases hxy : x ≤ y
          · have hdx : decide (x ≤ y) = true := by simpa using hxy
            have hno : Hid (riseOK l n k = false) := Lib.hid (by rw [riseOK, hgx, hgy, hr]; simp; omega)
            clear hx hgx hy hgy hI d1 d2
            go_wp2
            refine wp_region_extW (by kernel_rfl) (by kernel_rfl) ?_
            repeat (go_big_quiet_step ((go_at_call 28; exact ext_same (within1_any _ _ _ _))))
            refine wpQuiet_nil ?_
            rintro _ ⟨x1, rfl⟩
            have hb3 := hb0to hb (extB_below wr x1)
            clear e1 e2
            go_wp2
            go_ret
            exact ⟨by rw [riseB_no hlt hno.out]; rfl, hb3⟩
          · have hdx : decide (x ≤ y) = false := by simpa using hxy
            have hyes : Hid (riseOK l n k = true) := Lib.hid (by rw [riseOK, hgx, hgy, hr]; simp; omega)
            clear hx hgx hy hgy hI d1 d2
            go_wp2
            refine wp_region_extW (by kernel_rfl) (by kernel_rfl) ?_
            repeat (go_big_quiet_step ((go_at_call 28; exact ext_same (within1_any _ _ _ _))))
            refine wpQuiet_nil ?_
            rintro _ ⟨x1, rfl⟩
            have hb3 := hb0to hb (extB_below wr x1)
            clear e1 e2
            go_wp2
            go_roundw
            case rel => exact ⟨k + 1, by omega, by go_num, Lib.hid (fun j hj => by by_cases e : j = k; exact e ▸ hyes.out; exact hok.out j (by omega)), hb3⟩
            case measure => simp [intOf]; omega
    · obtain rfl : k = l.length := by omega
      have hrise := riseB_yes hok.out
      have HR := Lib.hid hrise
      clear hrise
      go_wp2
      go_ret
      exact ⟨by rw [HR.out]; rfl, hb⟩
theorem all_range {pack : List Int} {nb : Nat} (h : pack.all (fun b => inR b 0 ((nb : Int) - 1)) = true) : InRange 0 nb pack := fun x hx => by
  have := inR_true.1 (List.all_eq_true.1 h x hx)
  omega
theorem goodB_parts {h : House} {pack : List Int} (hg : goodB h pack = true) : pack.length = h.ps.length ∧ InRange 0 h.bs.length pack ∧ fitsC h (packedC h pack) = true := by
  simp only [goodB, Bool.and_eq_true, decide_eq_true_eq] at hg
  exact ⟨hg.1, all_range hg.2.1, hg.2.2⟩
theorem goodB_eq {h : House} (hv : HOK h) {pack : List Int} (hl : pack.length = h.ps.length) (hr : pack.all (fun b => inR b 0 ((h.bs.length : Int) - 1)) = true) : goodB h pack = fitsR h pack := by
  rw [goodB, hr, decide_eq_true hl, fits_packed hv hl ((all_range hr).low (by omega)) (by have := hv.bl; omega)]
  rfl
set_option maxRecDepth 100000 in
set_option maxHeartbeats 4000000 in
theorem isPacking_any (L : HL) (h : House) (hv : HOK h) (pack : List Int) (hl : pack.length ≤ 1000) (A : Option Addr) (c : Nat) (w : World) (hH : HouseAt w w.heap.size L h) (hI : IntsAt w w.heap.size A pack) :
    Calls Try.prog 85 #[L.enc h, .slice A pack.length c] w fun e w' => e = .returned (.bool (goodB h pack)) ∧ Below w.heap.size w w' := by
  have HH := Lib.hid hH
  have HI := Lib.hid hI
  have HV := Lib.hid hv
  have hpl6 := hv.pl
  have hbl4 := hv.bl
  clear hH hI hv
  by_cases hlen : pack.length = h.ps.length
  · have hd : ((pack.length : Int) != (h.ps.length : Int)) = false := by simp; omega
    have HLEN := Lib.hid hlen
    clear hlen
    go_enter Try.func85, Try.ntmps85
    go_wp2
    go_loopw [5] (fun i wr => ∃ k : Nat, k ≤ pack.length ∧ i = .int .i64 k ∧ Hid (∀ (j : Nat) (x : Int), j < k → pack[j]? = some x → inR x 0 (h.bs.length - 1) = true) ∧ Below w.heap.size w wr ∧ HBox wr w.heap.size L h) (fun i _ => pack.length - (intOf i).toNat)
    case atStart => exact ⟨0, Nat.zero_le _, rfl, Lib.hid (fun j x hj => by omega), (Below.refl _ _).alloc (Nat.le_refl _) _, HBox.new w L h⟩
    case round =>
      obtain ⟨k, hk, rfl, hok, hb, hB⟩ := hrel
      have hsz := hb.size
      obtain ⟨g0, g1, g2, g3⟩ := hB.cells
      by_cases hlt : k < pack.length
      · obtain ⟨x, hx⟩ : ∃ x, pack[k]? = some x := ⟨_, List.getElem?_eq_getElem hlt⟩
        obtain ⟨b1, o1, rfl, b1lt, d1⟩ := HI.out.at_ hx
        have e5 := extB_cell (below_cell hb d1)
        have e0 := extB_cell g0
        have e1 := extB_cell g1
        have e2 := extB_cell g2
        have e3 := extB_cell g3
        have hki : (k : Int) < pack.length := by omega
        have hk0 : (0 : Int) ≤ (k : Int) := by omega
        have HX := Lib.hid hx
        clear hx d1
        cases hr : inR x 0 (h.bs.length - 1)
        · have hno : Hid ((pack.all fun b => inR b 0 (h.bs.length - 1)) = false) := Lib.hid (by rw [List.all_eq_false]; exact ⟨x, List.mem_of_getElem? HX.out, by simp [hr]⟩)
          go_wp2
          refine wp_region_extW (by kernel_rfl) (by kernel_rfl) ?_
          repeat (go_big_quiet_step ((go_at_call 136; exact ext_call (rIsBarrel_any L h _ _ (by omega)))))
          refine wpQuiet_nil ?_
          rintro _ ⟨x1, rfl⟩
          have hb3 := hb0to hb (extB_below wr x1)
          clear e0 e1 e2 e3 e5
          go_wp2
          go_ret
          exact ⟨by rw [goodB, hno.out]; simp, hb3⟩
        · have HR := Lib.hid hr
          go_wp2
          refine wp_region_extW (by kernel_rfl) (by kernel_rfl) ?_
          repeat (go_big_quiet_step ((go_at_call 136; exact ext_call (rIsBarrel_any L h _ _ (by omega)))))
          refine wpQuiet_nil ?_
          rintro _ ⟨x1, rfl⟩
          have hb2 := extB_below wr x1
          clear e0 e1 e2 e3 e5
          go_wp2
          go_roundw
          case rel => exact ⟨k + 1, by omega, by go_num, Lib.hid (fun j y hj hy => by by_cases e : j = k; subst e; rw [HX.out] at hy; cases hy; exact HR.out; exact hok.out j y (by omega) hy), hb0to hb hb2, hB.of (hb2.block _ hB.lt)⟩
          case measure => simp [intOf]; omega
      · obtain rfl : k = pack.length := by omega
        have hall : (pack.all fun b => inR b 0 (h.bs.length - 1)) = true := by
          rw [List.all_eq_true]
          intro x hx
          obtain ⟨j, hj⟩ := List.getElem?_of_mem hx
          exact hok.out j x (List.getElem?_eq_some_iff.1 hj).1 hj
        have HG := Lib.hid (goodB_eq HV.out HLEN.out hall)
        clear hall hok
        go_wp2_with (go_at_call 137; refine (rfits_any L h HV.out pack (Nat.le_of_eq HLEN.out) A c _ (HH.out.below hb) (ints_later HI.out hb)).mono ?_; rintro e w3 ⟨rfl, hb3⟩)
        go_ret
        exact ⟨by rw [HG.out]; rfl, hb0to hb hb3⟩
  · have hd : ((pack.length : Int) != (h.ps.length : Int)) = true := by simp; omega
    have HLEN := Lib.hid hlen
    clear hlen
    go_enter Try.func85, Try.ntmps85
    go_wp2
    go_ret
    exact ⟨by rw [goodB, decide_eq_false HLEN.out]; rfl, (Below.refl _ _).alloc (Nat.le_refl _) _⟩
end Go.Proofs.Ytmbcpmnigggbaaa
namespace Go.Proofs.Ytmbcpmnigggbaaa
open Go.RowKit
theorem hbox_other {W : World} {B b o : Nat} {L : HL} {h : House} {u : Value} (hb : HBox W B L h) (hne : B ≠ b) : HBox (W.setCell ⟨b, o, none⟩ u) B L h := hb.of (((KpB.refl (fun k => k = b) W.heap.size W).set o u (.inl rfl)).block B hb.lt hne)
/-! Copies of a house. -/
structure HLOK (L : HL) (h : House) : Prop where
  k : L.Ak = none → L.ck = 0 ∧ h.ks = []
  p : L.Ap = none → L.cp = 0 ∧ h.ps = []
  b : L.Ab = none → L.cb = 0 ∧ h.bs = []
/-- The slices of a house are the call's own, each in a block of its own. -/
structure Copied (W : World) (n0 n1 n2 : Nat) (L : HL) (h : House) : Prop where
  k : OwnsP W 95 n0 (.slice L.Ak h.ks.length L.ck) h.ks
  k1 : ∀ g, (Value.slice L.Ak h.ks.length L.ck).ownBlock = some g → g < n1
  p : OwnsP W 97 n1 (.slice L.Ap h.ps.length L.cp) h.ps
  p1 : ∀ g, (Value.slice L.Ap h.ps.length L.cp).ownBlock = some g → g < n2
  b : Ints W n2 (.slice L.Ab h.bs.length L.cb) h.bs
  n01 : n0 ≤ n1
  n12 : n1 ≤ n2
theorem ownsP_at {W : World} {t : TypeId} {base : Nat} {A : Option Addr} {n c : Nat} {ns : List (Int × Int)} (h : OwnsP W t base (.slice A n c) ns) : PairsAt W W.heap.size A ns ∧ (A = none → c = 0 ∧ ns = []) := by
  obtain ⟨A', c', e, h1, h2⟩ := h.lay
  cases e
  exact ⟨h2, h1⟩
theorem ints_at {W : World} {base : Nat} {A : Option Addr} {n c : Nat} {l : List Int} (h : Ints W base (.slice A n c) l) : IntsIn W base W.heap.size A l ∧ (A = none → c = 0 ∧ l = []) ∧ l.length ≤ c := by
  obtain ⟨A', c', e, h1, h2, h3⟩ := h.lay
  cases e
  exact ⟨h3, h1, h2⟩
theorem Copied.house {W : World} {n0 n1 n2 : Nat} {L : HL} {h : House} (H : Copied W n0 n1 n2 L h) : HouseAt W W.heap.size L h := ⟨(ownsP_at H.k).1, (ownsP_at H.p).1, (ints_at H.b).1.at_⟩
theorem Copied.ok {W : World} {n0 n1 n2 : Nat} {L : HL} {h : House} (H : Copied W n0 n1 n2 L h) : HLOK L h := ⟨(ownsP_at H.k).2, (ownsP_at H.p).2, (ints_at H.b).2.1⟩
theorem Copied.cap {W : World} {n0 n1 n2 : Nat} {L : HL} {h : House} (H : Copied W n0 n1 n2 L h) : h.bs.length ≤ L.cb ∧ (L.Ab = none → L.cb = 0) := ⟨(ints_at H.b).2.2, fun e => ((ints_at H.b).2.1 e).1⟩
theorem Copied.below {W W' : World} {n0 n1 n2 : Nat} {L : HL} {h : House} (H : Copied W n0 n1 n2 L h) (hb : Below W.heap.size W W') : Copied W' n0 n1 n2 L h :=
  ⟨H.k.below_ hb (Nat.le_refl _), H.k1, H.p.below_ hb (Nat.le_refl _), H.p1, H.b.below_ hb (Nat.le_refl _), H.n01, H.n12⟩
theorem info88 : (Try.prog.info? 95).map (fun i => (i.zero, i.size, i.bytes)) = some (some (.agg #[.int .i64 0, .int .i64 0]), 2, 16) := by kernel_rfl
theorem info38 : (Try.prog.info? 97).map (fun i => (i.zero, i.size, i.bytes)) = some (some (.agg #[.int .i64 0, .int .i64 0]), 2, 16) := by kernel_rfl
/-- Copy's memory. -/
structure CpSt (W : World) (s : Nat) (L : HL) (h : House) (a b c : Value) : Prop where
  x : HBox W s L h
  y : W.heap[s + 1]? = some (.cells #[.slice none 0 0, .int .i64 0, .slice none 0 0, .slice none 0 0] 27 (0, 0))
  z : W.heap[s + 1 + 1]? = some (.cells #[a, .int .i64 h.fl, b, c] 27 (0, 0))
theorem CpSt.kp {W W' : World} {s : Nat} {L : HL} {h : House} {a b c : Value} (H : CpSt W s L h a b c) {n : Nat} (hb : Below n W W') (hn : s + 3 ≤ n) : CpSt W' s L h a b c :=
  ⟨H.x.of (hb.block _ (by omega)), (hb.block _ (by omega)).trans H.y, (hb.block _ (by omega)).trans H.z⟩
theorem CpSt.zc {W : World} {s : Nat} {L : HL} {h : House} {a b c : Value} (H : CpSt W s L h a b c) : W.cell? ⟨s + 1 + 1, 0, none⟩ = some a ∧ W.cell? ⟨s + 1 + 1, 1, none⟩ = some (.int .i64 h.fl) ∧ W.cell? ⟨s + 1 + 1, 2, none⟩ = some b ∧ W.cell? ⟨s + 1 + 1, 3, none⟩ = some c := by
  simp [World.cell?, H.z]
theorem CpSt.fz {W : World} {s : Nat} {L : HL} {h : House} {a b c : Value} (H : CpSt W s L h a b c) : ∀ o, W.frozen? ⟨s + 1 + 1, o, none⟩ = false := fun o => by simp [World.frozen?, H.z]
theorem CpSt.yc {W : World} {s : Nat} {L : HL} {h : House} {a b c : Value} (H : CpSt W s L h a b c) : W.cell? ⟨s + 1, 0, none⟩ = some (.slice none 0 0) ∧ W.cell? ⟨s + 1, 1, none⟩ = some (.int .i64 0) ∧ W.cell? ⟨s + 1, 2, none⟩ = some (.slice none 0 0) ∧ W.cell? ⟨s + 1, 3, none⟩ = some (.slice none 0 0) := by
  simp [World.cell?, H.y]
theorem CpSt.fy {W : World} {s : Nat} {L : HL} {h : House} {a b c : Value} (H : CpSt W s L h a b c) : ∀ o, W.frozen? ⟨s + 1, o, none⟩ = false := fun o => by simp [World.frozen?, H.y]
theorem CpSt.lt {W : World} {s : Nat} {L : HL} {h : House} {a b c : Value} (H : CpSt W s L h a b c) : s + 3 ≤ W.heap.size := by have := heap_lt H.z; omega
theorem CpSt.set {W : World} {s : Nat} {L : HL} {h : House} {a b c : Value} (H : CpSt W s L h a b c) (o : Nat) (v : Value) : HBox (W.setCell ⟨s + 1 + 1, o, none⟩ v) s L h ∧ (W.setCell ⟨s + 1 + 1, o, none⟩ v).heap[s + 1]? = some (.cells #[.slice none 0 0, .int .i64 0, .slice none 0 0, .slice none 0 0] 27 (0, 0)) ∧
    (W.setCell ⟨s + 1 + 1, o, none⟩ v).heap[s + 1 + 1]? = some (.cells (#[a, .int .i64 h.fl, b, c].setIfInBounds o v) 27 (0, 0)) :=
  ⟨hbox_other H.x (by omega), (((KpB.refl (fun k => k = s + 1 + 1) W.heap.size W).set o v (.inl rfl)).block _ (heap_lt H.y) (by omega)).trans H.y, heap_set v H.z⟩
theorem CpSt.set0 {W : World} {s : Nat} {L : HL} {h : House} {a b c : Value} (H : CpSt W s L h a b c) (v : Value) : CpSt (W.setCell ⟨s + 1 + 1, 0, none⟩ v) s L h v b c := by obtain ⟨h1, h2, h3⟩ := H.set 0 v; exact ⟨h1, h2, h3⟩
theorem CpSt.set2 {W : World} {s : Nat} {L : HL} {h : House} {a b c : Value} (H : CpSt W s L h a b c) (v : Value) : CpSt (W.setCell ⟨s + 1 + 1, 2, none⟩ v) s L h a v c := by obtain ⟨h1, h2, h3⟩ := H.set 2 v; exact ⟨h1, h2, h3⟩
theorem CpSt.set3 {W : World} {s : Nat} {L : HL} {h : House} {a b c : Value} (H : CpSt W s L h a b c) (v : Value) : CpSt (W.setCell ⟨s + 1 + 1, 3, none⟩ v) s L h a b v := by obtain ⟨h1, h2, h3⟩ := H.set 3 v; exact ⟨h1, h2, h3⟩
theorem CpSt.new (w : World) (L : HL) (h : House) : CpSt (((w.alloc (.cells #[.slice L.Ak h.ks.length L.ck, .int .i64 h.fl, .slice L.Ap h.ps.length L.cp, .slice L.Ab h.bs.length L.cb] 27)).alloc (.cells #[.slice none 0 0, .int .i64 0, .slice none 0 0, .slice none 0 0] 27)).alloc (.cells #[.slice L.Ak h.ks.length L.ck, .int .i64 h.fl, .slice L.Ap h.ps.length L.cp, .slice L.Ab h.bs.length L.cb] 27)) w.heap.size L h (.slice L.Ak h.ks.length L.ck) (.slice L.Ap h.ps.length L.cp) (.slice L.Ab h.bs.length L.cb) := by
  have c0 := HBox.new w L h
  have c1 := World.alloc_heap_new (w.alloc (.cells #[.slice L.Ak h.ks.length L.ck, .int .i64 h.fl, .slice L.Ap h.ps.length L.cp, .slice L.Ab h.bs.length L.cb] 27)) (.cells #[.slice none 0 0, .int .i64 0, .slice none 0 0, .slice none 0 0] 27)
  have c2 := World.alloc_heap_new ((w.alloc (.cells #[.slice L.Ak h.ks.length L.ck, .int .i64 h.fl, .slice L.Ap h.ps.length L.cp, .slice L.Ab h.bs.length L.cb] 27)).alloc (.cells #[.slice none 0 0, .int .i64 0, .slice none 0 0, .slice none 0 0] 27)) (.cells #[.slice L.Ak h.ks.length L.ck, .int .i64 h.fl, .slice L.Ap h.ps.length L.cp, .slice L.Ab h.bs.length L.cb] 27)
  simp only [World.size_alloc] at c1 c2
  exact ⟨(c0.of (Below.heap_alloc _ _ _ (by simp))).of (Below.heap_alloc _ _ _ (by simp; omega)), (Below.heap_alloc _ _ _ (by simp)).trans c1, c2⟩
def CopyRet (h : House) (B : Nat) (w' : World) (e : Ending) : Prop := ∃ L n1 n2, e = .returned (HL.enc L h) ∧ Copied w' B n1 n2 L h
theorem OwnsP.set_other {W : World} {t : TypeId} {base s o : Nat} {u v : Value} {l : List (Int × Int)} (h : OwnsP W t base v l) (hs : s < base) : OwnsP (W.setCell ⟨s, o, none⟩ u) t base v l := by
  refine ⟨h.1, ?_⟩
  rcases h.2 with h2 | ⟨g, cap, cur, e, hb2, hg, h4⟩
  · exact .inl h2
  · exact .inr ⟨g, cap, cur, e, hb2, (((KpB.refl (fun k => k = s) W.heap.size W).set o u (.inl rfl)).block g (heap_lt hg) (by omega)).trans hg, h4⟩
theorem Ints.set_other {W : World} {base s o : Nat} {u v : Value} {l : List Int} (h : Ints W base v l) (hs : s < base) : Ints (W.setCell ⟨s, o, none⟩ u) base v l := by
  refine ⟨h.1, ?_⟩
  rcases h.2 with h2 | ⟨g, cap, cur, e, hb2, hg, h4⟩
  · exact .inl h2
  · exact .inr ⟨g, cap, cur, e, hb2, (((KpB.refl (fun k => k = s) W.heap.size W).set o u (.inl rfl)).block g (heap_lt hg) (by omega)).trans hg, h4⟩
theorem OwnsP.alloc {W : World} {t : TypeId} {base : Nat} {v : Value} {l : List (Int × Int)} (h : OwnsP W t base v l) (o : Obj) : OwnsP (W.alloc o) t base v l := World.ownsRow.alloc h o
theorem OwnsP.mono {W : World} {t : TypeId} {base base' : Nat} {v : Value} {l : List (Int × Int)} (h : OwnsP W t base v l) (hb : base' ≤ base) : OwnsP W t base' v l := by
  refine ⟨h.1, ?_⟩
  rcases h.2 with h2 | ⟨g, cap, cur, e, hb2, h4⟩
  · exact .inl h2
  · exact .inr ⟨g, cap, cur, e, Nat.le_trans hb hb2, h4⟩
theorem ownP_lt {W : World} {t : TypeId} {base : Nat} {v : Value} {l : List (Int × Int)} (h : OwnsP W t base v l) : ∀ g, v.ownBlock = some g → g < W.heap.size := fun g hg => (World.ownsRow.lt h g hg).2
theorem CpSt.al {W : World} {s : Nat} {L : HL} {h : House} {a b c : Value} (H : CpSt W s L h a b c) (o : Obj) : CpSt (W.alloc o) s L h a b c := H.kp (Below.alloc (Below.refl W.heap.size W) (Nat.le_refl _) o) H.lt
theorem ownsP_madeS (w : World) (a : Addr) (u : Value) (t : TypeId) : OwnsP ((w.setCell a u).alloc (.cells #[] t)) t w.heap.size (.slice (some ⟨w.heap.size, 0, none⟩) 0 0) [] := by
  have := ownsP_made (w.setCell a u) t w.heap.size (by simp)
  rwa [World.size_setCell] at this
theorem ints_madeS (w : World) (a : Addr) (u : Value) : Ints ((w.setCell a u).alloc (.cells #[] 3)) w.heap.size (.slice (some ⟨w.heap.size, 0, none⟩) 0 0) [] := by
  have := ints_made (w.setCell a u) w.heap.size (by simp)
  rwa [World.size_setCell] at this
theorem below_sal (w : World) (a : Addr) (u : Value) (o : Obj) : Below w.heap.size (w.setCell a u) ((w.setCell a u).alloc o) := (Below.refl _ _).alloc (by simp) _
theorem load26 {W : World} {b : Nat} {x y z u : Value} (h0 : W.cell? ⟨b, 0, none⟩ = some x) (h1 : W.cell? ⟨b, 1, none⟩ = some y) (h2 : W.cell? ⟨b, 2, none⟩ = some z) (h3 : W.cell? ⟨b, 3, none⟩ = some u) :
    (Instr.loadAt 27 (.pointer (some ⟨b, 0, none⟩))).run Try.prog W = .ok (.agg #[x, y, z, u]) W := by
  simp [go_sem, Instr.loadAt, Instr.sureAddr, *]
/-- The box of the result is written, cell by cell. -/
theorem cp_store {W : World} {s : Nat} {L : HL} {h : House} {a b c : Value} (H : CpSt W s L h a b c) (x y z u : Value) :
    (Instr.loadAt 27 (.pointer (some ⟨s + 1, 0, none⟩))).run Try.prog ((((W.setCell ⟨s + 1, 0, none⟩ x).setCell ⟨s + 1, 1, none⟩ y).setCell ⟨s + 1, 2, none⟩ z).setCell ⟨s + 1, 3, none⟩ u) = .ok (.agg #[x, y, z, u]) ((((W.setCell ⟨s + 1, 0, none⟩ x).setCell ⟨s + 1, 1, none⟩ y).setCell ⟨s + 1, 2, none⟩ z).setCell ⟨s + 1, 3, none⟩ u) := by
  have e := heap_set u (o := 3) (heap_set z (o := 2) (heap_set y (o := 1) (heap_set x (o := 0) H.y)))
  refine load26 ?_ ?_ ?_ ?_ <;> simp [World.cell?, e]
theorem set_any {Q : World → Prop} {s : Nat} (hQ : ∀ W o u, Q W → Q (W.setCell ⟨s, o, none⟩ u)) {W : World} (h : Q W) (x y z u : Value) : Q ((((W.setCell ⟨s, 0, none⟩ x).setCell ⟨s, 1, none⟩ y).setCell ⟨s, 2, none⟩ z).setCell ⟨s, 3, none⟩ u) :=
  hQ _ _ _ (hQ _ _ _ (hQ _ _ _ (hQ _ _ _ h)))
set_option maxRecDepth 100000 in
set_option maxHeartbeats 4000000 in
theorem copy_any (L : HL) (h : House) (hn : h.ks.length ≤ 1000 ∧ h.ps.length ≤ 1000 ∧ h.bs.length ≤ 1000) (hok : HLOK L h) (w : World) (hH : HouseAt w w.heap.size L h) :
    Calls Try.prog 67 #[L.enc h] w fun e w' => CopyRet h w.heap.size w' e ∧ Below w.heap.size w w' := by
  have hb0 : Below w.heap.size w (((w.alloc (.cells #[.slice L.Ak h.ks.length L.ck, .int .i64 h.fl, .slice L.Ap h.ps.length L.cp, .slice L.Ab h.bs.length L.cb] 27)).alloc (.cells #[.slice none 0 0, .int .i64 0, .slice none 0 0, .slice none 0 0] 27)).alloc (.cells #[.slice L.Ak h.ks.length L.ck, .int .i64 h.fl, .slice L.Ap h.ps.length L.cp, .slice L.Ab h.bs.length L.cb] 27)) :=
    (((Below.refl _ _).alloc (Nat.le_refl _) _).alloc (by simp) _).alloc (by simp; omega) _
  have HS := Lib.hid (CpSt.new w L h)
  obtain ⟨n1, n2, n3⟩ := hn
  obtain ⟨ik, hik, k0, k1, k2⟩ := info_parts info88
  obtain ⟨ip, hip, p0, p1, p2⟩ := info_parts info38
  have HI := Lib.hid (And.intro hik (And.intro k0 (And.intro k1 (And.intro k2 (And.intro hip (And.intro p0 (And.intro p1 p2)))))))
  have HOK' := Lib.hid hok
  have HH := Lib.hid hH
  have HB0 := Lib.hid hb0
  obtain ⟨W0, hW0⟩ : ∃ W0, W0 = ((w.alloc (.cells #[.slice L.Ak h.ks.length L.ck, .int .i64 h.fl, .slice L.Ap h.ps.length L.cp, .slice L.Ab h.bs.length L.cb] 27)).alloc (.cells #[.slice none 0 0, .int .i64 0, .slice none 0 0, .slice none 0 0] 27)).alloc (.cells #[.slice L.Ak h.ks.length L.ck, .int .i64 h.fl, .slice L.Ap h.ps.length L.cp, .slice L.Ab h.bs.length L.cb] 27) := ⟨_, rfl⟩
  rw [← hW0] at HS HB0
  have HW0 := Lib.hid hW0
  clear hok hH hb0 hik k0 k1 k2 hip p0 p1 p2 hW0
  go_enter Try.func67, Try.ntmps67
  go_upto_region 2 with (fail)
  have e := HW0.out
  rw [← e]
  clear e
  have HN := Lib.hid (HH.out.below (HB0.out))
  have Z0 : w.heap.size + 3 ≤ W0.heap.size := HS.out.lt
  have xc := HS.out.x.cells
  have xd := (HS.out.al (.cells #[] 95)).x.cells
  go_wp2_with (first
    | (at_builtin; have hg3 := HS2.out.x; go_must (refine wpl_copyI rfl (.tmp 15) (.tmp 17) rfl w2.heap.size _ [] rfl (ints_madeS w2 _ _) L.Ab L.cb h.bs HOK'.out.b rfl (HH.out.below (HB2'.out.alloc (by have := HB2'.out.size; omega) (.cells #[] 3))).b (by simp) n3 (by simp) ?_; intro v3 w3 own3 hb3; have hc3 := Below.trans (below_sal w2 _ _ _) hb3; have S3 := HS2.out.kp hc3 Z2; have zf3 := S3.fz; have zw3 := S3.zc; have yf3 := S3.fy; have yw3 := S3.yc; have HB3 := Lib.hid (HB2'.out.trans (hc3.mono HB2.out.size)); rw [List.nil_append] at own3; obtain ⟨A3, c3, rfl, oA3, pA3⟩ := own3.lay; have HO13 := Lib.hid ((HO12.out.set_other (s := w.heap.size + 1 + 1) (o := 2) (u := .slice A2 h.ps.length c2) (by omega)).below_ hc3 (by simp)); have HO23 := Lib.hid ((HO2.out.set_other (s := w.heap.size + 1 + 1) (o := 2) (u := .slice A2 h.ps.length c2) (by omega)).below_ hc3 (by simp)); have HO3 := Lib.hid own3; have HS3 := Lib.hid (S3.set3 (.slice A3 h.bs.length c3)); have HB3' := Lib.hid (HB3.out.setCell (p := ⟨w.heap.size + 1 + 1, 3, none⟩) (by show w.heap.size ≤ w.heap.size + 1 + 1; omega) (.slice A3 h.bs.length c3)); have Z3 : w.heap.size + 3 ≤ w3.heap.size := S3.lt; clear own3 hb3 hc3 S3 oA3 pA3))
    | (at_builtin; have hg2 := HS1.out.x; go_must (refine wpl_copyP2 rfl (.tmp 10) (.tmp 12) 24 97 Try.underlying24 HI.out.2.2.2.2.1 HI.out.2.2.2.2.2.1 HI.out.2.2.2.2.2.2.1 HI.out.2.2.2.2.2.2.2 rfl w1.heap.size _ [] rfl (ownsP_madeS w1 _ _ 97) L.Ap L.cp h.ps HOK'.out.p rfl (HH.out.below (HB1'.out.alloc (by have := HB1'.out.size; omega) (.cells #[] 97))).p (by simp) n2 (by simp) ?_; intro v2 w2 own2 hb2; have hc2 := Below.trans (below_sal w1 _ _ _) hb2; have S2 := HS1.out.kp hc2 Z1; have zf2 := S2.fz; have zw2 := S2.zc; have HB2 := Lib.hid (HB1'.out.trans (hc2.mono HB1.out.size)); rw [List.nil_append] at own2; obtain ⟨A2, c2, rfl, oA2, pA2⟩ := own2.lay; have HO12 := Lib.hid ((HO1.out.set_other (s := w.heap.size + 1 + 1) (o := 0) (u := .slice A1 h.ks.length c1) (by omega)).below_ hc2 (by simp)); have HO2 := Lib.hid own2; have HS2 := Lib.hid (S2.set2 (.slice A2 h.ps.length c2)); have HB2' := Lib.hid (HB2.out.setCell (p := ⟨w.heap.size + 1 + 1, 2, none⟩) (by show w.heap.size ≤ w.heap.size + 1 + 1; omega) (.slice A2 h.ps.length c2)); have xd2 := (HS2.out.al (.cells #[] 3)).x.cells; have Z2 : w.heap.size + 3 ≤ w2.heap.size := S2.lt; have Z12 : w1.heap.size ≤ w2.heap.size := (by have := hc2.size; simpa using this); clear own2 hb2 hc2 S2 oA2 pA2))
    | (at_builtin; go_must (refine wpl_copyP2 rfl (.tmp 5) (.tmp 7) 23 95 Try.underlying23 HI.out.1 HI.out.2.1 HI.out.2.2.1 HI.out.2.2.2.1 rfl W0.heap.size _ [] rfl (ownsP_made W0 95 W0.heap.size (Nat.le_refl _)) L.Ak L.ck h.ks HOK'.out.k rfl (HN.out.below ((Below.refl _ W0).alloc (Nat.le_refl _) _)).k (by simp) n1 (by simp) ?_; intro v1 w1 own1 hb1; have hc1 := Below.trans (Below.alloc (Below.refl W0.heap.size W0) (Nat.le_refl _) _) hb1; have S1 := HS.out.kp hc1 Z0; have zf1 := S1.fz; have zw1 := S1.zc; have HB1 := Lib.hid (HB0.out.trans (hc1.mono HB0.out.size)); rw [List.nil_append] at own1; obtain ⟨A1, c1, rfl, oA1, pA1⟩ := own1.lay; have HO1 := Lib.hid own1; have HS1 := Lib.hid (S1.set0 (.slice A1 h.ks.length c1)); have HB1' := Lib.hid (HB1.out.setCell (p := ⟨w.heap.size + 1 + 1, 0, none⟩) (by show w.heap.size ≤ w.heap.size + 1 + 1; omega) (.slice A1 h.ks.length c1)); have xd1 := (HS1.out.al (.cells #[] 97)).x.cells; have Z1 : w.heap.size + 3 ≤ w1.heap.size := S1.lt; have Z01 : W0.heap.size ≤ w1.heap.size := hc1.size; clear own1 hb1 hc1 S1 oA1 pA1)))
  refine bodyPost_ret (results_cell rfl rfl (cp_store (HS3.out) _ _ _ _)) rfl ⟨⟨⟨A1, c1, A2, c2, A3, c3⟩, w1.heap.size, w2.heap.size, rfl, ?_⟩, ?_⟩
  · have q1 := (HO13.out.set_other (s := w.heap.size + 1 + 1) (o := 3) (u := .slice A3 h.bs.length c3) (by omega))
    have q2 := (HO23.out.set_other (s := w.heap.size + 1 + 1) (o := 3) (u := .slice A3 h.bs.length c3) (by omega))
    have q3 := (HO3.out.set_other (s := w.heap.size + 1 + 1) (o := 3) (u := .slice A3 h.bs.length c3) (by omega))
    have r1 := set_any (s := w.heap.size + 1) (Q := fun W => OwnsP W 95 W0.heap.size (.slice A1 h.ks.length c1) h.ks) (fun W o u hh => hh.set_other (by omega)) q1 (.slice A1 h.ks.length c1) (.int .i64 h.fl) (.slice A2 h.ps.length c2) (.slice A3 h.bs.length c3)
    have r2 := set_any (s := w.heap.size + 1) (Q := fun W => OwnsP W 97 w1.heap.size (.slice A2 h.ps.length c2) h.ps) (fun W o u hh => hh.set_other (by omega)) q2 (.slice A1 h.ks.length c1) (.int .i64 h.fl) (.slice A2 h.ps.length c2) (.slice A3 h.bs.length c3)
    have r3 := set_any (s := w.heap.size + 1) (Q := fun W => Ints W w2.heap.size (.slice A3 h.bs.length c3) h.bs) (fun W o u hh => hh.set_other (by omega)) q3 (.slice A1 h.ks.length c1) (.int .i64 h.fl) (.slice A2 h.ps.length c2) (.slice A3 h.bs.length c3)
    exact ⟨r1.mono (by omega), ownP_lt HO1.out, r2, ownP_lt HO2.out, r3, by omega, Z12⟩
  · exact set_any (s := w.heap.size + 1) (Q := fun W => Below w.heap.size w W) (fun W o u hh => hh.setCell (p := ⟨w.heap.size + 1, o, none⟩) (by show w.heap.size ≤ w.heap.size + 1; omega) u) HB3'.out _ _ _ _
end Go.Proofs.Ytmbcpmnigggbaaa
namespace Go.Proofs.Ytmbcpmnigggbaaa
open Go.RowKit
def hugeB (h : House) : Bool := decide (40 < h.ks.length) || (decide (40 < h.ps.length) || decide (40 < h.bs.length))
set_option maxRecDepth 100000 in
set_option maxHeartbeats 4000000 in
theorem huge_any (L : HL) (h : House) (w : World) :
    Calls Try.prog 10 #[L.enc h] w fun e w' => e = .returned (.bool (hugeB h)) ∧ Below w.heap.size w w' := by
  have hbw := Lib.hid ((Below.refl w.heap.size w).alloc (Nat.le_refl _) (.cells #[.slice L.Ak h.ks.length L.ck, .int .i64 h.fl, .slice L.Ap h.ps.length L.cp, .slice L.Ab h.bs.length L.cb] 27))
  obtain ⟨Ak, ck, Ap, cp, Ab, cb⟩ := L
  by_cases k1 : 40 < h.ks.length
  · have hv : hugeB h = true := by simp [hugeB, k1]
    rw [hv]; clear hv
    go_enter Try.func10, Try.ntmps10
    go_wp2
    go_ret
    exact ⟨rfl, hbw.out⟩
  · have k2 : h.ks.length ≤ 40 := by omega
    by_cases p1 : 40 < h.ps.length
    · have hv : hugeB h = true := by simp [hugeB, p1]
      rw [hv]; clear hv k1
      go_enter Try.func10, Try.ntmps10
      go_wp2
      go_ret
      exact ⟨congrArg (fun b => Ending.returned (.bool b)) (by first | (simp; done) | (simp; omega)), hbw.out⟩
    · have p2 : h.ps.length ≤ 40 := by omega
      by_cases b1 : 40 < h.bs.length
      · have hv : hugeB h = true := by simp [hugeB, b1]
        rw [hv]; clear hv k1 p1
        go_enter Try.func10, Try.ntmps10
        go_wp2
        go_ret
        exact ⟨congrArg (fun b => Ending.returned (.bool b)) (by first | (simp; done) | (simp; omega)), hbw.out⟩
      · have b2 : h.bs.length ≤ 40 := by omega
        have hv : hugeB h = false := by simp [hugeB]; omega
        rw [hv]; clear hv k1 p1 b1
        go_enter Try.func10, Try.ntmps10
        go_wp2
        go_ret
        exact ⟨congrArg (fun b => Ending.returned (.bool b)) (by first | (simp; done) | (simp; omega)), hbw.out⟩
def farB (h : House) : Bool := hugeB h || (validH h && decide (700 < (h.bs.length + 1) ^ h.ps.length))
theorem pow_le {a k : Nat} (ha : a ≤ 4) (hk : k ≤ 6) : (a + 1) ^ k ≤ 15625 :=
  Nat.le_trans (Nat.pow_le_pow_left (Nat.succ_le_succ ha) k) (Nat.le_trans (Nat.pow_le_pow_right (by decide) hk) (by decide))
theorem huge_no {h : House} (hh : hugeB h = false) : h.ks.length ≤ 40 ∧ h.ps.length ≤ 40 ∧ h.bs.length ≤ 40 := by
  simp only [hugeB, Bool.or_eq_false_iff, decide_eq_false_iff_not] at hh
  omega
set_option maxRecDepth 100000 in
set_option maxHeartbeats 4000000 in
theorem far_any (L : HL) (h : House) (w : World) (hH : HouseAt w w.heap.size L h) :
    Calls Try.prog 12 #[L.enc h] w fun e w' => e = .returned (.bool (farB h)) ∧ Below w.heap.size w w' := by
  have hbw := (Below.refl w.heap.size w).alloc (Nat.le_refl _) (.cells #[.slice L.Ak h.ks.length L.ck, .int .i64 h.fl, .slice L.Ap h.ps.length L.cp, .slice L.Ab h.bs.length L.cb] 27)
  have HB := Lib.hid (HBox.new w L h)
  have hc0 := (HBox.new w L h).cells
  obtain ⟨W0, hW0⟩ : ∃ W0, w.alloc (.cells #[.slice L.Ak h.ks.length L.ck, .int .i64 h.fl, .slice L.Ap h.ps.length L.cp, .slice L.Ab h.bs.length L.cb] 27) = W0 := ⟨_, rfl⟩
  rw [hW0] at hbw HB hc0
  have HU := Lib.hid (huge_any L h W0)
  have HBW := Lib.hid hbw
  have HW0 := Lib.hid hW0
  have HH := Lib.hid (hH.below hbw)
  clear hbw hW0 hH
  cases hh : hugeB h
  · have hf : farB h = (validH h && decide (700 < (h.bs.length + 1) ^ h.ps.length)) := by rw [farB, hh]; rfl
    rw [hf]
    have hn := huge_no hh
    clear hf
    have HC := Lib.hid (rcheck_any L h ⟨by omega, by omega, by omega⟩)
    have HH' := Lib.hid hh
    clear hh hn
    cases hv : validH h
    · have hck : ckH h = 80 := ckH_no hv
      obtain ⟨Ak, ck, Ap, cp, Ab, cb⟩ := L
      go_enter Try.func12, Try.ntmps12
      go_upto_region 1 with (fail)
      have e := HW0.out
      rw [e]
      clear e
      go_wp2_with (first
        | (go_at_call 10; refine (HU.out).mono ?_; rintro e w1 ⟨rfl, hb1⟩; rw [HH'.out]; have HB1 := Lib.hid hb1; have hc1 := (HB.out.of (hb1.block _ HB.out.lt)).cells; clear hb1)
        | (go_at_call 11; refine (HC.out w1 (HH.out.below HB1.out)).mono ?_; rintro e w2 ⟨rfl, hb2⟩; rw [hck]; have HB2 := Lib.hid (hb0to HB1.out hb2); clear hb2))
      go_ret
      exact ⟨rfl, hb0to HBW.out HB2.out⟩
    · have hck : ckH h = 0 := ckH_yes hv
      have hV := HOK.ofValid hv
      have hbl := hV.bl
      have hpl := hV.pl
      obtain ⟨Ak, ck, Ap, cp, Ab, cb⟩ := L
      clear hV hv
      go_enter Try.func12, Try.ntmps12
      go_upto_region 1 with (fail)
      have e := HW0.out
      rw [e]
      clear e
      go_wp2_with (first
        | (go_at_call 10; refine (HU.out).mono ?_; rintro e w1 ⟨rfl, hb1⟩; rw [HH'.out]; have HB1 := Lib.hid hb1; have hc1 := (HB.out.of (hb1.block _ HB.out.lt)).cells; clear hb1)
        | (go_at_call 11; refine (HC.out w1 (HH.out.below HB1.out)).mono ?_; rintro e w2 ⟨rfl, hb2⟩; rw [hck]; have HB2 := Lib.hid (hb0to HB1.out hb2); clear hb2))
      clear hc0 hc1
      go_loopw [3, 4] (fun n i wr => ∃ k : Nat, k ≤ h.ps.length ∧ i = .int .i64 k ∧ n = .int .i64 ((h.bs.length + 1) ^ k : Nat) ∧ Below W0.heap.size W0 wr) (fun _ i _ => h.ps.length - (intOf i).toNat)
      case atStart => exact ⟨0, Nat.zero_le _, rfl, rfl, HB2.out⟩
      case round =>
        obtain ⟨k, hk, rfl, rfl, hb⟩ := hrel
        have hc := (HB.out.of (hb.block _ HB.out.lt)).cells
        have hP := pow_le hbl (Nat.le_trans hk hpl)
        have hPs := pow_le (k := k) hbl (by omega)
        obtain ⟨P, hPe⟩ : ∃ P, P = (h.bs.length + 1) ^ k := ⟨_, rfl⟩
        rw [← hPe] at hP hPs ⊢
        by_cases hlt : k < h.ps.length
        · have hP2 := pow_le (k := k + 1) hbl (by omega)
          rw [Nat.pow_succ, ← hPe] at hP2
          have q0 : (0 : Int) ≤ (P : Int) * ((h.bs.length : Int) + 1) := by have := Int.natCast_nonneg (P * (h.bs.length + 1)); push_cast at this; exact this
          have q2 : ((P * (h.bs.length + 1) : Nat) : Int) ≤ 15625 := by omega
          have q1 : (P : Int) * ((h.bs.length : Int) + 1) ≤ 15625 := by push_cast at q2; exact q2
          clear q2
          have HN := Lib.hid (show (P : Int) * ((h.bs.length : Int) + 1) = ((h.bs.length + 1) ^ (k + 1) : Nat) by rw [Nat.pow_succ, ← hPe]; push_cast; rfl)
          clear hPe
          go_wp2
          go_roundw
          case rel => exact ⟨k + 1, by omega, by go_num, by rw [← HN.out], hb⟩
          case measure => simp [intOf]; omega
        · obtain rfl : k = h.ps.length := by omega
          have HE := Lib.hid hPe
          clear hPe
          go_wp2
          go_ret
          exact ⟨by rw [← HE.out]; simp; omega, hb0to HBW.out hb⟩
  · have hf : farB h = true := by rw [farB, hh]; rfl
    rw [hf]
    have HH' := Lib.hid hh
    clear hh hf
    obtain ⟨Ak, ck, Ap, cp, Ab, cb⟩ := L
    go_enter Try.func12, Try.ntmps12
    go_upto_region 1 with (fail)
    have e := HW0.out
    rw [e]
    clear e
    go_wp2_with (go_at_call 10; refine (HU.out).mono ?_; rintro e w1 ⟨rfl, hb1⟩; rw [HH'.out]; have HB1 := Lib.hid hb1; clear hb1)
    go_ret
    exact ⟨rfl, hb0to HBW.out HB1.out⟩

set_option maxRecDepth 100000 in
set_option maxHeartbeats 4000000 in
theorem rIn_any (l : List Int) (hl : l.length ≤ 1000) (x : Int) (A : Option Addr) (c : Nat) (w : World) (hI : IntsAt w w.heap.size A l) :
    Calls Try.prog 77 #[.slice A l.length c, .int .i64 x] w fun e w' => e = .returned (.bool (decide (x ∈ l))) ∧ Below w.heap.size w w' := by
  have HI := Lib.hid hI
  clear hI
  go_enter Try.func77, Try.ntmps77
  go_wp2
  go_loopw [5] (fun i wr => ∃ k : Nat, k ≤ l.length ∧ i = .int .i64 k ∧ Hid (∀ j, j < k → l[j]? ≠ some x) ∧ Below w.heap.size w wr) (fun i _ => l.length - (intOf i).toNat)
  case atStart => exact ⟨0, Nat.zero_le _, rfl, Lib.hid (fun j hj => by omega), Below.refl _ _⟩
  case round =>
    obtain ⟨k, hk', rfl, hno, hb⟩ := hrel
    by_cases hlt : k < l.length
    · obtain ⟨y, hy⟩ : ∃ y, l[k]? = some y := ⟨_, List.getElem?_eq_getElem hlt⟩
      obtain ⟨b1, o1, rfl, b1lt, d1⟩ := HI.out.at_ hy
      have e1 := below_cell hb d1
      have hki : (k : Int) < l.length := by omega
      have hk0' : (0 : Int) ≤ (k : Int) := by omega
      have HY := Lib.hid hy
      clear hy d1
      by_cases hxy : y = x
      · subst hxy
        have HE := Lib.hid (show decide (y ∈ l) = true from decide_eq_true (List.mem_of_getElem? HY.out))
        go_wp2
        go_ret
        exact ⟨by rw [HE.out]; rfl, hb⟩
      · have HN := Lib.hid (show ∀ j, j < k + 1 → l[j]? ≠ some x from fun j hj => by
          rcases Nat.lt_succ_iff_lt_or_eq.1 hj with h1 | rfl
          · exact hno.out j h1
          · rw [HY.out]; simpa using hxy)
        have hne : decide (y = x) = false := decide_eq_false hxy
        clear hno
        go_wp2
        go_roundw
        case rel => exact ⟨k + 1, by omega, by go_num, HN, hb⟩
        case measure => simp [intOf]; omega
    · obtain rfl : k = l.length := by omega
      have HE := Lib.hid (show decide (x ∈ l) = false from decide_eq_false fun hm => by
        obtain ⟨j, hj, e⟩ := List.mem_iff_getElem.1 hm
        exact hno.out j hj (by rw [List.getElem?_eq_getElem hj, e]))
      clear hno
      go_wp2
      go_ret
      exact ⟨by rw [HE.out]; rfl, hb⟩
end Go.Proofs.Ytmbcpmnigggbaaa
