import Derived.Deep.LoopGhost
import Derived.Deep.QuietTactic
import Derived.Test.YtgemmmdcpbajoaaL3
import Derived.Test.YtgemmmdcpbajoaaT1
namespace Go.Proofs.Ytgemmmdcpbajoaa
open Go.RowKit
attribute [local go_sem] Oper.semAt_some

abbrev stkV (L : HL) (h : House) (lo : Int) : Value := .agg #[.slice L.Ak h.ks.length L.ck, .int .i64 h.fl, .slice L.Ap h.ps.length L.cp, .slice L.Ab h.bs.length L.cb, .int .i64 lo]
def encP (p : List Int) : List Value := p.map (Value.int .i64)
/-- The numbers p, in a block of their own. -/
def PackAt (W : World) (pb : Nat) (p : List Int) : Prop := W.heap[pb]? = some (.cells (encP p).toArray 3 (0, 0))
theorem PackAt.cell {W : World} {pb : Nat} {p : List Int} (h : PackAt W pb p) {i : Nat} {x : Int} (hx : p[i]? = some x) : W.cell? ⟨pb, i, none⟩ = some (.int .i64 x) := by
  simp [World.cell?, show W.heap[pb]? = _ from h, encP, hx]
theorem PackAt.ints {W : World} {pb : Nat} {p : List Int} (h : PackAt W pb p) : IntsAt W W.heap.size (some ⟨pb, 0, none⟩) p :=
  .inr ⟨pb, 0, rfl, (Array.getElem?_eq_some_iff.1 h).1, fun i x hx => by rw [Nat.zero_add]; exact h.cell hx⟩
theorem PackAt.frozen {W : World} {pb : Nat} {p : List Int} (h : PackAt W pb p) (o : Nat) : W.frozen? ⟨pb, o, none⟩ = false := by simp [World.frozen?, show W.heap[pb]? = _ from h]
theorem PackAt.lt {W : World} {pb : Nat} {p : List Int} (h : PackAt W pb p) : pb < W.heap.size := (Array.getElem?_eq_some_iff.1 h).1
theorem PackAt.set {W : World} {pb : Nat} {p : List Int} (h : PackAt W pb p) (i : Nat) (x : Int) : PackAt (W.setCell ⟨pb, i, none⟩ (.int .i64 x)) pb (p.set i x) := by
  have := heap_set (o := i) (.int .i64 x) (show W.heap[pb]? = some (.cells (encP p).toArray 3 (0, 0)) from h)
  unfold PackAt
  rw [this]
  simp [encP, List.map_set]
/-- What the iterator hands over: a list, in memory of its own, and its casks. -/
def SeesP (h : House) (B : Nat) (x : List Int) (args : Array Value) (X : World) : Prop :=
  ∃ pb, B ≤ pb ∧ args = #[.slice (some ⟨pb, 0, none⟩) x.length x.length, encCs (packedC h x)] ∧ PackAt X pb x
theorem SeesP.kept {h : House} {B : Nat} {x : List Int} {args : Array Value} {X Y : World} (hs : SeesP h B x args X) (hk : KpB (fun k => k < B) X.heap.size X Y) : SeesP h B x args Y := by
  obtain ⟨pb, h1, h2, h3⟩ := hs
  exact ⟨pb, h1, h2, (hk.block pb h3.lt (by omega)).trans h3⟩

/-- The house lies in the blocks T: whatever keeps them keeps it. -/
def HouseOn (W : World) (T : Nat → Prop) (L : HL) (h : House) : Prop := ∀ W' : World, (∀ b o, T b → W'.cell? ⟨b, o, none⟩ = W.cell? ⟨b, o, none⟩) → W.heap.size ≤ W'.heap.size → HouseAt W' W'.heap.size L h
theorem HouseOn.keep {W W' : World} {T : Nat → Prop} {L : HL} {h : House} (H : HouseOn W T L h) (hk : ∀ b o, T b → W'.cell? ⟨b, o, none⟩ = W.cell? ⟨b, o, none⟩) (hz : W.heap.size ≤ W'.heap.size) : HouseOn W' T L h :=
  fun W2 h2 z2 => H W2 (fun b o hb => (h2 b o hb).trans (hk b o hb)) (Nat.le_trans hz z2)
theorem HouseOn.here {W : World} {T : Nat → Prop} {L : HL} {h : House} (H : HouseOn W T L h) : HouseAt W W.heap.size L h := H W (fun _ _ _ => rfl) (Nat.le_refl _)
theorem HouseAt.on {W : World} {B : Nat} {L : HL} {h : House} (H : HouseAt W B L h) (hB : B ≤ W.heap.size) : HouseOn W (· < B) L h := fun _ hk hz => H.keep (Nat.le_trans hB hz) hk
/-- The iterator's own memory: its stack's box, and the list. -/
structure AllSt (W : World) (s : Nat) (T : Nat → Prop) (L : HL) (h : House) (lo : Int) (pb : Nat) (p : List Int) : Prop where
  b : W.heap[s]? = some (.cells #[.slice L.Ak h.ks.length L.ck, .int .i64 h.fl, .slice L.Ap h.ps.length L.cp, .slice L.Ab h.bs.length L.cb, .int .i64 lo] 77 (0, 0))
  p : PackAt W pb p
  h : HouseOn W T L h
  B : ∀ k, T k → k < W.heap.size
theorem AllSt.cells {W : World} {s : Nat} {T : Nat → Prop} {L : HL} {h : House} {lo : Int} {pb : Nat} {p : List Int} (H : AllSt W s T L h lo pb p) : W.cell? ⟨s, 0, none⟩ = some (.slice L.Ak h.ks.length L.ck) ∧ W.cell? ⟨s, 1, none⟩ = some (.int .i64 h.fl) ∧ W.cell? ⟨s, 2, none⟩ = some (.slice L.Ap h.ps.length L.cp) ∧ W.cell? ⟨s, 3, none⟩ = some (.slice L.Ab h.bs.length L.cb) ∧ W.cell? ⟨s, 4, none⟩ = some (.int .i64 lo) := by
  simp [World.cell?, H.b]
theorem AllSt.kp {W W' : World} {s : Nat} {T : Nat → Prop} {L : HL} {h : House} {lo : Int} {pb : Nat} {p : List Int} (H : AllSt W s T L h lo pb p) {S : Nat → Prop} {n : Nat} (hk : KpB S n W W') (hB : ∀ k, T k → k < n) (hS : ∀ k, S k → ¬ T k ∧ k ≠ s ∧ k ≠ pb) (hs : s < n) (hp : pb < n) : AllSt W' s T L h lo pb p :=
  ⟨(hk.block s hs (fun h => (hS s h).2.1 rfl)).trans H.b, (hk.block pb hp (fun h => (hS pb h).2.2 rfl)).trans H.p, H.h.keep (fun b _o hb => hk.cell (hB b hb) (fun h => (hS b h).1 hb)) hk.size, fun k hk' => Nat.lt_of_lt_of_le (H.B k hk') hk.size⟩
theorem AllSt.below {W W' : World} {s : Nat} {T : Nat → Prop} {L : HL} {h : House} {lo : Int} {pb : Nat} {p : List Int} (H : AllSt W s T L h lo pb p) (hb : Below W.heap.size W W') : AllSt W' s T L h lo pb p :=
  H.kp (kpB_of_below hb (S := fun _ => False)) H.B (fun _ h => h.elim) (Array.getElem?_eq_some_iff.1 H.b).1 H.p.lt
theorem HouseAt.more {W : World} {B B' : Nat} {L : HL} {h : House} (hh : HouseAt W B L h) (hB : B ≤ B') : HouseAt W B' L h := hh.keep hB fun _ _ _ => rfl
theorem rowTo_pack (f : Int) (n : Nat) : rowTo f n n = encP (List.replicate n f) := by simp [rowTo, encP]

theorem AllSt.set {W : World} {s : Nat} {T : Nat → Prop} {L : HL} {h : House} {lo : Int} {pb : Nat} {p : List Int} (H : AllSt W s T L h lo pb p) (hs : s ≠ pb) (hpb : ¬ T pb) (i : Nat) (x : Int) : AllSt (W.setCell ⟨pb, i, none⟩ (.int .i64 x)) s T L h lo pb (p.set i x) := by
  have hk : KpB (fun k => k = pb) W.heap.size W (W.setCell ⟨pb, i, none⟩ (.int .i64 x)) := (KpB.refl _ _ _).set _ _ (.inl rfl)
  exact ⟨(hk.block s (Array.getElem?_eq_some_iff.1 H.b).1 hs).trans H.b, H.p.set i x, H.h.keep (fun b o hb => hk.cell (H.B b hb) (fun h => by have h' : b = pb := h; exact hpb (h' ▸ hb))) hk.size, fun k hk' => Nat.lt_of_lt_of_le (H.B k hk') hk.size⟩
theorem AllSt.drew {W : World} {s : Nat} {T : Nat → Prop} {L : HL} {h : House} {lo : Int} {pb : Nat} {p : List Int} (H : AllSt W s T L h lo pb p) : AllSt W.drew s T L h lo pb p := ⟨H.b, H.p, H.h.keep (fun _ _ _ => rfl) (Nat.le_refl _), H.B⟩
theorem KpB.drew {S : Nat → Prop} {n : Nat} {W W' : World} (h : KpB S n W W') : KpB S n W W'.drew := ⟨h.os, h.tape, h.output, h.size, h.block⟩
theorem take_set {p r : List Int} {m : Nat} (y : Int) (h : m < p.length) : (p.take (m + 1) ++ r).set m y = p.take m ++ y :: r := by
  rw [List.take_succ_eq_append_getElem h, List.append_assoc, List.set_append_right _ _ (by simp; omega)]
  have : m - (p.take m).length = 0 := by simp; omega
  rw [this]; rfl
theorem take_at {p r : List Int} {m : Nat} {x : Int} (h : p[m]? = some x) : (p.take (m + 1) ++ r)[m]? = some x := by
  have := (List.getElem?_eq_some_iff.1 h).1
  rw [List.getElem?_append_left (by simp; omega), List.getElem?_take_of_lt (by omega), h]
theorem packed_of (L : HL) (h : House) (hv : HOK h) (lo : Int) (hlo : -1 ≤ lo) (p : List Int) (hp : p.length = h.ps.length ∧ ∀ x ∈ p, lo ≤ x ∧ x < h.bs.length) (pb c : Nat) (w : World) (hH : HouseAt w w.heap.size L h) (hP : PackAt w pb p) :
    Calls Try.prog 83 #[L.enc h, .slice (some ⟨pb, 0, none⟩) h.ps.length c] w fun e w' => e = .returned (encCs (packedC h p)) ∧ Below w.heap.size w w' := by
  have := packed_any L h hv p hp.1 (fun k b hb => by have := hp.2 b (List.mem_of_getElem? hb); have := hv.bl; omega) (some ⟨pb, 0, none⟩) c w hH hP.ints
  rw [hp.1] at this
  exact this
theorem take_snoc_pre {α : Type} {l : List α} {k : Nat} {x : α} (h : l[k]? = some x) : l.take k ++ [x] <+: l := by
  obtain ⟨hk, e⟩ := List.getElem?_eq_some_iff.1 h
  subst e
  rw [← List.take_succ_eq_append_getElem hk]
  exact List.take_prefix _ _
theorem take_snoc_all {α : Type} {l : List α} {k : Nat} {x : α} (h : l[k]? = some x) (hk : k + 1 = l.length) : l.take k ++ [x] = l := by
  obtain ⟨hk2, e⟩ := List.getElem?_eq_some_iff.1 h
  subst e
  rw [← List.take_succ_eq_append_getElem hk2, hk, List.take_length]
theorem take_snoc_next {α : Type} {l : List α} {k : Nat} {x : α} (h : l[k]? = some x) : l.take k ++ [x] = l.take (k + 1) := by
  obtain ⟨hk2, e⟩ := List.getElem?_eq_some_iff.1 h
  subst e
  rw [← List.take_succ_eq_append_getElem hk2]
theorem KpB.drewN {S : Nat → Prop} {n m : Nat} {W W' : World} (h : KpB S n W W') : KpB S n W (W'.drewN m) := ⟨h.os, h.tape, h.output, h.size, h.block⟩
theorem AllSt.drewN {W : World} {s : Nat} {T : Nat → Prop} {L : HL} {h : House} {lo : Int} {pb : Nat} {p : List Int} (H : AllSt W s T L h lo pb p) (m : Nat) : AllSt (W.drewN m) s T L h lo pb p := ⟨H.b, H.p, H.h.keep (fun _ _ _ => rfl) (Nat.le_refl _), H.B⟩
theorem all_start {W W1 : World} {Ak Ap Ab : Option Addr} {ck cp cb n : Nat} {T : Nat → Prop} {h : House} {lo : Int} (hB : ∀ k, T k → k < W.heap.size) (hH : HouseOn W T ⟨Ak, ck, Ap, cp, Ab, cb⟩ h)
    (hp1 : Hid (W1.heap[((W.alloc (Obj.cells #[Value.slice Ak h.ks.length ck, Value.int IntKind.i64 h.fl, Value.slice Ap h.ps.length cp, Value.slice Ab h.bs.length cb, Value.int IntKind.i64 lo] 77)).alloc (Obj.cells #[Value.int IntKind.i64 lo] 3)).heap.size]? = some (Obj.cells (rowTo lo n n).toArray 3 (0, 0))))
    (hb1 : Below ((W.alloc (Obj.cells #[Value.slice Ak h.ks.length ck, Value.int IntKind.i64 h.fl, Value.slice Ap h.ps.length cp, Value.slice Ab h.bs.length cb, Value.int IntKind.i64 lo] 77)).alloc (Obj.cells #[Value.int IntKind.i64 lo] 3)).heap.size ((W.alloc (Obj.cells #[Value.slice Ak h.ks.length ck, Value.int IntKind.i64 h.fl, Value.slice Ap h.ps.length cp, Value.slice Ab h.bs.length cb, Value.int IntKind.i64 lo] 77)).alloc (Obj.cells #[Value.int IntKind.i64 lo] 3)) W1) :
    AllSt W1 W.heap.size T ⟨Ak, ck, Ap, cp, Ab, cb⟩ h lo (W.heap.size + 1 + 1) (List.replicate n lo) ∧ Below W.heap.size W W1 ∧ W.heap.size + 1 + 1 < W1.heap.size := by
  have hbW : Below W.heap.size W ((W.alloc (Obj.cells #[Value.slice Ak h.ks.length ck, Value.int IntKind.i64 h.fl, Value.slice Ap h.ps.length cp, Value.slice Ab h.bs.length cb, Value.int IntKind.i64 lo] 77)).alloc (Obj.cells #[Value.int IntKind.i64 lo] 3)) :=
    ((Below.refl _ W).alloc (Nat.le_refl _) _).alloc (by simp) _
  have hz : ((W.alloc (Obj.cells #[Value.slice Ak h.ks.length ck, Value.int IntKind.i64 h.fl, Value.slice Ap h.ps.length cp, Value.slice Ab h.bs.length cb, Value.int IntKind.i64 lo] 77)).alloc (Obj.cells #[Value.int IntKind.i64 lo] 3)).heap.size = W.heap.size + 1 + 1 := by simp
  have hall : Below W.heap.size W W1 := hbW.trans (hb1.mono (by rw [hz]; omega))
  have hp : W1.heap[W.heap.size + 1 + 1]? = some (Obj.cells (rowTo lo n n).toArray 3 (0, 0)) := by rw [← hz]; exact hp1.out
  have hlt := (Array.getElem?_eq_some_iff.1 hp).1
  refine ⟨⟨?_, ?_, hH.keep (fun b o hb => hall.cell (p := ⟨b, o, none⟩) (hB b hb)) hall.size, fun k hk => Nat.lt_of_lt_of_le (hB k hk) hall.size⟩, hall, hlt⟩
  · exact (hb1.block _ (by rw [hz]; omega)).trans ((Below.heap_alloc _ _ _ (by simp)).trans (World.alloc_heap_new W _))
  · unfold PackAt; rw [← rowTo_pack]; exact hp

set_option maxRecDepth 100000 in
set_option maxHeartbeats 4000000 in
theorem all_seesT (n : Nat) (hn1 : 1 ≤ n) (L : HL) (h : House) (hv : HOK h) (lo : Int) (hlo : -1 ≤ lo ∧ lo ≤ 0) (T : Nat → Prop) (w : World) (hT : ∀ k, T k → k < w.heap.size) (hH : HouseOn w T L h) (S : Nat → Prop) (hS : ∀ k, S k → ¬ T k ∧ k < w.heap.size) :
    SeqSees Fence.wide n Try.prog 66 #[stkV L h lo] #[] S (SeesP h) (allS lo h.bs.length h.ps.length) w := by
  intro l J Jx W hW hJ hJx hY h0
  have hpl := hv.pl
  have hbl := hv.bl
  have HV := Lib.hid hv
  have hBW : ∀ k, T k → k < W.heap.size := fun k hk => Nat.lt_of_lt_of_le (hT k hk) hW.size
  have HBW := Lib.hid hBW
  have HT := Lib.hid hT
  have HHW := Lib.hid ((hH.keep (fun b o hb => hW.cell (p := ⟨b, o, none⟩) (hT b hb)) hW.size : HouseOn W T L h))
  have HS := Lib.hid hS
  have HJ := Lib.hid hJ
  have HJx := Lib.hid hJx
  have HY := Lib.hid hY
  have H0 := Lib.hid h0
  have hWs := hW.size
  clear hv hH hS hJ hJx hY h0 hW hBW hT
  obtain ⟨Ak, ck, Ap, cp, Ab, cb⟩ := L
  obtain ⟨hlo0, hlo1⟩ := hlo
  have hp6 : h.ps.length ≤ 6 := hpl
  by_cases hps : 0 < h.ps.length
  · by_cases hbs : (h.bs.length : Int) ≤ lo
    · refine callsIn_of_wp Try.func66 rfl trivial ?_ rfl
      simp only [Try.ntmps66, List.size_toArray, List.length_cons, List.length_nil, Nat.reduceAdd, Nat.reduceSub, Array.replicate_succ, Array.replicate_zero, List.push_toArray, List.append_toArray, List.nil_append, List.cons_append]
      gi_wp2_with (refine ⟨trivial, ?_⟩; gi_at_call 95; refine (callsIn_wide.2 (repeat_any h.ps.length hp6 (W.heap.size + 1) lo _ (by simp [go_sem]))).mono ?_; rintro e W1 ⟨rfl, hp1, hb1⟩; obtain ⟨hst, hall, hlt1⟩ := all_start HBW.out HHW.out hp1 hb1; obtain ⟨g0, g1, g2, g3, g4⟩ := hst.cells; clear hp1 hb1)
      refine bodyPost_ret (results_none rfl _ _ _) rfl ?_
      exact ⟨⟨_, rfl⟩, W1.heap.size, hall.size, Nat.le_refl _, .inl (by rw [allS_none hbs hps]; exact H0.out _ _ hall.size (Nat.le_refl _) hall)⟩
    · refine callsIn_of_wp Try.func66 rfl trivial ?_ rfl
      simp only [Try.ntmps66, List.size_toArray, List.length_cons, List.length_nil, Nat.reduceAdd, Nat.reduceSub, Array.replicate_succ, Array.replicate_zero, List.push_toArray, List.append_toArray, List.nil_append, List.cons_append]
      gi_wp2_with (refine ⟨trivial, ?_⟩; gi_at_call 95; refine (callsIn_wide.2 (repeat_any h.ps.length hp6 (W.heap.size + 1) lo _ (by simp [go_sem]))).mono ?_; rintro e W1 ⟨rfl, hp1, hb1⟩; obtain ⟨hst, hall, hlt1⟩ := all_start HBW.out HHW.out hp1 hb1; obtain ⟨g0, g1, g2, g3, g4⟩ := hst.cells; clear hp1 hb1)
      obtain ⟨R, hR⟩ : ∃ R : Nat → World → Prop, R = fun k wr => ∃ p, (allS lo h.bs.length h.ps.length)[k]? = some p ∧ J W1.heap.size ((allS lo h.bs.length h.ps.length).take k) wr ∧ AllSt wr W.heap.size T ⟨Ak, ck, Ap, cp, Ab, cb⟩ h lo (W.heap.size + 1 + 1) p ∧ W1.heap.size ≤ wr.heap.size := ⟨_, rfl⟩
      have HR := Lib.hid hR
      clear hR g0 g1 g2 g3 g4
      gi_loopw [5] (fun i wr => ∃ k, R k wr) (fun i wr => leastOf fun m => ∃ k, (allS lo h.bs.length h.ps.length).length - k = m ∧ R k wr)
      case atStart => exact ⟨0, by rw [HR.out]; exact ⟨_, allS_first (fun _ => by omega), by rw [List.take_zero]; exact H0.out _ _ hall.size (Nat.le_refl _) hall, hst, Nat.le_refl _⟩⟩
      case round =>
        obtain ⟨k', hk'⟩ := hrel
        obtain ⟨⟨k, hkm, hRk⟩, -⟩ := leastOf_spec (p := fun m => ∃ k, (allS lo h.bs.length h.ps.length).length - k = m ∧ R k wr) ⟨_, k', rfl, hk'⟩
        clear hk'
        have HKM := Lib.hid hkm
        clear hkm
        rw [HR.out] at hRk
        obtain ⟨p, hpk, hJk, hsk, hDk⟩ := hRk
        have hpm := mem_allS.1 (List.mem_of_getElem? hpk)
        have HP := Lib.hid hpk
        have HPM := Lib.hid hpm
        have HJk := Lib.hid hJk
        clear hpk hpm hJk
        obtain ⟨g0, g1, g2, g3, g4⟩ := hsk.cells
        have hpack := fun c w' (a1 : HouseAt w' w'.heap.size ⟨Ak, ck, Ap, cp, Ab, cb⟩ h) (a2 : PackAt w' (W.heap.size + 1 + 1) p) => packed_of ⟨Ak, ck, Ap, cp, Ab, cb⟩ h HV.out lo hlo0 p HPM.out (W.heap.size + 1 + 1) c w' a1 a2
        have hD1 : W.heap.size ≤ W1.heap.size := by omega
        have hyk : ∀ W5, Below wr.heap.size wr W5 → YieldAt Fence.wide (n - 1) Try.prog l #[.slice (some ⟨W.heap.size + 1 + 1, 0, none⟩) h.ps.length h.ps.length, encCs (packedC h p)] W5 fun e X' =>
            KpB (fun k => S k ∨ Seg w.heap.size W.heap.size k) W1.heap.size W5 X' ∧
              ((e = .returned (.bool true) ∧ J W1.heap.size ((allS lo h.bs.length h.ps.length).take k ++ [p]) X') ∨ (e = .returned (.bool false) ∧ Jx W1.heap.size ((allS lo h.bs.length h.ps.length).take k ++ [p]) X')) := fun W5 hb5 =>
          HY.out W1.heap.size _ p _ W5 hD1 (by have := hb5.size; omega) (HJ.out _ _ _ _ hD1 hDk HJk.out (kpB_of_below hb5)) ⟨W.heap.size + 1 + 1, by omega, by rw [HPM.out.1], (hsk.below hb5).p⟩ (take_snoc_pre HP.out)
        have HPK := Lib.hid hpack
        have HYK := Lib.hid hyk
        clear hpack hyk
        gi_wp2_with (refine ⟨trivial, ?_⟩; gi_at_call 83; refine (callsIn_wide.2 (HPK.out _ _ hsk.h.here hsk.p)).mono ?_; rintro e W5 ⟨rfl, hb5⟩; obtain ⟨fn, tmps, assign, body, hy, hR⟩ := HYK.out W5 hb5)
        refine hR.mono ?_
        clear hR hy
        have hs5 := hsk.below hb5
        rintro e W6 ⟨hk6, (⟨rfl, hJ6⟩ | ⟨rfl, hJ6⟩)⟩
        · have hD6 : W1.heap.size ≤ W6.heap.size := by have := hk6.size; have := hb5.size; omega
          have hs6 : AllSt W6 W.heap.size T ⟨Ak, ck, Ap, cp, Ab, cb⟩ h lo (W.heap.size + 1 + 1) p := hs5.kp hk6 (fun k hk => Nat.lt_of_lt_of_le (HBW.out k hk) hD1) (fun k hk => by
            rcases hk with hk | hk
            · have := HS.out k hk; exact ⟨this.1, by omega, by omega⟩
            · have h1 := hk.1; have h2 := hk.2; exact ⟨fun hT => by have := HT.out k hT; omega, by omega, by omega⟩) (by omega) (by omega)
          have HJ6 := Lib.hid hJ6
          clear hJ6 hs5 hsk HJk hb5 g0 g1 g2 g3 g4 hk6 HYK hst hall HHW
          obtain ⟨g0, g1, g2, g3, g4⟩ := hs6.cells
          gi_wp2
          refine wpIn_wide.2 ?_
          clear g0 g1 g2 g3 g4
          obtain ⟨wo, rfl⟩ : ∃ wo : World, wo = wr := ⟨_, rfl⟩
          go_loopw [5] (fun i wr => ∃ j : Nat, j ≤ h.ps.length ∧ ((j = 0 ∧ i = .int .i64 (-1)) ∨ ∃ m : Nat, j = m + 1 ∧ i = .int .i64 m) ∧ AllSt wr W.heap.size T ⟨Ak, ck, Ap, cp, Ab, cb⟩ h lo (W.heap.size + 1 + 1) (p.take j ++ List.replicate (h.ps.length - j) lo) ∧
            Hid (∀ t y, j ≤ t → p[t]? = some y → y = (h.bs.length : Int) - 1) ∧ KpB (fun b => b = W.heap.size + 1 + 1) W6.heap.size W6 wr) (fun i _ => (intOf i + 1).toNat)
          case atStart =>
            refine ⟨h.ps.length, Nat.le_refl _, .inr ⟨h.ps.length - 1, by omega, by rw [show ((h.ps.length - 1 : Nat) : Int) = (h.ps.length : Int) - 1 by omega]⟩, ?_, Lib.hid (fun t y h1 h2 => by
              have := (List.getElem?_eq_some_iff.1 h2).1
              have := HPM.out.1
              omega), KpB.refl _ _ _⟩
            rw [← HPM.out.1, List.take_length, Nat.sub_self, List.replicate_zero, List.append_nil]
            exact hs6
          case round =>
            clear hs6
            obtain ⟨j, hjn, hji, hs6, HA, hk6⟩ := hrel
            have hD7 : W1.heap.size ≤ wr.heap.size := by have := hk6.size; omega
            obtain ⟨g0, g1, g2, g3, g4⟩ := hs6.cells
            rcases hji with ⟨rfl, rfl⟩ | ⟨m, rfl, rfl⟩
            · -- all numbers were the greatest
              have hall : ∀ x ∈ p, x = (h.bs.length : Int) - 1 := fun x hx => by
                obtain ⟨t, ht⟩ := List.getElem?_of_mem hx
                exact HA.out t x (Nat.zero_le _) ht
              have HALL := Lib.hid hall
              clear hall
              go_wp2
              go_quiet (fail)
              go_wp2
              gi_wp2
              refine bodyPost_ret (results_none rfl _ _ _) rfl ?_
              refine ⟨⟨_, rfl⟩, W1.heap.size, hD1, hD7, .inl ?_⟩
              rw [← take_snoc_all HP.out (allS_last HP.out HALL.out)]
              exact HJ.out _ _ _ _ hD1 hD6 HJ6.out (KpB.drewN (hk6.mono (Nat.le_refl _) fun b _ hb => ⟨by have hb' : b = W.heap.size + 1 + 1 := hb; omega, by have hb' : b = W.heap.size + 1 + 1 := hb; omega⟩))
            · obtain ⟨x, hx⟩ : ∃ x, p[m]? = some x := ⟨_, List.getElem?_eq_getElem (by have := HPM.out.1; omega)⟩
              have gx := hs6.p.cell (take_at hx)
              have gf := hs6.p.frozen
              have hml : m < p.length := (List.getElem?_eq_some_iff.1 hx).1
              have hxb := HPM.out.2 x (List.mem_of_getElem? hx)
              obtain ⟨hx0, hx1⟩ := hxb
              have HX := Lib.hid hx
              clear hx
              by_cases hxl : x = (h.bs.length : Int) - 1
              · have hxt : (x == (h.bs.length : Int) - 1) = true := by simpa using hxl
                have HXL := Lib.hid hxl
                clear hxl
                go_wp2
                go_quiet (fail)
                go_wp2
                go_roundw
                case rel =>
                  refine ⟨m, by omega, ?_, ?_, ?_, (KpB.drewN hk6).set _ _ (.inl rfl)⟩
                  · rcases Nat.eq_zero_or_pos m with rfl | hm0
                    · exact .inl ⟨rfl, rfl⟩
                    · exact .inr ⟨m - 1, by omega, by rw [show ((m - 1 : Nat) : Int) = (m : Int) - 1 by omega]⟩
                  · rw [show h.ps.length - m = (h.ps.length - (m + 1)) + 1 by omega, List.replicate_succ, ← take_set lo hml]
                    exact (AllSt.drewN hs6 _).set (by omega) (fun hT => by have := HBW.out _ hT; omega) m lo
                  · exact Lib.hid fun t y h1 h2 => by
                      by_cases e : t = m
                      · subst e; rw [HX.out] at h2; cases h2; exact HXL.out
                      · exact HA.out t y (by omega) h2
                case measure => simp [intOf]
              · have hxt : (x == (h.bs.length : Int) - 1) = false := by simpa using hxl
                have HXL := Lib.hid hxl
                clear hxl
                have hnx := allS_next m x HP.out HX.out HXL.out (fun j y h1 h2 => HA.out j y (by omega) h2)
                have HN := Lib.hid hnx
                clear hnx
                have hrn : ∀ nq, R (k + 1) ((wr.drewN nq).setCell ⟨W.heap.size + 1 + 1, m, none⟩ (.int .i64 (x + 1))) := fun nq => by
                  rw [HR.out]
                  refine ⟨_, HN.out, ?_, ?_, ?_⟩
                  · rw [← take_snoc_next HP.out]
                    exact HJ.out _ _ _ _ hD1 hD6 HJ6.out (((KpB.drewN hk6).set _ _ (.inl rfl)).mono (Nat.le_refl _) fun b _ hb => ⟨by have hb' : b = W.heap.size + 1 + 1 := hb; omega, by have hb' : b = W.heap.size + 1 + 1 := hb; omega⟩)
                  · rw [show h.ps.length - 1 - m = h.ps.length - (m + 1) by omega, ← take_set (x + 1) hml]
                    exact (AllSt.drewN hs6 _).set (by omega) (fun hT => by have := HBW.out _ hT; omega) m (x + 1)
                  · simp [World.setCell]; omega
                have HRN := Lib.hid hrn
                clear hrn
                go_wp2
                go_quiet (fail)
                go_wp2
                gi_wp2
                go_roundw
                case rel => exact ⟨k + 1, HRN.out _⟩
                case measure =>
                  have h1 := HKM.out
                  have hkl := (List.getElem?_eq_some_iff.1 HN.out).1
                  exact Nat.lt_of_le_of_lt ((leastOf_spec ⟨_, k + 1, rfl, HRN.out _⟩).2 _ ⟨k + 1, rfl, HRN.out _⟩) (by rw [← h1]; omega)
        · gi_wp2
          refine bodyPost_ret (results_none rfl _ _ _) rfl ?_
          exact ⟨⟨_, rfl⟩, W1.heap.size, hD1, by have := hk6.size; have := hb5.size; omega, .inr ⟨_, take_snoc_pre HP.out, hJ6⟩⟩
  · have hps0 : h.ps.length ≤ 0 := by omega
    have hpn : ([] : List Int).length = h.ps.length ∧ ∀ x ∈ ([] : List Int), lo ≤ x ∧ x < (h.bs.length : Int) := ⟨by simp; omega, by simp⟩
    have hall1 : allS lo h.bs.length h.ps.length = [[]] := by rw [show h.ps.length = 0 by omega]; rfl
    have HALL := Lib.hid hall1
    have HPM := Lib.hid hpn
    clear hall1 hpn hps
    refine callsIn_of_wp Try.func66 rfl trivial ?_ rfl
    simp only [Try.ntmps66, List.size_toArray, List.length_cons, List.length_nil, Nat.reduceAdd, Nat.reduceSub, Array.replicate_succ, Array.replicate_zero, List.push_toArray, List.append_toArray, List.nil_append, List.cons_append]
    gi_wp2_with (refine ⟨trivial, ?_⟩; gi_at_call 95; refine (callsIn_wide.2 (repeat_any h.ps.length hp6 (W.heap.size + 1) lo _ (by simp [go_sem]))).mono ?_; rintro e W1 ⟨rfl, hp1, hb1⟩; obtain ⟨hst, hall, hlt1⟩ := all_start HBW.out HHW.out hp1 hb1; obtain ⟨g0, g1, g2, g3, g4⟩ := hst.cells; clear hp1 hb1)
    have hst0 : AllSt W1 W.heap.size T ⟨Ak, ck, Ap, cp, Ab, cb⟩ h lo (W.heap.size + 1 + 1) [] := by
      have e : List.replicate h.ps.length lo = [] := by rw [show h.ps.length = 0 by omega]; rfl
      rw [e] at hst; exact hst
    clear hst
    clear g0 g1 g2 g3 g4
    gi_loopw [5] (fun i wr => J W1.heap.size [] wr ∧ AllSt wr W.heap.size T ⟨Ak, ck, Ap, cp, Ab, cb⟩ h lo (W.heap.size + 1 + 1) [] ∧ W1.heap.size ≤ wr.heap.size) (fun i wr => 0)
    case atStart => exact ⟨H0.out _ _ hall.size (Nat.le_refl _) hall, hst0, Nat.le_refl _⟩
    case round =>
      obtain ⟨hJk, hsk, hDk⟩ := hrel
      have HJk := Lib.hid hJk
      clear hJk
      obtain ⟨g0, g1, g2, g3, g4⟩ := hsk.cells
      have hpack := fun c w' (a1 : HouseAt w' w'.heap.size ⟨Ak, ck, Ap, cp, Ab, cb⟩ h) (a2 : PackAt w' (W.heap.size + 1 + 1) []) => packed_of ⟨Ak, ck, Ap, cp, Ab, cb⟩ h HV.out lo hlo0 [] HPM.out (W.heap.size + 1 + 1) c w' a1 a2
      have hD1 : W.heap.size ≤ W1.heap.size := by omega
      have hyk : ∀ W5, Below wr.heap.size wr W5 → YieldAt Fence.wide (n - 1) Try.prog l #[.slice (some ⟨W.heap.size + 1 + 1, 0, none⟩) h.ps.length h.ps.length, encCs (packedC h [])] W5 fun e X' =>
          KpB (fun k => S k ∨ Seg w.heap.size W.heap.size k) W1.heap.size W5 X' ∧
            ((e = .returned (.bool true) ∧ J W1.heap.size ([] ++ [[]]) X') ∨ (e = .returned (.bool false) ∧ Jx W1.heap.size ([] ++ [[]]) X')) := fun W5 hb5 =>
        HY.out W1.heap.size _ [] _ W5 hD1 (by have := hb5.size; omega) (HJ.out _ _ _ _ hD1 hDk HJk.out (kpB_of_below hb5)) ⟨W.heap.size + 1 + 1, by omega, by rw [HPM.out.1], (hsk.below hb5).p⟩ (by rw [HALL.out]; exact List.prefix_rfl)
      have HPK := Lib.hid hpack
      have HYK := Lib.hid hyk
      clear hpack hyk
      gi_wp2_with (refine ⟨trivial, ?_⟩; gi_at_call 83; refine (callsIn_wide.2 (HPK.out _ _ hsk.h.here hsk.p)).mono ?_; rintro e W5 ⟨rfl, hb5⟩; obtain ⟨fn, tmps, assign, body, hy, hR⟩ := HYK.out W5 hb5)
      refine hR.mono ?_
      clear hR hy
      have hs5 := hsk.below hb5
      rintro e W6 ⟨hk6, (⟨rfl, hJ6⟩ | ⟨rfl, hJ6⟩)⟩
      · have hD6 : W1.heap.size ≤ W6.heap.size := by have := hk6.size; have := hb5.size; omega
        have hs6 : AllSt W6 W.heap.size T ⟨Ak, ck, Ap, cp, Ab, cb⟩ h lo (W.heap.size + 1 + 1) [] := hs5.kp hk6 (fun k hk => Nat.lt_of_lt_of_le (HBW.out k hk) hD1) (fun k hk => by
          rcases hk with hk | hk
          · have := HS.out k hk; exact ⟨this.1, by omega, by omega⟩
          · have h1 := hk.1; have h2 := hk.2; exact ⟨fun hT => by have := HT.out k hT; omega, by omega, by omega⟩) (by omega) (by omega)
        have HJ6 := Lib.hid hJ6
        clear hJ6 hs5 hsk HJk hb5 g0 g1 g2 g3 g4 hk6 HYK hst0 hall HHW
        obtain ⟨g0, g1, g2, g3, g4⟩ := hs6.cells
        gi_wp2
        refine wpIn_wide.2 ?_
        clear g0 g1 g2 g3 g4
        obtain ⟨wo, rfl⟩ : ∃ wo : World, wo = wr := ⟨_, rfl⟩
        go_loopw [5] (fun i wr => i = .int .i64 (-1) ∧ AllSt wr W.heap.size T ⟨Ak, ck, Ap, cp, Ab, cb⟩ h lo (W.heap.size + 1 + 1) [] ∧ KpB (fun b => b = W.heap.size + 1 + 1) W6.heap.size W6 wr) (fun i _ => 0)
        case atStart => exact ⟨by rw [show (h.ps.length : Int) - 1 = -1 by omega], hs6, KpB.refl _ _ _⟩
        case round =>
          clear hs6
          obtain ⟨rfl, hs6, hk6⟩ := hrel
          have hD7 : W1.heap.size ≤ wr.heap.size := by have := hk6.size; omega
          obtain ⟨g0, g1, g2, g3, g4⟩ := hs6.cells
          go_wp2
          go_quiet (fail)
          go_wp2
          gi_wp2
          refine bodyPost_ret (results_none rfl _ _ _) rfl ?_
          refine ⟨⟨_, rfl⟩, W1.heap.size, hD1, hD7, .inl ?_⟩
          rw [HALL.out]
          exact HJ.out _ _ _ _ hD1 hD6 HJ6.out (KpB.drewN (hk6.mono (Nat.le_refl _) fun b _ hb => ⟨by have hb' : b = W.heap.size + 1 + 1 := hb; omega, by have hb' : b = W.heap.size + 1 + 1 := hb; omega⟩))
      · gi_wp2
        refine bodyPost_ret (results_none rfl _ _ _) rfl ?_
        exact ⟨⟨_, rfl⟩, W1.heap.size, hD1, by have := hk6.size; have := hb5.size; omega, .inr ⟨_, by rw [HALL.out]; exact List.prefix_rfl, hJ6⟩⟩
theorem all_sees (n : Nat) (hn1 : 1 ≤ n) (L : HL) (h : House) (hv : HOK h) (lo : Int) (hlo : -1 ≤ lo ∧ lo ≤ 0) (B : Nat) (w : World) (hB : B ≤ w.heap.size) (hH : HouseAt w B L h) (S : Nat → Prop) (hS : ∀ k, S k → B ≤ k ∧ k < w.heap.size) :
    SeqSees Fence.wide n Try.prog 66 #[stkV L h lo] #[] S (SeesP h) (allS lo h.bs.length h.ps.length) w :=
  all_seesT n hn1 L h hv lo hlo (· < B) w (fun _k hk => Nat.lt_of_lt_of_le hk hB) (hH.on hB) S (fun k hk => ⟨Nat.not_lt.2 (hS k hk).1, (hS k hk).2⟩)
end Go.Proofs.Ytgemmmdcpbajoaa
