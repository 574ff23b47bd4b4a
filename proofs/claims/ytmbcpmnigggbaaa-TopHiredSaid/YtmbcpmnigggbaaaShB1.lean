import Derived.Deep.RegionHeld3
import Derived.Deep.RegionWith
import Derived.Deep.OwnRows
import Derived.Deep.DeepMust
import Derived.Test.YtmbcpmnigggbaaaShA2
import Derived.WalkKit
import Derived.WalkSpells
import Derived.BigQuiet
import Derived.Below
import Derived.Lib.Hide
import Derived.Test.YtmbcpmnigggbaaaShA1
namespace Go.Proofs.Ytmbcpmnigggbaaa.Sh
open Go.RowKit Go.Shelf

/-- Block b is a row of numbers. -/
def cellsOf (l : List Int) : Array Value := (l.map (Value.int .i64)).toArray
def Row (W : World) (b : Nat) (l : List Int) : Prop := W.heap[b]? = some (.cells (cellsOf l) 3 (0, 0))
theorem info3 : (Try.prog.info? 3).map (fun i => (i.zero, i.size, i.bytes)) = some (some (.int .i64 0), 1, 8) := by kernel_rfl
theorem made_zero (n : Nat) : madeCells #[Value.int .i64 0] n = cellsOf (List.replicate n 0) := by
  unfold madeCells cellsOf
  apply Array.ext
  · simp
  · intro i h1 h2
    have e : i % 1 = 0 := by omega
    simp [e]
theorem run_make_ints (n : Nat) (hn : n ≤ 1000) (w : World) : (Instr.makeSlice 25 (.int .i64 (n : Int)) (.int .i64 (n : Int))).run Try.prog w = .ok (.slice (some ⟨w.heap.size, 0, none⟩) n n) (w.alloc (.cells (cellsOf (List.replicate n 0)) 3)) := by
  rw [← made_zero]
  exact run_make_row' 25 3 (.int .i64 0) 8 Try.underlying25 info3 rfl .i64 .i64 n (by omega) (by omega) w

section
variable {W W' : World} {b : Nat} {l : List Int}
theorem Row.lt (h : Row W b l) : b < W.heap.size := (Array.getElem?_eq_some_iff.1 h).1
theorem Row.cell (h : Row W b l) {k : Nat} (hk : k < l.length) : W.cell? ⟨b, k, none⟩ = some (.int .i64 (l[k]?.getD 0)) := by
  have h' : W.heap[b]? = _ := h
  simp [World.cell?, h', cellsOf, hk]
theorem Row.frozen (h : Row W b l) (k : Nat) : W.frozen? ⟨b, k, none⟩ = false := by
  have h' : W.heap[b]? = _ := h
  simp [World.frozen?, h']
theorem Row.set (h : Row W b l) (k : Nat) (v : Int) : Row (W.setCell ⟨b, k, none⟩ (.int .i64 v)) b (l.set k v) := by
  obtain ⟨hlt, hk⟩ := Array.getElem?_eq_some_iff.1 h
  show (W.heap.modify b _)[b]? = _
  rw [Array.getElem?_eq_getElem (by rw [Array.size_modify]; exact hlt), Array.getElem_modify_self, hk]
  simp [cellsOf, List.map_set]
theorem Row.other (h : Row W b l) {p : Addr} (hne : b ≠ p.block) (u : Value) : Row (W.setCell p u) b l := (Below.heap_setCell _ _ _ _ hne).trans h
theorem Row.alloc (h : Row W b l) (o : Obj) : Row (W.alloc o) b l := (Below.heap_alloc _ _ _ h.lt).trans h
theorem Row.new (W : World) (l : List Int) : Row (W.alloc (.cells (cellsOf l) 3)) W.heap.size l := World.alloc_heap_new W _
theorem Row.grown {row : Option Nat} (h : Row W b l) (hg : W.grownBy W' row) (hr : some b ≠ row) : Row W' b l := (hg.block b h.lt hr).trans h
theorem Row.below {B : Nat} (h : Row W b l) (hb : Below B W W') (hB : b < B) : Row W' b l := (hb.block b hB).trans h
theorem Row.kp {S : Nat → Prop} {n₀ : Nat} (h : Row W b l) (hk : KpB S n₀ W W') (hb : b < n₀) (hs : ¬ S b) : Row W' b l := (hk.block b hb hs).trans h
theorem boxed_kp {S : Nat → Prop} {n₀ : Nat} {t : TypeId} {v : Value} (h : Boxed W b t v) (hk : KpB S n₀ W W') (hb : b < n₀) (hs : ¬ S b) : Boxed W' b t v := (hk.block b hb hs).trans h
theorem row_own {β : Type} {B : Nat} (f : β → List Int) : OwnFrom B (fun x W => Row W b (f x)) := fun _ X _ row hs hg hr =>
  hs.grown hg (fun e => by obtain ⟨o, ho, hc⟩ := (hr b e.symm).2; rw [show X.heap[b]? = _ from hs] at ho; cases ho; cases hc)
end

theorem give97 (pb gb N : Nat) (k : Nat) (v : Int) (l : List Int) (W : World) (hk : k < N) (_hN : N ≤ 1000) (hl : l.length = N) (hb : Boxed W pb 25 (.slice (some ⟨gb, 0, none⟩) N N)) (hr : Row W gb l) :
    Calls Try.prog 165 #[.int .i64 k, .int .i64 v, .pointer (some ⟨pb, 0, none⟩)] W fun e W' => (∃ u, e = .returned u) ∧ W.setCell ⟨gb, k, none⟩ (.int .i64 v) = W' := by
  have c1 := hb.cell
  have c2 := hr.cell (k := k) (by omega)
  have c3 := hr.frozen k
  clear hl
  go_enter Try.func165, Try.ntmps165
  go_wp2
  go_end0
  exact ⟨⟨_, rfl⟩, rfl⟩

/-- What each has got, and what each keeps, when k nodes have been divided. -/
def applyG (l : List Int) (gs : List (Nat × Int)) : List Int := gs.foldl (fun l p => l.set p.1 p.2) l
def shStep (ns : List Node) (p : List Int × List Int) (k : Nat) : List Int × List Int :=
  (applyG p.1 (gives (splitF (p.1[k]?.getD 0) (kidsTo ns.length ns k ns.length)).1 (kidsTo ns.length ns k ns.length)), p.2.set k (splitF (p.1[k]?.getD 0) (kidsTo ns.length ns k ns.length)).2)
def shTo (ns : List Node) (pence : Int) : Nat → List Int × List Int
  | 0 => ((List.replicate ns.length 0).set 0 pence, List.replicate ns.length 0)
  | k + 1 => shStep ns (shTo ns pence k) k
theorem applyG_len (l : List Int) (gs : List (Nat × Int)) : (applyG l gs).length = l.length := by
  induction gs generalizing l with
  | nil => rfl
  | cons p gs ih => simp only [applyG, List.foldl_cons] at ih ⊢; rw [ih]; simp
theorem applyG_snoc (l : List Int) (gs : List (Nat × Int)) (p : Nat × Int) : applyG l (gs ++ [p]) = (applyG l gs).set p.1 p.2 := by simp [applyG]
theorem shTo_len (ns : List Node) (pence : Int) : ∀ k, (shTo ns pence k).1.length = ns.length ∧ (shTo ns pence k).2.length = ns.length
  | 0 => by simp [shTo]
  | k + 1 => by
    have := shTo_len ns pence k
    simp only [shTo, shStep, applyG_len, List.length_set]
    exact this
theorem cells_set (l : List Int) (k : Nat) (v : Int) : cellsOf (l.set k v) = (cellsOf l).setIfInBounds k (.int .i64 v) := by simp [cellsOf, List.map_set]
theorem boxed_other' {W : World} {b : Nat} {t : TypeId} {v : Value} (h : Boxed W b t v) {p : Addr} (hne : b ≠ p.block) (u : Value) : Boxed (W.setCell p u) b t v := (Below.heap_setCell _ _ _ _ hne).trans h

set_option maxRecDepth 100000 in
set_option maxHeartbeats 4000000 in
theorem share_any (c : Nat) (A : Option Addr) (ns : List Node) (pence : Int) (hv : ∀ i x, ns[i]? = some x → OKp ns.length (i, x)) (hl1 : 1 ≤ ns.length) (hl : ns.length ≤ 8) (w : World) (hN : Nodes w w.heap.size A ns)
    (hbd : ∀ k, k < ns.length → 0 ≤ (shTo ns pence k).1[k]?.getD 0 ∧ (shTo ns pence k).1[k]?.getD 0 ≤ 400) :
    Calls Try.prog 109 #[.agg #[.slice A ns.length c], .int .i64 pence] w fun e w' => ∃ gb kb, e = .returned (.tuple #[.slice (some ⟨gb, 0, none⟩) ns.length ns.length, .slice (some ⟨kb, 0, none⟩) ns.length ns.length]) ∧
      w.heap.size ≤ gb ∧ w.heap.size ≤ kb ∧ gb ≠ kb ∧ Row w' gb (shTo ns pence ns.length).1 ∧ Row w' kb (shTo ns pence ns.length).2 ∧ Below w.heap.size w w' := by
  have hmk := run_make_ints ns.length (by omega)
  have hz0 : (cellsOf (List.replicate ns.length 0))[0]? = some (.int .i64 0) := by
    rcases ns with _ | ⟨x, t⟩
    · simp at hl1
    · simp [cellsOf, List.replicate_succ]
  have c1 := Boxed.new w 155 (.slice A ns.length c)
  go_enter Try.func109, Try.ntmps109
  go_wp2
  go_region
  all_goals go_wp2
  · have c1 := (Boxed.new w 155 (.slice A ns.length c)).alloc (.cells #[.slice (some ⟨w.heap.size + 1 + 1, 0, none⟩) ns.length ns.length] 25)
    have c2 := Boxed.new (w.alloc (.cells #[.slice A ns.length c] 155)) 25 (.slice (some ⟨w.heap.size + 1 + 1, 0, none⟩) ns.length ns.length)
    have c3 := Row.new ((w.alloc (.cells #[.slice A ns.length c] 155)).alloc (.cells #[.slice (some ⟨w.heap.size + 1 + 1, 0, none⟩) ns.length ns.length] 25)) ((List.replicate ns.length 0).set 0 pence)
    have c4 := Row.new (((w.alloc (.cells #[.slice A ns.length c] 155)).alloc (.cells #[.slice (some ⟨w.heap.size + 1 + 1, 0, none⟩) ns.length ns.length] 25)).alloc (.cells ((cellsOf (List.replicate ns.length 0)).setIfInBounds 0 (.int .i64 pence)) 3)) (List.replicate ns.length 0)
    simp only [World.size_alloc, cells_set] at c2 c3 c4
    obtain ⟨WS, hWS⟩ : ∃ WS, (((((w.alloc (.cells #[.slice A ns.length c] 155)).alloc (.cells #[.slice (some ⟨w.heap.size + 1 + 1, 0, none⟩) ns.length ns.length] 25)).alloc (.cells ((cellsOf (List.replicate ns.length 0)).setIfInBounds 0 (.int .i64 pence)) 3)).alloc (.cells (cellsOf (List.replicate ns.length 0)) 3))).drew = WS := ⟨_, rfl⟩
    have z1 : Boxed WS w.heap.size 155 (.slice A ns.length c) := by rw [← hWS]; exact ((c1.alloc _).alloc _)
    have z2 : Boxed WS (w.heap.size + 1) 25 (.slice (some ⟨w.heap.size + 1 + 1, 0, none⟩) ns.length ns.length) := by rw [← hWS]; exact ((c2.alloc _).alloc _)
    have z3 : Row WS (w.heap.size + 1 + 1) (shTo ns pence 0).1 := by rw [← hWS]; exact c3.alloc _
    have z4 : Row WS (w.heap.size + 1 + 1 + 1) (shTo ns pence 0).2 := by rw [← hWS]; exact c4
    have z5 : Below w.heap.size w WS := by rw [← hWS]; exact (((((Below.refl _ w).alloc (Nat.le_refl _) _).alloc (by simp) _).alloc (by simp; omega) _).alloc (by simp; omega) _).drew
    have z6 : w.heap.size + 4 ≤ WS.heap.size := by rw [← hWS]; simp
    rw [hWS]
    clear hWS c1 c2 c3 c4
    go_loopw [6, 24] (fun _ i wr => ∃ k : Nat, k ≤ ns.length ∧ i = .int .i64 k ∧ Row wr (w.heap.size + 1 + 1) (shTo ns pence k).1 ∧ Row wr (w.heap.size + 1 + 1 + 1) (shTo ns pence k).2 ∧ Boxed wr w.heap.size 155 (.slice A ns.length c) ∧ Boxed wr (w.heap.size + 1) 25 (.slice (some ⟨w.heap.size + 1 + 1, 0, none⟩) ns.length ns.length) ∧ Below w.heap.size w wr ∧ w.heap.size + 4 ≤ wr.heap.size)
      (fun _ i _ => ns.length - (intOf i).toNat)
    case atStart => exact ⟨0, Nat.zero_le _, rfl, z3, z4, z1, z2, z5, z6⟩
    case round =>
      obtain ⟨k, hk, rfl, r1, r2, b1, b2, hb, hz⟩ := hrel
      by_cases hlt : k < ns.length
      · have e1 := r1.cell (k := k) (by rw [(shTo_len ns pence k).1]; exact hlt)
        have e2 := r2.cell (k := k) (by rw [(shTo_len ns pence k).2]; exact hlt)
        have e3 := r2.frozen k
        have e4 := b1.cell
        have e5 := b2.cell
        obtain ⟨v1, v2⟩ := hbd k hlt
        have hNk : Nodes wr w.heap.size A ns := hN.below hb
        have hsp := fun (W : World) (hW : W.heap = wr.heap) (hos : W.os = wr.os ∧ W.tape = wr.tape ∧ W.output = wr.output) => split_any w.heap.size c 165 (w.heap.size + 1) A ns k ((shTo ns pence k).1[k]?.getD 0) v1 v2 hv hl W (by rw [hW]; exact hb.size) (by
            rcases hNk with h | ⟨b, off, hA, hb', hc⟩
            · exact .inl h
            · exact .inr ⟨b, off, hA, hb', fun i x hx => by simp only [World.cell?, hW]; simpa only [World.cell?] using hc i x hx⟩) (enters_of Try.func165 (by kernel_rfl) rfl)
          (fun j => j = w.heap.size + 1 + 1) (fun j hj => ⟨by omega, by rw [hW]; omega⟩) (fun _ pre W' => (Row W' (w.heap.size + 1 + 1) (applyG (shTo ns pence k).1 pre) ∧ Boxed W' (w.heap.size + 1) 25 (.slice (some ⟨w.heap.size + 1 + 1, 0, none⟩) ns.length ns.length)) ∧ wr.heap.size ≤ W'.heap.size)
          (fun W' hW' => ⟨⟨(hW'.block _ (by rw [hW]; exact r1.lt)).trans (by rw [hW]; exact r1), (hW'.block _ (by rw [hW]; exact b2.lt)).trans (by rw [hW]; exact b2)⟩, by have := hW'.size; rw [hW] at this; exact this⟩)
          (fun _ => OwnFrom.and (OwnFrom.and (row_own _) (boxed_ownFrom (fun _ => _))) ownFrom_size)
          (fun n₀ pre j v W' h1 h2 h3 h4 h5 h6 h7 => (give97 (w.heap.size + 1) (w.heap.size + 1 + 1) ns.length j v _ W' h3 (by omega) ((applyG_len _ _).trans (shTo_len ns pence k).1) h6.1.2 h6.1.1).mono (by
            rintro e W5 ⟨hu, rfl⟩
            exact ⟨hu, ⟨⟨by rw [applyG_snoc]; exact h6.1.1.set j v, boxed_other' h6.1.2 (by show w.heap.size + 1 ≠ w.heap.size + 1 + 1; omega) _⟩, by rw [World.size_setCell]; exact h6.2⟩, (KeepsOthers.setCell _ _ _).from _, (KpB.refl _ _ _).set _ _ (.inl rfl)⟩))
        have Hsp := Lib.hid hsp
        have hnb : wr.heap.size ≤ wr.drew.heap.size := Nat.le_refl _
        have Hk := Lib.hid hk
        clear hsp hNk hk
        go_wp2
        go_region_with (go_at_call 164; go_must (refine (Hsp.out wr.drew rfl ⟨rfl, rfl, rfl⟩).mono ?_; rintro e W5 ⟨rfl, ⟨n₀, hn₀, ⟨⟨g1, g2⟩, g3⟩⟩, g4⟩; have g5 : Row W5 (w.heap.size + 1 + 1 + 1) (shTo ns pence k).2 := Row.kp (W := wr.drew) (S := fun j => j = w.heap.size + 1 + 1) r2 g4 r2.lt (fun (h : w.heap.size + 1 + 1 + 1 = w.heap.size + 1 + 1) => by omega); have g6 := g5.cell (k := k) (by rw [(shTo_len ns pence k).2]; exact hlt); have g7 := g5.frozen k; have g8 : Boxed W5 w.heap.size 155 (.slice A ns.length c) := boxed_kp (W := wr.drew) (S := fun j => j = w.heap.size + 1 + 1) b1 g4 b1.lt (fun (h : w.heap.size = w.heap.size + 1 + 1) => by omega)))
        all_goals
          have h1 := g5.set k (splitF ((shTo ns pence k).1[k]?.getD 0) (kidsTo ns.length ns k ns.length)).2
          have h2 := Row.other g1 (p := ⟨w.heap.size + 1 + 1 + 1, k, none⟩) (by show w.heap.size + 1 + 1 ≠ w.heap.size + 1 + 1 + 1; omega) (.int .i64 (splitF ((shTo ns pence k).1[k]?.getD 0) (kidsTo ns.length ns k ns.length)).2)
          have h3 := boxed_other' g2 (p := ⟨w.heap.size + 1 + 1 + 1, k, none⟩) (by show w.heap.size + 1 ≠ w.heap.size + 1 + 1 + 1; omega) (.int .i64 (splitF ((shTo ns pence k).1[k]?.getD 0) (kidsTo ns.length ns k ns.length)).2)
          have h4 := boxed_other' g8 (p := ⟨w.heap.size + 1 + 1 + 1, k, none⟩) (by show w.heap.size ≠ w.heap.size + 1 + 1 + 1; omega) (.int .i64 (splitF ((shTo ns pence k).1[k]?.getD 0) (kidsTo ns.length ns k ns.length)).2)
          have h5 : Below w.heap.size w W5 := hb.drew.trans ((g4.mono hb.size (fun _ _ h => h)).below (S := fun j => j = w.heap.size + 1 + 1) (fun j hj => by have : j = w.heap.size + 1 + 1 := hj; omega))
          have h6 := h5.setCell (p := ⟨w.heap.size + 1 + 1 + 1, k, none⟩) (by show w.heap.size ≤ w.heap.size + 1 + 1 + 1; omega) (.int .i64 (splitF ((shTo ns pence k).1[k]?.getD 0) (kidsTo ns.length ns k ns.length)).2)
          have h7 : w.heap.size + 4 ≤ W5.heap.size := Nat.le_trans hz g3
          clear g1 g2 g3 g4 g5 g6 g7 g8 h5 r1 r2 b1 b2 hb e1 e2 e3 e4 e5
          go_wp2
          go_roundw
          case rel => exact ⟨k + 1, by omega, by go_num, h2, h1, h4, h3, h6, by rw [World.size_setCell]; exact h7⟩
          case measure => simp [intOf]; omega
      · obtain rfl : k = ns.length := by omega
        have e5 := b2.cell
        have e6 := b2.frozen
        have q := (b2.set (.slice (some ⟨w.heap.size + 1 + 1, 0, none⟩) ns.length ns.length)).cell
        go_wp2
        refine bodyPost_ret (v := .tuple #[.slice (some ⟨w.heap.size + 1 + 1, 0, none⟩) ns.length ns.length, .slice (some ⟨w.heap.size + 1 + 1 + 1, 0, none⟩) ns.length ns.length]) (by simp [results, Try.results109, go_sem, q]) rfl ?_
        exact ⟨w.heap.size + 1 + 1, w.heap.size + 1 + 1 + 1, rfl, by omega, by omega, by omega, r1.other (p := ⟨w.heap.size + 1, 0, none⟩) (by show w.heap.size + 1 + 1 ≠ w.heap.size + 1; omega) _, r2.other (p := ⟨w.heap.size + 1, 0, none⟩) (by show w.heap.size + 1 + 1 + 1 ≠ w.heap.size + 1; omega) _, hb.setCell (p := ⟨w.heap.size + 1, 0, none⟩) (by show w.heap.size ≤ w.heap.size + 1; omega) _⟩
  · have c1 := (Boxed.new w 155 (.slice A ns.length c)).alloc (.cells #[.slice (some ⟨w.heap.size + 1 + 1 + 1, 0, none⟩) ns.length ns.length] 25)
    have c2 := Boxed.new (w.alloc (.cells #[.slice A ns.length c] 155)) 25 (.slice (some ⟨w.heap.size + 1 + 1 + 1, 0, none⟩) ns.length ns.length)
    have c3 := Row.new ((w.alloc (.cells #[.slice A ns.length c] 155)).alloc (.cells #[.slice (some ⟨w.heap.size + 1 + 1 + 1, 0, none⟩) ns.length ns.length] 25)) (List.replicate ns.length 0)
    have c4 := Row.new (((w.alloc (.cells #[.slice A ns.length c] 155)).alloc (.cells #[.slice (some ⟨w.heap.size + 1 + 1 + 1, 0, none⟩) ns.length ns.length] 25)).alloc (.cells (cellsOf (List.replicate ns.length 0)) 3)) ((List.replicate ns.length 0).set 0 pence)
    simp only [World.size_alloc, cells_set] at c2 c3 c4
    obtain ⟨WS, hWS⟩ : ∃ WS, (((((w.alloc (.cells #[.slice A ns.length c] 155)).alloc (.cells #[.slice (some ⟨w.heap.size + 1 + 1 + 1, 0, none⟩) ns.length ns.length] 25)).alloc (.cells (cellsOf (List.replicate ns.length 0)) 3)).alloc (.cells ((cellsOf (List.replicate ns.length 0)).setIfInBounds 0 (.int .i64 pence)) 3))).drew = WS := ⟨_, rfl⟩
    have z1 : Boxed WS w.heap.size 155 (.slice A ns.length c) := by rw [← hWS]; exact ((c1.alloc _).alloc _)
    have z2 : Boxed WS (w.heap.size + 1) 25 (.slice (some ⟨w.heap.size + 1 + 1 + 1, 0, none⟩) ns.length ns.length) := by rw [← hWS]; exact ((c2.alloc _).alloc _)
    have z3 : Row WS (w.heap.size + 1 + 1 + 1) (shTo ns pence 0).1 := by rw [← hWS]; exact c4
    have z4 : Row WS (w.heap.size + 1 + 1) (shTo ns pence 0).2 := by rw [← hWS]; exact c3.alloc _
    have z5 : Below w.heap.size w WS := by rw [← hWS]; exact (((((Below.refl _ w).alloc (Nat.le_refl _) _).alloc (by simp) _).alloc (by simp; omega) _).alloc (by simp; omega) _).drew
    have z6 : w.heap.size + 4 ≤ WS.heap.size := by rw [← hWS]; simp
    rw [hWS]
    clear hWS c1 c2 c3 c4
    go_loopw [6, 24] (fun _ i wr => ∃ k : Nat, k ≤ ns.length ∧ i = .int .i64 k ∧ Row wr (w.heap.size + 1 + 1 + 1) (shTo ns pence k).1 ∧ Row wr (w.heap.size + 1 + 1) (shTo ns pence k).2 ∧ Boxed wr w.heap.size 155 (.slice A ns.length c) ∧ Boxed wr (w.heap.size + 1) 25 (.slice (some ⟨w.heap.size + 1 + 1 + 1, 0, none⟩) ns.length ns.length) ∧ Below w.heap.size w wr ∧ w.heap.size + 4 ≤ wr.heap.size)
      (fun _ i _ => ns.length - (intOf i).toNat)
    case atStart => exact ⟨0, Nat.zero_le _, rfl, z3, z4, z1, z2, z5, z6⟩
    case round =>
      obtain ⟨k, hk, rfl, r1, r2, b1, b2, hb, hz⟩ := hrel
      by_cases hlt : k < ns.length
      · have e1 := r1.cell (k := k) (by rw [(shTo_len ns pence k).1]; exact hlt)
        have e2 := r2.cell (k := k) (by rw [(shTo_len ns pence k).2]; exact hlt)
        have e3 := r2.frozen k
        have e4 := b1.cell
        have e5 := b2.cell
        obtain ⟨v1, v2⟩ := hbd k hlt
        have hNk : Nodes wr w.heap.size A ns := hN.below hb
        have hsp := fun (W : World) (hW : W.heap = wr.heap) (hos : W.os = wr.os ∧ W.tape = wr.tape ∧ W.output = wr.output) => split_any w.heap.size c 165 (w.heap.size + 1) A ns k ((shTo ns pence k).1[k]?.getD 0) v1 v2 hv hl W (by rw [hW]; exact hb.size) (by
            rcases hNk with h | ⟨b, off, hA, hb', hc⟩
            · exact .inl h
            · exact .inr ⟨b, off, hA, hb', fun i x hx => by simp only [World.cell?, hW]; simpa only [World.cell?] using hc i x hx⟩) (enters_of Try.func165 (by kernel_rfl) rfl)
          (fun j => j = w.heap.size + 1 + 1 + 1) (fun j hj => ⟨by omega, by rw [hW]; omega⟩) (fun _ pre W' => (Row W' (w.heap.size + 1 + 1 + 1) (applyG (shTo ns pence k).1 pre) ∧ Boxed W' (w.heap.size + 1) 25 (.slice (some ⟨w.heap.size + 1 + 1 + 1, 0, none⟩) ns.length ns.length)) ∧ wr.heap.size ≤ W'.heap.size)
          (fun W' hW' => ⟨⟨(hW'.block _ (by rw [hW]; exact r1.lt)).trans (by rw [hW]; exact r1), (hW'.block _ (by rw [hW]; exact b2.lt)).trans (by rw [hW]; exact b2)⟩, by have := hW'.size; rw [hW] at this; exact this⟩)
          (fun _ => OwnFrom.and (OwnFrom.and (row_own _) (boxed_ownFrom (fun _ => _))) ownFrom_size)
          (fun n₀ pre j v W' h1 h2 h3 h4 h5 h6 h7 => (give97 (w.heap.size + 1) (w.heap.size + 1 + 1 + 1) ns.length j v _ W' h3 (by omega) ((applyG_len _ _).trans (shTo_len ns pence k).1) h6.1.2 h6.1.1).mono (by
            rintro e W5 ⟨hu, rfl⟩
            exact ⟨hu, ⟨⟨by rw [applyG_snoc]; exact h6.1.1.set j v, boxed_other' h6.1.2 (by show w.heap.size + 1 ≠ w.heap.size + 1 + 1 + 1; omega) _⟩, by rw [World.size_setCell]; exact h6.2⟩, (KeepsOthers.setCell _ _ _).from _, (KpB.refl _ _ _).set _ _ (.inl rfl)⟩))
        have Hsp := Lib.hid hsp
        have hnb : wr.heap.size ≤ wr.drew.heap.size := Nat.le_refl _
        have Hk := Lib.hid hk
        clear hsp hNk hk
        go_wp2
        go_region_with (go_at_call 164; go_must (refine (Hsp.out wr.drew rfl ⟨rfl, rfl, rfl⟩).mono ?_; rintro e W5 ⟨rfl, ⟨n₀, hn₀, ⟨⟨g1, g2⟩, g3⟩⟩, g4⟩; have g5 : Row W5 (w.heap.size + 1 + 1) (shTo ns pence k).2 := Row.kp (W := wr.drew) (S := fun j => j = w.heap.size + 1 + 1 + 1) r2 g4 r2.lt (fun (h : w.heap.size + 1 + 1 = w.heap.size + 1 + 1 + 1) => by omega); have g6 := g5.cell (k := k) (by rw [(shTo_len ns pence k).2]; exact hlt); have g7 := g5.frozen k; have g8 : Boxed W5 w.heap.size 155 (.slice A ns.length c) := boxed_kp (W := wr.drew) (S := fun j => j = w.heap.size + 1 + 1 + 1) b1 g4 b1.lt (fun (h : w.heap.size = w.heap.size + 1 + 1 + 1) => by omega)))
        all_goals
          have h1 := g5.set k (splitF ((shTo ns pence k).1[k]?.getD 0) (kidsTo ns.length ns k ns.length)).2
          have h2 := Row.other g1 (p := ⟨w.heap.size + 1 + 1, k, none⟩) (by show w.heap.size + 1 + 1 + 1 ≠ w.heap.size + 1 + 1; omega) (.int .i64 (splitF ((shTo ns pence k).1[k]?.getD 0) (kidsTo ns.length ns k ns.length)).2)
          have h3 := boxed_other' g2 (p := ⟨w.heap.size + 1 + 1, k, none⟩) (by show w.heap.size + 1 ≠ w.heap.size + 1 + 1; omega) (.int .i64 (splitF ((shTo ns pence k).1[k]?.getD 0) (kidsTo ns.length ns k ns.length)).2)
          have h4 := boxed_other' g8 (p := ⟨w.heap.size + 1 + 1, k, none⟩) (by show w.heap.size ≠ w.heap.size + 1 + 1; omega) (.int .i64 (splitF ((shTo ns pence k).1[k]?.getD 0) (kidsTo ns.length ns k ns.length)).2)
          have h5 : Below w.heap.size w W5 := hb.drew.trans ((g4.mono hb.size (fun _ _ h => h)).below (S := fun j => j = w.heap.size + 1 + 1 + 1) (fun j hj => by have : j = w.heap.size + 1 + 1 + 1 := hj; omega))
          have h6 := h5.setCell (p := ⟨w.heap.size + 1 + 1, k, none⟩) (by show w.heap.size ≤ w.heap.size + 1 + 1; omega) (.int .i64 (splitF ((shTo ns pence k).1[k]?.getD 0) (kidsTo ns.length ns k ns.length)).2)
          have h7 : w.heap.size + 4 ≤ W5.heap.size := Nat.le_trans hz g3
          clear g1 g2 g3 g4 g5 g6 g7 g8 h5 r1 r2 b1 b2 hb e1 e2 e3 e4 e5
          go_wp2
          go_roundw
          case rel => exact ⟨k + 1, by omega, by go_num, h2, h1, h4, h3, h6, by rw [World.size_setCell]; exact h7⟩
          case measure => simp [intOf]; omega
      · obtain rfl : k = ns.length := by omega
        have e5 := b2.cell
        have e6 := b2.frozen
        have q := (b2.set (.slice (some ⟨w.heap.size + 1 + 1 + 1, 0, none⟩) ns.length ns.length)).cell
        go_wp2
        refine bodyPost_ret (v := .tuple #[.slice (some ⟨w.heap.size + 1 + 1 + 1, 0, none⟩) ns.length ns.length, .slice (some ⟨w.heap.size + 1 + 1, 0, none⟩) ns.length ns.length]) (by simp [results, Try.results109, go_sem, q]) rfl ?_
        exact ⟨w.heap.size + 1 + 1 + 1, w.heap.size + 1 + 1, rfl, by omega, by omega, by omega, r1.other (p := ⟨w.heap.size + 1, 0, none⟩) (by show w.heap.size + 1 + 1 + 1 ≠ w.heap.size + 1; omega) _, r2.other (p := ⟨w.heap.size + 1, 0, none⟩) (by show w.heap.size + 1 + 1 ≠ w.heap.size + 1; omega) _, hb.setCell (p := ⟨w.heap.size + 1, 0, none⟩) (by show w.heap.size ≤ w.heap.size + 1; omega) _⟩
end Go.Proofs.Ytmbcpmnigggbaaa.Sh
namespace Go.Proofs.Ytmbcpmnigggbaaa.Sh
open Go.RowKit

/-! A region that draws its order, whose operations read and whose calls make memory of their own: walked once, in the order of the text. -/
open Classical in
/-- The world x, if it lies over w; else w itself. -/
noncomputable def extB (w x : World) : World := if Below w.heap.size w x then x else w
theorem extB_below (w x : World) : Below w.heap.size w (extB w x) := by
  unfold extB
  split
  · assumption
  · exact Below.refl _ _
theorem extB_of {w W : World} (h : Below w.heap.size w W) : ∃ x, W = extB w x := ⟨W, by unfold extB; rw [if_pos h]⟩
theorem cell_lt {w : World} {a : Addr} {v : Value} (h : w.cell? a = some v) : a.block < w.heap.size := by
  unfold World.cell? at h
  split at h
  · rename_i hh
    exact (Array.getElem?_eq_some_iff.1 hh).1
  · cases h
theorem extB_cell {w : World} {a : Addr} {v : Value} (h : w.cell? a = some v) : ∀ x, (extB w x).cell? a = some v := fun x => ((extB_below w x).cell (cell_lt h)).trans h
theorem below_cell {w W : World} (hb : Below w.heap.size w W) {a : Addr} {v : Value} (h : w.cell? a = some v) : W.cell? a = some v := (hb.cell (cell_lt h)).trans h
theorem wp_region_ext {P : Program} {id : Nat} {Q : Exit → Act → World → Prop} {a : Act} {w : World} {l : List Oper} (hm : P.follows .mixedOrders = true) (hB : Region.lexB .any l.toArray = true)
    (h : wpQuiet P l.toArray (fun w' => ∃ x, w' = extB w x) (fun a' => ∀ w', (∃ x, w' = extB w x) → Q .normal a' w') l a) : (Code.region id l.toArray true).wp P Q a w :=
  wp_region_quiet (C := fun w' => ∃ x, w' = extB w x) hm hB (extB_of (Below.refl _ w).drew) (by simpa using h)
theorem ext_call {P : Program} {f : FuncId} {args : Array Value} {w x : World} {v : Value} (h : Calls P f args (extB w x) fun e w' => e = .returned v ∧ Below (extB w x).heap.size (extB w x) w') :
    Calls P f args (extB w x) fun e w'' => e = .returned v ∧ ∃ y, w'' = extB w y :=
  h.mono fun _ _ ⟨he, hb⟩ => ⟨he, extB_of ((extB_below w x).trans (hb.mono (extB_below w x).size))⟩
theorem ext_same {P : Program} {f : FuncId} {args : Array Value} {w x : World} {v : Value} (h : Calls P f args (extB w x) fun e w' => e = .returned v ∧ extB w x = w') :
    Calls P f args (extB w x) fun e w'' => e = .returned v ∧ ∃ y, w'' = extB w y :=
  h.mono fun _ _ ⟨he, hb⟩ => ⟨he, x, hb.symm⟩

/-- n lies from lo to hi. -/
def inR (n lo hi : Int) : Bool := decide (lo ≤ n) && decide (n ≤ hi)
theorem inR_true {n lo hi : Int} : inR n lo hi = true ↔ lo ≤ n ∧ n ≤ hi := by simp [inR]
end Go.Proofs.Ytmbcpmnigggbaaa.Sh
namespace Go.Proofs.Ytmbcpmnigggbaaa.Sh
open Go.RowKit

theorem within_any (n lo hi : Int) (w : World) : Calls Try.prog 161 #[.int .i64 n, .int .i64 lo, .int .i64 hi] w fun e w' => e = .returned (.bool (inR n lo hi)) ∧ w = w' := by
  by_cases h : lo ≤ n <;> by_cases h2 : n ≤ hi
  all_goals
    have e : inR n lo hi = (decide (lo ≤ n) && decide (n ≤ hi)) := rfl
    have E := Lib.hid e
    clear e
    go_enter Try.func161, Try.ntmps161
    go_wp2
    go_ret
    exact ⟨by rw [E.out]; simp <;> omega, rfl⟩
theorem refWithin_any (n lo hi : Int) (w : World) : Calls Try.prog 28 #[.int .i64 n, .int .i64 lo, .int .i64 hi] w fun e w' => e = .returned (.bool (inR n lo hi)) ∧ w = w' := by
  by_cases h : lo ≤ n <;> by_cases h2 : n ≤ hi
  all_goals
    have e : inR n lo hi = (decide (lo ≤ n) && decide (n ≤ hi)) := rfl
    have E := Lib.hid e
    clear e
    go_enter Try.func28, Try.ntmps28
    go_wp2
    go_ret
    exact ⟨by rw [E.out]; simp <;> omega, rfl⟩
theorem refWithin2_any (n lo hi : Int) (w : World) : Calls Try.prog 106 #[.int .i64 n, .int .i64 lo, .int .i64 hi] w fun e w' => e = .returned (.bool (inR n lo hi)) ∧ w = w' := by
  go_enter Try.func106, Try.ntmps106
  go_wp2_with (go_at_call 28; refine (refWithin_any _ _ _ _).mono ?_; rintro e w' ⟨rfl, rfl⟩)
  go_ret
  exact ⟨rfl, rfl⟩
theorem isPence_any (n : Int) (w : World) : Calls Try.prog 108 #[.int .i64 n] w fun e w' => e = .returned (.bool (inR n 0 400)) ∧ w = w' := by
  go_enter Try.func108, Try.ntmps108
  go_wp2_with (go_at_call 161; refine (within_any _ _ _ _).mono ?_; rintro e w' ⟨rfl, rfl⟩)
  go_ret
  exact ⟨rfl, rfl⟩
theorem isNode_any (A : Option Addr) (n c : Nat) (k : Int) (w : World) (hn : n ≤ 1000) : Calls Try.prog 147 #[.agg #[.slice A n c], .int .i64 k] w fun e w' => e = .returned (.bool (inR k 0 (n - 1))) ∧ Below w.heap.size w w' := by
  go_enter Try.func147, Try.ntmps147
  go_wp2_with (go_at_call 161; refine (within_any _ _ _ _).mono ?_; rintro e w' ⟨rfl, rfl⟩)
  go_ret
  exact ⟨rfl, (Below.refl _ _).alloc (Nat.le_refl _) _⟩
theorem refIsNode_any (A : Option Addr) (n c : Nat) (k : Int) (w : World) (hn : n ≤ 1000) : Calls Try.prog 50 #[.agg #[.slice A n c], .int .i64 k] w fun e w' => e = .returned (.bool (inR k 0 (n - 1))) ∧ Below w.heap.size w w' := by
  go_enter Try.func50, Try.ntmps50
  go_wp2_with (go_at_call 106; refine (refWithin2_any _ _ _ _).mono ?_; rintro e w' ⟨rfl, rfl⟩)
  go_ret
  exact ⟨rfl, (Below.refl _ _).alloc (Nat.le_refl _) _⟩

theorem Nodes.at_ {W : World} {B : Nat} {A : Option Addr} {ns : List Node} (h : Nodes W B A ns) {k : Nat} {x : Node} (hx : ns[k]? = some x) : ∃ b off, A = some ⟨b, off, none⟩ ∧ b < B ∧
    W.cell? ⟨b, off + k * 3, none⟩ = some (.int .i64 x.u) ∧ W.cell? ⟨b, off + k * 3 + 1, none⟩ = some (.int .i64 x.w) ∧ W.cell? ⟨b, off + k * 3 + 2, none⟩ = some (.int .i64 x.f) := by
  rcases h with h | ⟨b, off, hA, hb, hc⟩
  · subst h; simp at hx
  · exact ⟨b, off, hA, hb, hc k x hx⟩

/-- A custom that is valid. -/
def upOK (i : Nat) (x : Node) : Bool := if i = 0 then decide (x.u = -1) else inR x.u 0 (i - 1)
def nodeOK (i : Nat) (x : Node) : Bool := upOK i x && (inR x.w 0 9 && inR x.f 0 20)
def allOK (ns : List Node) : Bool := (List.range ns.length).all fun i => match ns[i]? with | some x => nodeOK i x | none => true
def validB (ns : List Node) : Bool := inR ns.length 1 8 && allOK ns
def ckE (ns : List Node) : Int := if validB ns then 0 else 100
theorem ckE_yes {ns : List Node} (h : validB ns = true) : ckE ns = 0 := by simp [ckE, h]
theorem ckE_no {ns : List Node} (h : validB ns = false) : ckE ns = 100 := by simp [ckE, h]
theorem validB_bad {ns : List Node} {i : Nat} {x : Node} (hx : ns[i]? = some x) (h : nodeOK i x = false) : validB ns = false := by
  have hi : i < ns.length := (List.getElem?_eq_some_iff.1 hx).1
  have : allOK ns = false := by
    rw [allOK, List.all_eq_false]
    exact ⟨i, List.mem_range.2 hi, by simp only [hx]; simp [h]⟩
  simp [validB, this]
theorem okStep {ns : List Node} {k : Nat} {x : Node} (h : ∀ j x, j < k → ns[j]? = some x → nodeOK j x = true) (hx : ns[k]? = some x) (hk : nodeOK k x = true) : ∀ j x, j < k + 1 → ns[j]? = some x → nodeOK j x = true := by
  intro j y hj hy
  by_cases e : j = k
  · subst e; rw [hx] at hy; cases hy; exact hk
  · exact h j y (by omega) hy
theorem validB_good {ns : List Node} (hl : inR ns.length 1 8 = true) (h : ∀ i x, ns[i]? = some x → nodeOK i x = true) : validB ns = true := by
  have : allOK ns = true := by
    rw [allOK, List.all_eq_true]
    intro i hi
    cases hx : ns[i]? with
    | none => rfl
    | some x => exact h i x hx
  simp [validB, this, hl]

set_option maxRecDepth 100000 in
set_option maxHeartbeats 4000000 in
theorem check_any (A : Option Addr) (c : Nat) (ns : List Node) (hn : ns.length ≤ 1000) (w : World) (hN : Nodes w w.heap.size A ns) : Calls Try.prog 105 #[.agg #[.slice A ns.length c]] w fun e w' => e = .returned (.int .i64 (ckE ns)) ∧ Below w.heap.size w w' := by
  by_cases hl : inR ns.length 1 8 = true
  · go_enter Try.func105, Try.ntmps105
    go_wp2_with (go_at_call 161; refine (within_any _ _ _ _).mono ?_; rintro e w' ⟨rfl, rfl⟩)
    have HL := Lib.hid hl
    go_loopw [3, 4, 5, 14] (fun _ _ _ i wr => ∃ k : Nat, k ≤ ns.length ∧ i = .int .i64 k ∧ (∀ j x, j < k → ns[j]? = some x → nodeOK j x = true) ∧ Below w.heap.size w wr) (fun _ _ _ i _ => ns.length - (intOf i).toNat)
    case atStart => exact ⟨0, Nat.zero_le _, rfl, fun j x hj => by omega, (Below.refl _ _).alloc (Nat.le_refl _) _⟩
    case round =>
      obtain ⟨k, hk, rfl, hok, hb⟩ := hrel
      by_cases hlt : k < ns.length
      · obtain ⟨x, hx⟩ : ∃ x, ns[k]? = some x := ⟨_, List.getElem?_eq_getElem hlt⟩
        obtain ⟨b, off, rfl, hbb, c1, c2, c3⟩ := hN.at_ hx
        have d1 := below_cell hb c1
        have d2 := below_cell hb c2
        have d3 := below_cell hb c3
        have HX := Lib.hid hx
        have HO := Lib.hid hok
        clear hx hok c1 c2 c3
        have hwr : w.heap.size ≤ wr.heap.size := hb.size
        cases hup : upOK k x <;> cases hw : inR x.w 0 9 <;> cases hf : inR x.f 0 20
        all_goals
          have HUP := Lib.hid hup
          clear hup
          by_cases hk0 : k = 0
          · have hk1 : k ≤ 0 := by omega
            have hkb : ((k : Int) == 0) = true := by simpa using hk0
            have hub : (x.u == -1) = upOK k x := by rw [upOK, if_pos hk0, Bool.eq_iff_iff]; simp
            rw [HUP.out] at hub
            clear hk0
            have hno : Hid (nodeOK k x = _) := Lib.hid (show nodeOK k x = _ from by rw [nodeOK, HUP.out, hw, hf])
            go_wp2_with (go_at_call 161; refine (within_any _ _ _ _).mono ?_; rintro e w' ⟨rfl, rfl⟩)
            first
              | (go_ret; exact ⟨by rw [ckE_no (validB_bad HX.out hno.out)]; rfl, hb.alloc hwr _⟩)
              | (go_roundw
                 case rel => exact ⟨k + 1, by omega, by go_num, okStep HO.out HX.out hno.out, hb.alloc hwr _⟩
                 case measure => simp [intOf]; omega)
          · have hk1 : 0 < k := by omega
            have hkb : ((k : Int) == 0) = false := by simpa using hk0
            have hub : inR x.u 0 (k - 1) = upOK k x := by rw [upOK, if_neg hk0]
            rw [HUP.out] at hub
            clear hk0
            have hno : Hid (nodeOK k x = _) := Lib.hid (show nodeOK k x = _ from by rw [nodeOK, HUP.out, hw, hf])
            go_wp2_with (go_at_call 161; refine (within_any _ _ _ _).mono ?_; rintro e w' ⟨rfl, rfl⟩)
            first
              | (go_ret; exact ⟨by rw [ckE_no (validB_bad HX.out hno.out)]; rfl, hb.alloc hwr _⟩)
              | (go_roundw
                 case rel => exact ⟨k + 1, by omega, by go_num, okStep HO.out HX.out hno.out, hb.alloc hwr _⟩
                 case measure => simp [intOf]; omega)
      · obtain rfl : k = ns.length := by omega
        go_wp2
        go_ret
        exact ⟨by rw [ckE_yes (validB_good HL.out (fun i x hx => hok i x (List.getElem?_eq_some_iff.1 hx).1 hx))]; rfl, hb⟩
  · go_enter Try.func105, Try.ntmps105
    have hl' : inR ns.length 1 8 = false := by simpa using hl
    have hv : validB ns = false := by simp [validB, hl']
    have HV := Lib.hid hv
    clear hv
    go_wp2_with (go_at_call 161; refine (within_any _ _ _ _).mono ?_; rintro e w' ⟨rfl, rfl⟩)
    go_ret
    exact ⟨by rw [ckE_no HV.out]; rfl, (Below.refl _ _).alloc (Nat.le_refl _) _⟩
end Go.Proofs.Ytmbcpmnigggbaaa.Sh
