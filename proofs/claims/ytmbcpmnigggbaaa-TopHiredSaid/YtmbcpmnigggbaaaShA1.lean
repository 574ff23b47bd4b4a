import Derived.RangeFuncNested
import Derived.RangeFuncLeaves
import Derived.RangeFuncCalls
import Derived.Shelf.Abstract
import Derived.WalkKit
import Derived.OwnWalkIn
import Derived.TacticsInMore
import Derived.LoopNIn
import Derived.LoopIn
import Derived.WalkSpells
import Derived.BigQuiet
import Derived.Lib.Hide
import Derived.Test.YtmbcpmnigggbaaaProg
namespace Go.Proofs.Ytmbcpmnigggbaaa.Sh
open Go.RowKit Go.Shelf

attribute [local go_sem] Oper.semAt_some

/-- A node of a custom: its Up, its Weight, its Fixed. -/
structure Node where
  u : Int
  w : Int
  f : Int

/-- The slice at A holds the nodes ns (from block B on nothing is read). -/
def Nodes (W : World) (B : Nat) (A : Option Addr) (ns : List Node) : Prop :=
  ns = [] ∨ ∃ b off, A = some ⟨b, off, none⟩ ∧ b < B ∧ ∀ i x, ns[i]? = some x →
    W.cell? ⟨b, off + i * 3, none⟩ = some (.int .i64 x.u) ∧ W.cell? ⟨b, off + i * 3 + 1, none⟩ = some (.int .i64 x.w) ∧ W.cell? ⟨b, off + i * 3 + 2, none⟩ = some (.int .i64 x.f)

theorem Nodes.keep {W W' : World} {B : Nat} {A : Option Addr} {ns : List Node} (h : Nodes W B A ns) (hk : ∀ b o, b < B → W'.cell? ⟨b, o, none⟩ = W.cell? ⟨b, o, none⟩) : Nodes W' B A ns := by
  rcases h with h | ⟨b, off, hA, hb, hc⟩
  · exact .inl h
  · exact .inr ⟨b, off, hA, hb, fun i x hx => by rw [hk _ _ hb, hk _ _ hb, hk _ _ hb]; exact hc i x hx⟩
theorem Nodes.below {W W' : World} {B : Nat} {A : Option Addr} {ns : List Node} (h : Nodes W B A ns) (hb : Below B W W') : Nodes W' B A ns := h.keep fun _ _ hp => hb.cell (p := ⟨_, _, none⟩) hp
theorem Nodes.more {W : World} {B B' : Nat} {A : Option Addr} {ns : List Node} (h : Nodes W B A ns) (hB : B ≤ B') : Nodes W B' A ns := by
  rcases h with h | ⟨b, off, hA, hb, hc⟩
  · exact .inl h
  · exact .inr ⟨b, off, hA, by omega, hc⟩

/-- What is known of a pair that the iterator hands over. -/
def OKp (m : Nat) (p : Nat × Node) : Prop := p.1 < m ∧ m ≤ 8 ∧ 0 ≤ p.2.w ∧ p.2.w ≤ 9 ∧ 0 ≤ p.2.f ∧ p.2.f ≤ 20
instance (m : Nat) (p : Nat × Node) : Decidable (OKp m p) := by unfold OKp; infer_instance
abbrev KX (m : Nat) := { p : Nat × Node // OKp m p }

def kidsTo (m : Nat) (ns : List Node) (node : Int) : Nat → List (KX m)
  | 0 => []
  | k + 1 => match ns[k]? with
    | some x => if h : (0 < k ∧ x.u = node) ∧ OKp m (k, x) then kidsTo m ns node k ++ [⟨(k, x), h.2⟩] else kidsTo m ns node k
    | none => kidsTo m ns node k

theorem kidsTo_len (m : Nat) (ns : List Node) (node : Int) : ∀ k, (kidsTo m ns node k).length ≤ k
  | 0 => Nat.le_refl _
  | k + 1 => by
    have := kidsTo_len m ns node k
    unfold kidsTo
    split
    · split
      · simp; omega
      · omega
    · omega
theorem kidsTo_yes {m : Nat} {ns : List Node} {node : Int} {k : Nat} {x : Node} (hx : ns[k]? = some x) (h : OKp m (k, x)) (h0 : 0 < k) (hu : x.u = node) : kidsTo m ns node (k + 1) = kidsTo m ns node k ++ [⟨(k, x), h⟩] := by
  rw [kidsTo, hx]
  simp only
  rw [dif_pos ⟨⟨h0, hu⟩, h⟩]
theorem kidsTo_no {m : Nat} {ns : List Node} {node : Int} {k : Nat} {x : Node} (hx : ns[k]? = some x) (h : ¬ (0 < k ∧ x.u = node)) : kidsTo m ns node (k + 1) = kidsTo m ns node k := by
  rw [kidsTo, hx]
  simp only
  rw [dif_neg (fun hh => h hh.1)]
theorem kidsTo_prefix {m : Nat} {ns : List Node} {node : Int} {k : Nat} (j : Nat) : kidsTo m ns node k <+: kidsTo m ns node (k + j) := by
  induction j with
  | zero => exact List.prefix_rfl
  | succ j ih =>
    refine ih.trans ?_
    rw [← Nat.add_assoc]
    conv => rhs; unfold kidsTo
    split
    · split
      · exact List.prefix_append _ _
      · exact List.prefix_rfl
    · exact List.prefix_rfl

/-- The iterator's own view of memory. -/
def IterAt (W : World) (B bc bn : Nat) (A : Option Addr) (c : Nat) (ns : List Node) (node : Int) : Prop :=
  W.cell? ⟨bc, 0, none⟩ = some (.slice A ns.length c) ∧ W.cell? ⟨bn, 0, none⟩ = some (.int .i64 node) ∧ bc < W.heap.size ∧ bn < W.heap.size ∧ B ≤ W.heap.size ∧ Nodes W B A ns

theorem IterAt.below {W W' : World} {B bc bn : Nat} {A : Option Addr} {c : Nat} {ns : List Node} {node : Int} (h : IterAt W B bc bn A c ns node) (hb : Below W.heap.size W W') : IterAt W' B bc bn A c ns node := by
  obtain ⟨h1, h2, h3, h4, h5, h6⟩ := h
  have := hb.size
  exact ⟨(hb.cell (p := ⟨bc, 0, none⟩) h3).trans h1, (hb.cell (p := ⟨bn, 0, none⟩) h4).trans h2, by omega, by omega, by omega, h6.below (hb.mono h5)⟩
theorem IterAt.alloc {W : World} {B bc bn : Nat} {A : Option Addr} {c : Nat} {ns : List Node} {node : Int} (h : IterAt W B bc bn A c ns node) (o : Obj) : IterAt (W.alloc o) B bc bn A c ns node :=
  h.below ((Below.refl _ W).alloc (Nat.le_refl _) o)

/-- What a round keeps: whatever lay below n₀, but for the blocks of S. -/
structure KpB (S : Nat → Prop) (n₀ : Nat) (W W' : World) : Prop where
  os : W'.os = W.os
  tape : W'.tape = W.tape
  output : W'.output = W.output
  size : W.heap.size ≤ W'.heap.size
  block : ∀ k, k < n₀ → ¬ S k → W'.heap[k]? = W.heap[k]?
theorem KpB.trans {S : Nat → Prop} {n₀ : Nat} {A B C : World} (h : KpB S n₀ A B) (k : KpB S n₀ B C) : KpB S n₀ A C :=
  ⟨k.os.trans h.os, k.tape.trans h.tape, k.output.trans h.output, Nat.le_trans h.size k.size, fun i hi hs => (k.block i hi hs).trans (h.block i hi hs)⟩
theorem kpB_t {S : Nat → Prop} {n₀ : Nat} {A B C : World} (h : KpB S n₀ A B) (k : KpB S n₀ B C) : KpB S n₀ A C := h.trans k
theorem KpB.refl (S : Nat → Prop) (n₀ : Nat) (W : World) : KpB S n₀ W W := ⟨rfl, rfl, rfl, Nat.le_refl _, fun _ _ _ => rfl⟩
theorem KpB.put {S : Nat → Prop} {n₀ : Nat} {w W : World} (h : KpB S n₀ w W) (l : Nat) (o' : Obj) (hl : S l ∨ n₀ ≤ l) : KpB S n₀ w (W.putObj l o') :=
  h.trans ⟨rfl, rfl, rfl, by simp, fun k hk hs => World.putObj_heap_other (fun e => hl.elim (fun hl => hs (e ▸ hl)) (fun hl => by omega))⟩
theorem kpB_b {S : Nat → Prop} {n₀ : Nat} {w : World} (hn : n₀ ≤ w.heap.size) (W : World) (l : Nat) (_o o' : Obj) (hl : w.heap.size ≤ l) (_h : W.heap[l]? = some _o) (_ : _o.isCells = false) (_ : _o.isWalk = false) : KpB S n₀ W (W.putObj l o') :=
  (KpB.refl S n₀ W).put l o' (.inr (by omega))
theorem kpB_of_below {S : Nat → Prop} {n₀ : Nat} {W W' : World} (h : Below n₀ W W') : KpB S n₀ W W' := ⟨h.os, h.tape, h.output, h.size, fun k hk _ => h.block k hk⟩
theorem KpB.below {S : Nat → Prop} {n₀ : Nat} {W W' : World} (h : KpB S n₀ W W') (hS : ∀ k, S k → n₀ ≤ k) : Below n₀ W W' := ⟨h.os, h.tape, h.output, h.size, fun k hk => h.block k hk (fun hs => by have := hS k hs; omega)⟩
theorem KpB.set {S : Nat → Prop} {n₀ : Nat} {w W : World} (hw : KpB S n₀ w W) {k : Nat} (o : Nat) (v : Value) (h : S k ∨ n₀ ≤ k) : KpB S n₀ w (W.setCell ⟨k, o, none⟩ v) :=
  hw.trans ⟨rfl, rfl, rfl, by simp [World.setCell], fun i hi hs => Below.heap_setCell _ _ _ _ (fun e => by cases e; exact h.elim (fun h => hs h) (fun h => by simp at hi; omega))⟩
theorem KpB.alloc {S : Nat → Prop} {n₀ : Nat} {w W : World} (hw : KpB S n₀ w W) (o : Obj) (h : n₀ ≤ W.heap.size) : KpB S n₀ w (W.alloc o) := hw.trans (kpB_of_below ((Below.refl _ W).alloc h o))
theorem KpB.grown {S : Nat → Prop} {n₀ : Nat} {w W W' : World} (hw : KpB S n₀ w W) {row : Option Nat} (hg : W.grownBy W' row) (hn : n₀ ≤ W.heap.size) (h : ∀ k, row = some k → S k ∨ n₀ ≤ k) : KpB S n₀ w W' :=
  hw.trans ⟨hg.os, hg.tape, hg.output, hg.size, fun i hi hs => hg.block i (by omega) (fun e => (h i e.symm).elim (fun h => hs h) (fun h => by omega))⟩
theorem KpB.mono {S S' : Nat → Prop} {n₀ n₁ : Nat} {W W' : World} (h : KpB S n₀ W W') (hn : n₁ ≤ n₀) (hS : ∀ k, k < n₁ → S k → S' k) : KpB S' n₁ W W' := ⟨h.os, h.tape, h.output, h.size, fun k hk hs => h.block k (by omega) (fun hk' => hs (hS k hk hk'))⟩
theorem KpB.ownFrom {β : Type} {S : Nat → Prop} {n₀ B : Nat} {w : World} (hn : n₀ ≤ w.heap.size) (hB : n₀ ≤ B) : OwnFrom B (fun (_ : β) W => KpB S n₀ w W) := fun _ _ _ row hs hg hr =>
  hs.grown hg (Nat.le_trans hn hs.size) (fun k e => .inr (by have := (hr k e).1; omega))
theorem KpB.cell {S : Nat → Prop} {n₀ : Nat} {W W' : World} (h : KpB S n₀ W W') {b o : Nat} (hb : b < n₀) (hs : ¬ S b) : W'.cell? ⟨b, o, none⟩ = W.cell? ⟨b, o, none⟩ := World.cell?_of_block (h.block b hb hs)
theorem IterAt.kp {S : Nat → Prop} {n₀ : Nat} {W W' : World} {B bc bn : Nat} {A : Option Addr} {c : Nat} {ns : List Node} {node : Int} (hbc : bc < n₀ ∧ ¬ S bc) (hbn : bn < n₀ ∧ ¬ S bn) (hB : B ≤ n₀) (hS : ∀ k, S k → B ≤ k)
    (h : IterAt W B bc bn A c ns node) (hk : KpB S n₀ W W') : IterAt W' B bc bn A c ns node ∧ W.heap.size ≤ W'.heap.size := by
  obtain ⟨h1, h2, h3, h4, h5, h6⟩ := h
  have := hk.size
  exact ⟨⟨(hk.cell hbc.1 hbc.2).trans h1, (hk.cell hbn.1 hbn.2).trans h2, by omega, by omega, by omega, h6.keep fun b o hb => hk.cell (by omega) (fun hs => by have := hS b hs; omega)⟩, hk.size⟩

set_option maxRecDepth 100000 in
set_option maxHeartbeats 2000000 in
theorem below1_in (n l B bc bn c : Nat) (hn1 : 1 ≤ n) (A : Option Addr) (ns : List Node) (node : Int) (hv : ∀ i x, ns[i]? = some x → OKp ns.length (i, x)) (Kp : World → World → Prop)
    (hKp : ∀ W W', IterAt W B bc bn A c ns node → Kp W W' → IterAt W' B bc bn A c ns node ∧ W.heap.size ≤ W'.heap.size)
    (J Jx : List (KX ns.length) → World → Prop) (W : World) (hJ : ∀ s W1 o, W.heap.size ≤ W1.heap.size → J s W1 → J s (W1.alloc o))
    (hY : ∀ pre (x : KX ns.length) W, J pre W → pre.length < ns.length → YieldAt Fence.wide (n - 1) Try.prog l #[.int .i64 x.1.1, .agg #[.int .i64 x.1.2.u, .int .i64 x.1.2.w, .int .i64 x.1.2.f]] W fun e W' =>
      (e = .returned (.bool true) ∧ J (pre ++ [x]) W' ∧ Kp W W') ∨ (e = .returned (.bool false) ∧ Jx (pre ++ [x]) W'))
    (hI : IterAt W B bc bn A c ns node) (h0 : J [] W) :
    CallsIn Fence.wide n Try.prog 204 #[.func (.yield l) #[] #[], .pointer (some ⟨bc, 0, none⟩), .pointer (some ⟨bn, 0, none⟩)] W fun e W' => (∃ v, e = .returned v) ∧
      ((∃ ys, ys = kidsTo ns.length ns node ns.length ∧ J ys W') ∨ (∃ pre, pre <+: kidsTo ns.length ns node ns.length ∧ Jx pre W')) := by
  have hc0 := hI.1
  refine callsIn_of_wp Try.func204 rfl trivial ?_ rfl
  simp only [Try.ntmps204, List.size_toArray, List.length_cons, List.length_nil, Nat.reduceAdd, Nat.reduceSub, Array.replicate_succ, Array.replicate_zero, List.push_toArray, List.append_toArray, List.nil_append, List.cons_append]
  gi_wp2
  gi_loopw [10] (fun i wr => ∃ k : Nat, k ≤ ns.length ∧ i = .int .i64 k ∧ J (kidsTo ns.length ns node k) wr ∧ IterAt wr B bc bn A c ns node ∧ W.heap.size ≤ wr.heap.size)
    (fun i _ => ns.length - (intOf i).toNat)
  case atStart => exact ⟨0, Nat.zero_le _, rfl, h0, hI, Nat.le_refl _⟩
  case round =>
    obtain ⟨k, hk, rfl, hJk, hIk, hsz⟩ := hrel
    by_cases hlt : k < ns.length
    · obtain ⟨x, hx⟩ : ∃ x, ns[k]? = some x := ⟨_, List.getElem?_eq_getElem hlt⟩
      have hok := hv k x hx
      obtain ⟨b, off, rfl, hb, hcs⟩ : ∃ b off, A = some ⟨b, off, none⟩ ∧ b < B ∧ _ := by
        rcases hIk.2.2.2.2.2 with h | h
        · rw [h] at hlt; simp at hlt
        · exact h
      obtain ⟨c1, c2, c3⟩ := hcs k x hx
      have hbn := hIk.2.1
      have hIa := hIk.alloc (.cells #[.int .i64 x.u, .int .i64 x.w, .int .i64 x.f] 158)
      have hbn' := hIa.2.1
      have hJa := hJ _ _ (.cells #[.int .i64 x.u, .int .i64 x.w, .int .i64 x.f] 158) hsz hJk
      have hlt2 : k ≤ 8 := by have := hok.2.1; omega
      clear hcs
      by_cases h0k : 0 < k
      · by_cases hu : x.u = node
        · have hlen : (kidsTo ns.length ns node k).length < ns.length := by have := kidsTo_len ns.length ns node k; omega
          obtain ⟨fn, tmps, assign, body, hy, hR⟩ := hY _ ⟨(k, x), hok⟩ _ hJa hlen
          have hub : (x.u == node) = true := by simpa using hu
          have hkb : (0 < k) = True := by simpa using h0k
          have HU := Lib.hid hu
          clear hu
          gi_wp2
          refine hR.mono ?_
          rintro e W3 (⟨rfl, hJ3, hk3⟩ | ⟨rfl, hJx3⟩)
          · obtain ⟨hI3, hs3⟩ := hKp _ _ hIa hk3
            have hsz3 : W.heap.size ≤ W3.heap.size := by simp at hs3; omega
            clear hs3
            gi_wp2
            go_roundw
            case rel => exact ⟨k + 1, by omega, by go_num, by rw [kidsTo_yes hx hok h0k HU.out]; exact hJ3, hI3, hsz3⟩
            case measure => simp [intOf]; omega
          · gi_wp2
            refine bodyPost_ret (results_none rfl _ _ _) rfl ?_
            exact ⟨⟨_, rfl⟩, .inr ⟨_, by rw [← kidsTo_yes hx hok h0k HU.out]; exact (kidsTo_prefix (ns.length - (k + 1))).trans (by rw [show k + 1 + (ns.length - (k + 1)) = ns.length by omega]; exact List.prefix_rfl), hJx3⟩⟩
        · have hub : (x.u == node) = false := by simpa using hu
          have HU := Lib.hid hu
          clear hu
          gi_wp2
          refine ⟨fun _ h => (by cases h), ?_⟩
          gi_wp2
          go_roundw
          case rel => exact ⟨k + 1, by omega, by go_num, by rw [kidsTo_no hx (fun hh => HU.out hh.2)]; exact hJa, hIa, by simp; omega⟩
          case measure => simp [intOf]; omega
      · have hk0 : k ≤ 0 := by omega
        gi_wp2
        refine ⟨fun _ h => (by cases h), ?_⟩
        gi_wp2
        go_roundw
        case rel => exact ⟨k + 1, by omega, by go_num, by rw [kidsTo_no hx (fun hh => h0k hh.1)]; exact hJa, hIa, by simp; omega⟩
        case measure => simp [intOf]; omega
    · obtain rfl : k = ns.length := by omega
      gi_wp2
      go_end0
      exact ⟨⟨_, rfl⟩, .inl ⟨_, rfl, hJk⟩⟩

abbrev encKX (m : Nat) (x : KX m) : Array Value := #[.int .i64 x.1.1, .agg #[.int .i64 x.1.2.u, .int .i64 x.1.2.w, .int .i64 x.1.2.f]]

theorem below_stops (n B bc bn c : Nat) (hn1 : 1 ≤ n) (A : Option Addr) (ns : List Node) (node : Int) (hv : ∀ i x, ns[i]? = some x → OKp ns.length (i, x)) (Kp : World → World → Prop)
    (hKp : ∀ W W', IterAt W B bc bn A c ns node → Kp W W' → IterAt W' B bc bn A c ns node ∧ W.heap.size ≤ W'.heap.size) (w : World) (hI : IterAt w B bc bn A c ns node) :
    SeqStopsK Fence.wide n Try.prog 204 #[.pointer (some ⟨bc, 0, none⟩), .pointer (some ⟨bn, 0, none⟩)] (encKX ns.length) Kp (fun ys => ys = kidsTo ns.length ns node ns.length) (fun pre => pre <+: kidsTo ns.length ns node ns.length) ns.length w :=
  fun l J Jx W hW hJ _ hY h0 => below1_in n l B bc bn c hn1 A ns node hv Kp hKp J Jx W (fun s W1 o _ hs => hJ s W1 _ none hs (World.grownBy_alloc W1 o none) (fun r e => by cases e)) hY (hI.below hW) h0

theorem below_in (F : Fence) (n c N : Nat) (h93 : F.fn 185) (hro : F.round = none) (A : Option Addr) (node : Int) (w : World) :
    CallsIn F n Try.prog 185 #[.agg #[.slice A N c], .int .i64 node] w fun e w' => e = .returned (.func (.func 204) #[] #[.pointer (some ⟨w.heap.size, 0, none⟩), .pointer (some ⟨w.heap.size + 1, 0, none⟩)]) ∧
      w' = (w.alloc (.cells #[.slice A N c] 155)).alloc (.cells #[.int .i64 node] 3) := by
  refine callsIn_of_wp Try.func185 rfl h93 ?_ hro
  simp only [Try.ntmps185, List.size_toArray, List.length_cons, List.length_nil, Nat.reduceAdd, Nat.reduceSub, Array.replicate_succ, Array.replicate_zero, List.push_toArray, List.append_toArray, List.nil_append, List.cons_append]
  gi_wp2
  go_ret
  exact ⟨rfl, rfl⟩

theorem snoc_ind {α : Type} {P : List α → Prop} (h0 : P []) (h1 : ∀ l x, P l → P (l ++ [x])) (l : List α) : P l := by
  suffices h : ∀ l : List α, P l.reverse by simpa using h l.reverse
  intro l
  induction l with
  | nil => simpa using h0
  | cons x l ih => rw [List.reverse_cons]; exact h1 _ _ ih

def sumK {m : Nat} (l : List (KX m)) : Int := l.foldl (fun s x => s + x.1.2.w) 0
theorem sumK_snoc {m : Nat} (pre : List (KX m)) (x : KX m) : sumK (pre ++ [x]) = sumK pre + x.1.2.w := by simp [sumK]
theorem sumK_bd {m : Nat} (pre : List (KX m)) : 0 ≤ sumK pre ∧ sumK pre ≤ 9 * pre.length := by
  refine snoc_ind (P := fun pre : List (KX m) => 0 ≤ sumK pre ∧ sumK pre ≤ 9 * pre.length) (by simp [sumK]) (fun pre x ih => ?_) pre
  have := x.2
  unfold OKp at this
  rw [sumK_snoc]
  simp
  omega

/-- What a function keeps that makes memory of its own: 'Fresh' of the box of a loop's variable: the box's number, and what it holds. -/
def XBox {m : Nat} (W : World) (bx : Nat) (x : KX m) : Prop := W.heap[bx]? = some (.cells #[.int .i64 x.1.2.u, .int .i64 x.1.2.w, .int .i64 x.1.2.f] 158 (0, 0))
theorem XBox.new {m : Nat} (W : World) (x : KX m) : XBox (W.alloc (.cells #[.int .i64 x.1.2.u, .int .i64 x.1.2.w, .int .i64 x.1.2.f] 158)) W.heap.size x := World.alloc_heap_new W _
theorem XBox.cells {m : Nat} {W : World} {bx : Nat} {x : KX m} (h : XBox W bx x) : W.cell? ⟨bx, 0, none⟩ = some (.int .i64 x.1.2.u) ∧ W.cell? ⟨bx, 1, none⟩ = some (.int .i64 x.1.2.w) ∧ W.cell? ⟨bx, 2, none⟩ = some (.int .i64 x.1.2.f) := by
  simp [World.cell?, show W.heap[bx]? = _ from h]
theorem xbox_own {m : Nat} (bx : Nat) (x : KX m) : Own (fun (_ : Unit) W => XBox W bx x) := fun s X Y row hs hg hrow =>
  (hg.block bx (Array.getElem?_eq_some_iff.1 (show X.heap[bx]? = _ from hs)).1 (fun e' => by obtain ⟨o, ho, hc⟩ := hrow bx e'.symm; rw [show X.heap[bx]? = _ from hs] at ho; cases ho; cases hc)).trans hs

theorem ownFrom_size {β : Type} {B n : Nat} : OwnFrom B (fun (_ : β) W => n ≤ W.heap.size) := fun _ _ _ _ hs hg _ => Nat.le_trans hs hg.size

/-- The activation in a round: the pair's number and the pair, the number's own slot, the slot of the variable's box. -/
def actKX {m : Nat} (a : Act) (p1 p2 i j : Nat) (x : KX m) (bx : Nat) : Act :=
  { tmps := (((a.tmps.setIfInBounds p1 (.int .i64 x.1.1)).setIfInBounds p2 (.agg #[.int .i64 x.1.2.u, .int .i64 x.1.2.w, .int .i64 x.1.2.f])).setIfInBounds i (.int .i64 x.1.1)).setIfInBounds j (.pointer (some ⟨bx, 0, none⟩)), defers := [] }

/-- How a round of ours ends: it goes on. -/
def kxPost {m : Nat} (S : Nat → Prop) (n₀ : Nat) (I : List (KX m) → World → Prop) (xs : List (KX m)) (W : World) : Exit → Act → World → Prop
  | .normal, _, W' => KeepsFrom n₀ W W' ∧ KpB S n₀ W W' ∧ I xs W'
  | _, _, _ => False

/-- What stands behind the assignment to the loop's variables, where the pair has a box; where the number alone is taken. -/
def AxBox {m : Nat} (a : Act) (p1 p2 i j n₀ : Nat) (x : KX m) (a' : Act) (W : World) : Prop := ∃ bx, n₀ ≤ bx ∧ XBox W bx x ∧ a' = actKX a p1 p2 i j x bx
def actN {m : Nat} (a : Act) (p1 p2 i : Nat) (x : KX m) : Act := { tmps := ((a.tmps.setIfInBounds p1 (.int .i64 x.1.1)).setIfInBounds p2 (.agg #[.int .i64 x.1.2.u, .int .i64 x.1.2.w, .int .i64 x.1.2.f])).setIfInBounds i (.int .i64 x.1.1), defers := [] }
theorem axBox_own {m : Nat} (a : Act) (p1 p2 i j n₀ B : Nat) (x : KX m) (a' : Act) : OwnFrom B (fun (_ : Unit) W => AxBox a p1 p2 i j n₀ x a' W) := fun _ X Y row hs hg hr => by
  obtain ⟨bx, h1, h2, h3⟩ := hs
  exact ⟨bx, h1, xbox_own bx x () X Y row h2 hg (fun r e => (hr r e).2), h3⟩

theorem zip2 {m : Nat} (p1 p2 : Nat) (x : KX m) (t : Array Value) : (#[p1, p2].zip (encKX m x)).foldl (fun t (p, v) => t.setIfInBounds p v) t = (t.setIfInBounds p1 (.int .i64 x.1.1)).setIfInBounds p2 (.agg #[.int .i64 x.1.2.u, .int .i64 x.1.2.w, .int .i64 x.1.2.f]) := by
  simp [encKX]

theorem range_kids {g : Operand} {assign body : Code} {Q : Exit → Act → World → Prop} {a : Act} {w : World} (p1 p2 : Nat) (S : Nat → Prop) (B bc bn c : Nat) (A : Option Addr) (ns : List Node) (node : Int)
    (hv : ∀ i x, ns[i]? = some x → OKp ns.length (i, x)) (hg : a.eval g = .func (.func 204) #[] #[.pointer (some ⟨bc, 0, none⟩), .pointer (some ⟨bn, 0, none⟩)]) (hIt : IterAt w B bc bn A c ns node)
    (hbc : ¬ S bc) (hbn : ¬ S bn) (hS : ∀ k, S k → B ≤ k) (I : List (KX ns.length) → World → Prop) (hI : OwnFrom w.heap.size I) (h0 : I [] w)
    (Ax : Act → KX ns.length → Act → World → Prop) (hAx : ∀ x a', OwnFrom w.heap.size (fun (_ : Unit) W => Ax a x a' W))
    (hassign : ∀ (l : Nat) (x : KX ns.length) (W : World) (K : Act → World → Prop), w.heap.size ≤ W.heap.size → (∀ a' W', W'= W ∨ (∃ o, W' = W.alloc o) → Ax a x a' W' → K a' W') →
      assign.wpIn (Fence.wide.inRound l) 8 Try.prog (Exit.then K (fun _ _ _ => False)) { tmps := (a.tmps.setIfInBounds p1 (.int .i64 x.1.1)).setIfInBounds p2 (.agg #[.int .i64 x.1.2.u, .int .i64 x.1.2.w, .int .i64 x.1.2.f]), defers := [] } W)
    (hbody : ∀ (l : Nat) (pre : List (KX ns.length)) (x : KX ns.length) (a' : Act) (W : World), w.heap.size ≤ W.heap.size → OKp ns.length x.1 → I pre W → Ax a x a' W → pre.length < ns.length →
      body.wpIn (Fence.wide.inRound l) 8 Try.prog (kxPost S w.heap.size I (pre ++ [x]) W) a' W)
    (hdone : ∀ (D : Nat) (W : World), w.heap.size ≤ D → D < W.heap.size → I (kidsTo ns.length ns node ns.length) W → W.heap[D]? = some (.deferred (some [])) → Q .normal { a with defers := { target := .collected D, args := #[] } :: a.defers } W) :
    (Code.rangeFunc g #[p1, p2] assign body).wpIn Fence.wide 10 Try.prog Q a w := by
  refine wpIn_rangeFunc_ownH rfl (by omega) (gf := 204) (lb := #[.pointer (some ⟨bc, 0, none⟩), .pointer (some ⟨bn, 0, none⟩)]) hg trivial (enters_of Try.func204 (by kernel_rfl) rfl)
    (Kp := KpB S w.heap.size) (below_stops 9 B bc bn c (by omega) A ns node hv _ (fun W W' => IterAt.kp ⟨hIt.2.2.1, hbc⟩ ⟨hIt.2.2.2.1, hbn⟩ hIt.2.2.2.2.1 hS) w hIt) kpB_t (kpB_b (Nat.le_refl _)) (Below.refl _ _) (fun _ => rfl)
    (fun pre W => I pre W ∧ w.heap.size ≤ W.heap.size) (fun _ _ _ => False) (OwnFrom.and hI ownFrom_size) (fun _ _ _ _ _ hs _ _ => hs) ⟨h0, Nat.le_refl _⟩ (Ax a) hAx
    ?assign ?body ?done ?stop
  case assign =>
    rintro l pre x W K ⟨hi, hs⟩ hK
    rw [zip2]
    refine hassign l x W K hs fun a' W' hW hA => ?_
    rcases hW with rfl | ⟨o, rfl⟩
    · exact hK _ _ (KeepsFrom.refl _ _) (KpB.refl _ _ _) ⟨hi, hs⟩ hA
    · exact hK _ _ ((KeepsOthers.alloc _ _).from _) ((KpB.refl _ _ W).alloc _ hs) ⟨hI.alloc _ hi, by simp; omega⟩ hA
  case body =>
    rintro l pre x a' W _ _ ⟨hi, hs⟩ hA hlt
    refine wpIn_mono (hbody l pre x a' W hs x.2 hi hA hlt) ?_
    intro e a3 W3 hp
    cases e <;> simp only [kxPost] at hp
    exact ⟨hp.1, hp.2.1, hp.2.2, Nat.le_trans hs hp.1.size⟩
  case done =>
    rintro D zs W hD rfl ⟨hi, hs⟩ hK
    exact hdone D W hD (Array.getElem?_eq_some_iff.1 hK).1 hi hK
  case stop =>
    rintro D c pre W _ _ h _
    exact h.elim

set_option maxRecDepth 100000 in
set_option maxHeartbeats 4000000 in
theorem weights_any (B c : Nat) (A : Option Addr) (ns : List Node) (node : Int) (hv : ∀ i x, ns[i]? = some x → OKp ns.length (i, x)) (hl : ns.length ≤ 8) (w : World) (hB : B ≤ w.heap.size) (hN : Nodes w B A ns) :
    Calls Try.prog 152 #[.agg #[.slice A ns.length c], .int .i64 node] w fun e w' => e = .returned (.int .i64 (sumK (kidsTo ns.length ns node ns.length))) ∧ Below w.heap.size w w' := by
  refine (callsIn_wide (n := 10)).1 ?_
  refine callsIn_of_wp_marks Try.func152 rfl trivial ?_ rfl
  simp only [Try.ntmps152, List.size_toArray, List.length_cons, List.length_nil, Nat.reduceAdd, Nat.reduceSub, Array.replicate_succ, Array.replicate_zero, List.push_toArray, List.append_toArray, List.nil_append, List.cons_append]
  gi_wp2_with (refine ⟨trivial, ?_⟩; gi_at_call 185; refine (below_in Fence.wide _ _ _ trivial rfl _ _ _).mono ?_; rintro e w' ⟨rfl, rfl⟩)
  have bS := ((Boxed.new (w.alloc (.cells #[.slice A ns.length c] 155)) 3 (.int .i64 0)).alloc (.cells #[.slice A ns.length c] 155)).alloc (.cells #[.int .i64 node] 3)
  have bC := (Boxed.new ((w.alloc (.cells #[.slice A ns.length c] 155)).alloc (.cells #[.int .i64 0] 3)) 155 (.slice A ns.length c)).alloc (.cells #[.int .i64 node] 3)
  have bN := Boxed.new (((w.alloc (.cells #[.slice A ns.length c] 155)).alloc (.cells #[.int .i64 0] 3)).alloc (.cells #[.slice A ns.length c] 155)) 3 (.int .i64 node)
  have hB0 : Below w.heap.size w ((((w.alloc (.cells #[.slice A ns.length c] 155)).alloc (.cells #[.int .i64 0] 3)).alloc (.cells #[.slice A ns.length c] 155)).alloc (.cells #[.int .i64 node] 3)) := ((((Below.refl _ w).alloc (Nat.le_refl _) _).alloc (by simp) _).alloc (by simp; omega) _).alloc (by simp; omega) _
  have hsz : ((((w.alloc (.cells #[.slice A ns.length c] 155)).alloc (.cells #[.int .i64 0] 3)).alloc (.cells #[.slice A ns.length c] 155)).alloc (.cells #[.int .i64 node] 3)).heap.size = w.heap.size + 4 := by simp
  simp only [World.size_alloc] at bS bC bN
  obtain ⟨W0, hW0⟩ : ∃ W0, ((((w.alloc (.cells #[.slice A ns.length c] 155)).alloc (.cells #[.int .i64 0] 3)).alloc (.cells #[.slice A ns.length c] 155)).alloc (.cells #[.int .i64 node] 3)) = W0 := ⟨_, rfl⟩
  rw [hW0] at bS bC bN hB0 hsz ⊢
  clear hW0
  have hIt : IterAt W0 B (w.heap.size + 1 + 1) (w.heap.size + 1 + 1 + 1) A c ns node := ⟨bC.cell, bN.cell, by omega, by omega, by omega, hN.below (hB0.mono hB)⟩
  refine range_kids 11 12 (fun k => k = w.heap.size + 1) B _ _ c A ns node hv rfl hIt (by omega) (by omega) (fun k hk => by omega)
    (fun pre W => Boxed W (w.heap.size + 1) 3 (.int .i64 (sumK pre)) ∧ Below w.heap.size w W)
    (OwnFrom.and (Own.from (boxed_own _ _ _) _) (ownFrom_below (Nat.le_refl _) (by omega))) ⟨bS, hB0⟩ (fun a => AxBox a 11 12 11 7 W0.heap.size) (fun _ _ => axBox_own _ _ _ _ _ _ _ _ _) ?assign ?body ?done
  case assign =>
    intro l x W K hs hK
    have h := hK _ _ (.inr ⟨_, rfl⟩) ⟨W.heap.size, hs, XBox.new W x, rfl⟩
    simp only [actKX, List.setIfInBounds_toArray, List.set_cons_zero, List.set_cons_succ] at h ⊢
    gi_wp2
    exact h
  case body =>
    rintro l pre x a' W hS1 hxo ⟨bS1, hB1⟩ ⟨bx, hbx, hX, rfl⟩ hlt
    have cS := bS1.cell
    have fS := bS1.frozen
    obtain ⟨x1, x2, x3⟩ := hX.cells
    have hs := sumK_bd pre
    unfold OKp at hxo
    simp only [actKX, List.setIfInBounds_toArray, List.set_cons_zero, List.set_cons_succ]
    gi_wp2
    exact ⟨(KeepsOthers.setCell _ _ _).from _, (KpB.refl _ _ W).set 0 _ (.inl rfl), by rw [sumK_snoc]; exact bS1.set _, hB1.setCell (p := ⟨w.heap.size + 1, 0, none⟩) (by simp) _⟩
  case done =>
    rintro D W hD hD2 ⟨bS1, hB1⟩ hK
    have cS := bS1.cell
    gi_wp2
    refine ⟨by simp, .inl ⟨_, _, rfl, run_takeDeferred hK, ?_⟩⟩
    exact ⟨_, results_tmp rfl _ _ _, rfl, hB1.trans (belowK_b (w := w) (Nat.le_refl _) W D _ _ (by omega) hK rfl rfl)⟩
end Go.Proofs.Ytmbcpmnigggbaaa.Sh
