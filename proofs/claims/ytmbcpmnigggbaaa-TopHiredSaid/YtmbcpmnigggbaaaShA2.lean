import Derived.Maps.OwnIn
import Derived.Maps.Views
import Derived.Test.YtmbcpmnigggbaaaShA1
namespace Go.Proofs.Ytmbcpmnigggbaaa.Sh
open Go.RowKit Go.Shelf

attribute [local go_sem] Oper.semAt_some

/-- A map from numbers to numbers of the call's own, by the function that it is (0 where nothing is). -/
def OwnM (W : World) (b n : Nat) (g : Int → Int) : Prop :=
  ∃ D : DataW Unit, W.ownsMap Try.prog 3 (plainElem Try.prog 3) b n D ∧ Maps.IsMap D ∧ ∀ k : Int, 0 ≤ k → k ≤ 1000 → D.atKey (.int .i64 k) (.lit (.int .i64 0)) = .lit (.int .i64 (g k))
def upd (g : Int → Int) (k v : Int) : Int → Int := fun i => if i = k then v else g i
theorem OwnM.grown {W W' : World} {b n : Nat} {g : Int → Int} {row : Option Nat} (h : OwnM W b n g) (hg : W.grownBy W' row) (hr : some b ≠ row) : OwnM W' b n g := by
  obtain ⟨D, h1, h2, h3⟩ := h
  exact ⟨D, h1.kept hg hr, h2, h3⟩
theorem OwnM.made (w : World) : OwnM (w.alloc (.map #[] 0)) w.heap.size 0 (fun _ => 0) :=
  ⟨.map [], World.ownsMap_made w _ _ _, Maps.isMap_empty, fun _ _ _ => rfl⟩
theorem OwnM.lt {W : World} {b n : Nat} {g : Int → Int} (h : OwnM W b n g) : b < W.heap.size := by obtain ⟨D, h1, _⟩ := h; exact h1.lt
theorem wf_small {k : Int} (h0 : 0 ≤ k) (h1 : k ≤ 1000) : (Lit.int .i64 k).wf = true := WalkArith.wf_i64 (by omega)

section
variable {F : Fence} {nF : Nat} {W : World} {ops : Array Oper} {rest : List Oper} {o : Oper} {a : Act} {Q : Exit → Act → World → Prop}
theorem look_in (hg : o.guard = none) (m x : Operand) (hop : o.op = Op.lookup 202 m x false) (b n : Nat) (g : Int → Int) (k : Int) (hm : a.eval m = .map (some b)) (h : OwnM W b n g) (hx : a.eval x = .int .i64 k) (h0 : 0 ≤ k) (h1 : k ≤ 1000) (v : Int) (hgv : g k = v)
    (hK : wpListIn F nF Try.prog ops Q rest (a.put o.dst (.int .i64 v)) W) : wpListIn F nF Try.prog ops Q (o :: rest) a W := by
  obtain ⟨D, hown, hD, hat⟩ := h
  refine wpListIn_lookup_own_int W hg m x 202 hop 3 3 .i64 (Maps.int_keyed Try.underlying3) Try.underlying202 Try.underlying3 (Try.zeroValue3 _) b n D hm hown _ _ hx (Maps.keyOf_int_mk Try.underlying3 (wf_small h0 h1)) ?_
  intro c hc _
  have e : c = g k := by
    have := hc.symm.trans (hat k h0 h1)
    injection this with this
    injection this
  rw [e, hgv]
  exact hK
theorem upd_in (hg : o.guard = none) (m x v : Operand) (hop : o.op = Op.mapUpdate 202 m x v) (b n : Nat) (g : Int → Int) (k u : Int) (hm : a.eval m = .map (some b)) (h : OwnM W b n g) (hn : n < 1000000) (hx : a.eval x = .int .i64 k) (hv : a.eval v = .int .i64 u) (h0 : 0 ≤ k) (h1 : k ≤ 1000)
    (hu : (Lit.int .i64 u).wf = true) (hK : ∀ W', OwnM W' b (n + 1) (upd g k u) → W.grownBy W' (some b) → wpListIn F nF Try.prog ops Q rest (a.put o.dst undef) W') : wpListIn F nF Try.prog ops Q (o :: rest) a W := by
  obtain ⟨D, hown, hD, hat⟩ := h
  refine wpListIn_mapUpdate_own W hg m x v 202 hop 3 3 (Maps.int_keyed Try.underlying3) Try.underlying202 _ b n D hm hown (by unfold maxLen; omega) _ _ _ hx hv (Maps.keyOf_int_mk Try.underlying3 (wf_small h0 h1)) _ [] (plainElem_int Try.underlying3 hu) ?_
  intro w' hw hgr
  refine hK w' ⟨_, hw, hD.put _ _, fun i hi0 hi1 => ?_⟩ hgr
  unfold upd
  by_cases e : i = k
  · subst e
    rw [if_pos rfl]
    exact Maps.atKey_put_same hD (by trivial) _ _
  · rw [if_neg e, Maps.atKey_put_other (fun h => e (by injection h))]
    exact hat i hi0 hi1
end

/-- split's own memory: its custom, the closure, the map and its variable, the rest. -/
structure SpSt (s : Nat) (A : Option Addr) (N c : Nat) (gv : Value) (cnt : Nat) (g : Int → Int) (rest : Int) (W : World) : Prop where
  b0 : Boxed W s 155 (.slice A N c)
  b1 : Boxed W (s + 1) 206 gv
  m : OwnM W (s + 1 + 1) cnt g
  b3 : Boxed W (s + 1 + 1 + 1) 202 (.map (some (s + 1 + 1)))
  b4 : Boxed W (s + 1 + 1 + 1 + 1) 3 (.int .i64 rest)
section
variable {s : Nat} {A : Option Addr} {N c : Nat} {gv : Value} {cnt : Nat} {g : Int → Int} {rest : Int} {W W' : World}
theorem SpSt.grown {row : Option Nat} (h : SpSt s A N c gv cnt g rest W) (hg : W.grownBy W' row) (hr : ∀ r, row = some r → s + 5 ≤ r) : SpSt s A N c gv cnt g rest W' := by
  have hne : ∀ k, k < s + 5 → some k ≠ row := fun k hk e => by have := hr k e.symm; omega
  exact ⟨h.b0.kept hg (hne _ (by omega)), h.b1.kept hg (hne _ (by omega)), h.m.grown hg (hne _ (by omega)), h.b3.kept hg (hne _ (by omega)), h.b4.kept hg (hne _ (by omega))⟩
theorem SpSt.alloc (h : SpSt s A N c gv cnt g rest W) (o : Obj) : SpSt s A N c gv cnt g rest (W.alloc o) := h.grown (World.grownBy_alloc W o none) (fun r e => by cases e)
theorem SpSt.map (h : SpSt s A N c gv cnt g rest W) {cnt' : Nat} {g' : Int → Int} (hg : W.grownBy W' (some (s + 1 + 1))) (hm : OwnM W' (s + 1 + 1) cnt' g') : SpSt s A N c gv cnt' g' rest W' :=
  ⟨h.b0.kept hg (by intro e; injection e; omega), h.b1.kept hg (by intro e; injection e; omega), hm, h.b3.kept hg (by intro e; injection e; omega), h.b4.kept hg (by intro e; injection e; omega)⟩
theorem SpSt.setRest (h : SpSt s A N c gv cnt g rest W) (r' : Int) : SpSt s A N c gv cnt g r' (W.setCell ⟨s + 1 + 1 + 1 + 1, 0, none⟩ (.int .i64 r')) :=
  ⟨h.b0.other (by omega) _, h.b1.other (by omega) _, h.m.grown (grownBy_setCell' _ _ _) (by intro e; injection e; omega), h.b3.other (by omega) _, h.b4.set _⟩
theorem SpSt.below (h : SpSt s A N c gv cnt g rest W) (hb : Below W.heap.size W W') : SpSt s A N c gv cnt g rest W' := by
  have k : ∀ (b : Nat) (t : TypeId) (v : Value), Boxed W b t v → Boxed W' b t v := fun b t v hv => (hb.block b hv.lt).trans hv
  have hm := h.m.lt
  exact ⟨k _ _ _ h.b0, k _ _ _ h.b1, h.m.grown (row := none) ⟨hb.os, hb.tape, hb.output, hb.size, fun i hi _ => hb.block i hi⟩ (by simp), k _ _ _ h.b3, k _ _ _ h.b4⟩
theorem spst_own {β : Type} {B : Nat} (hB : s + 5 ≤ B) (cnt : β → Nat) (g : β → Int → Int) (rest : β → Int) : OwnFrom B (fun x W => SpSt s A N c gv (cnt x) (g x) (rest x) W) :=
  fun _ _ _ _ hs hg hr => hs.grown hg (fun r e => by have := (hr r e).1; omega)
end

theorem upd_same (g : Int → Int) (k v : Int) : upd g k v k = v := by simp [upd]
/-- The lesser one, as the walk has it. -/
def gmin (a b : Int) : Int := if b < a then b else a
theorem gmin_lt {a b : Int} (h : b < a) : gmin a b = b := if_pos h
theorem gmin_ge {a b : Int} (h : ¬ b < a) : gmin a b = a := if_neg h
/-- The first loop: each gets its Fixed, or what is left. -/
def stF {m : Nat} (p : (Int → Int) × Int) (x : KX m) : (Int → Int) × Int := (upd p.1 x.1.1 (gmin x.1.2.f p.2), p.2 - gmin x.1.2.f p.2)
def fold1 {m : Nat} (pence : Int) (l : List (KX m)) : (Int → Int) × Int := l.foldl stF (fun _ => 0, pence)
theorem fold1_snoc {m : Nat} (pence : Int) (l : List (KX m)) (x : KX m) : fold1 pence (l ++ [x]) = stF (fold1 pence l) x := by simp [fold1]
theorem fold1_bd {m : Nat} (pence : Int) (hp : 0 ≤ pence) (l : List (KX m)) : 0 ≤ (fold1 pence l).2 ∧ (fold1 pence l).2 ≤ pence ∧ ∀ k, 0 ≤ (fold1 pence l).1 k ∧ (fold1 pence l).1 k ≤ 20 := by
  refine snoc_ind (P := fun l : List (KX m) => 0 ≤ (fold1 pence l).2 ∧ (fold1 pence l).2 ≤ pence ∧ ∀ k, 0 ≤ (fold1 pence l).1 k ∧ (fold1 pence l).1 k ≤ 20) ⟨hp, Int.le_refl _, fun _ => by simp [fold1]⟩ (fun l x ih => ?_) l
  have hx := x.2
  unfold OKp at hx
  obtain ⟨h1, h2, h3⟩ := ih
  rw [fold1_snoc]
  unfold stF
  have hg : 0 ≤ gmin x.1.2.f (fold1 pence l).2 ∧ gmin x.1.2.f (fold1 pence l).2 ≤ 20 ∧ gmin x.1.2.f (fold1 pence l).2 ≤ (fold1 pence l).2 := by unfold gmin; split <;> omega
  refine ⟨by simp only; omega, by simp only; omega, fun k => ?_⟩
  simp only [upd]
  split
  · omega
  · exact h3 k

/-- The second loop: the rest by the Weights. -/
def stG {m : Nat} (R sm : Int) (p : (Int → Int) × Int) (x : KX m) : (Int → Int) × Int := (upd p.1 x.1.1 (p.1 x.1.1 + R * x.1.2.w / sm), p.2 - R * x.1.2.w / sm)
def fold2 {m : Nat} (g : Int → Int) (R sm : Int) (l : List (KX m)) : (Int → Int) × Int := l.foldl (stG R sm) (g, R)
theorem fold2_snoc {m : Nat} (g : Int → Int) (R sm : Int) (l : List (KX m)) (x : KX m) : fold2 g R sm (l ++ [x]) = stG R sm (fold2 g R sm l) x := by simp [fold2]
theorem quo_bd {m : Nat} {R sm : Int} (h0 : 0 ≤ R) (h1 : R ≤ 400) (hs : 0 < sm) {x : KX m} (hx : OKp m x.1) : 0 ≤ R * x.1.2.w ∧ R * x.1.2.w ≤ 3600 ∧ 0 ≤ R * x.1.2.w / sm ∧ R * x.1.2.w / sm ≤ 3600 := by
  unfold OKp at hx
  have a : 0 ≤ R * x.1.2.w := Int.mul_nonneg h0 (by omega)
  have b : R * x.1.2.w ≤ 400 * 9 := Int.mul_le_mul h1 (by omega) (by omega) (by omega)
  refine ⟨a, by omega, Int.ediv_nonneg a (by omega), ?_⟩
  exact Int.le_trans (Int.ediv_le_self _ a) (by omega)
theorem fold2_bd {m : Nat} {g : Int → Int} {R sm : Int} (hg : ∀ k, 0 ≤ g k ∧ g k ≤ 20) (h0 : 0 ≤ R) (h1 : R ≤ 400) (hs : 0 < sm) (l : List (KX m)) :
    -(3600 * l.length) ≤ (fold2 g R sm l).2 ∧ (fold2 g R sm l).2 ≤ 400 ∧ ∀ k, 0 ≤ (fold2 g R sm l).1 k ∧ (fold2 g R sm l).1 k ≤ 20 + 3600 * l.length := by
  refine snoc_ind (P := fun l : List (KX m) => -(3600 * l.length : Int) ≤ (fold2 g R sm l).2 ∧ (fold2 g R sm l).2 ≤ 400 ∧ ∀ k, 0 ≤ (fold2 g R sm l).1 k ∧ (fold2 g R sm l).1 k ≤ 20 + 3600 * l.length) ⟨by simp [fold2]; omega, by simpa [fold2] using h1, fun k => by simpa [fold2] using hg k⟩ (fun l x ih => ?_) l
  obtain ⟨q1, q2, q3, q4⟩ := quo_bd (sm := sm) h0 h1 hs x.2
  obtain ⟨i1, i2, i3⟩ := ih
  rw [fold2_snoc]
  unfold stG
  simp only [List.length_append, List.length_singleton]
  refine ⟨by omega, by omega, fun k => ?_⟩
  have := i3 k
  have := i3 x.1.1
  unfold upd
  split <;> omega

/-- The third loop: the pence that are left, one each. -/
def stH {m : Nat} (p : (Int → Int) × Int) (x : KX m) : (Int → Int) × Int := if 0 < x.1.2.w ∧ 0 < p.2 then (upd p.1 x.1.1 (p.1 x.1.1 + 1), p.2 - 1) else p
def fold3 {m : Nat} (p : (Int → Int) × Int) (l : List (KX m)) : (Int → Int) × Int := l.foldl stH p
theorem fold3_snoc {m : Nat} (p : (Int → Int) × Int) (l : List (KX m)) (x : KX m) : fold3 p (l ++ [x]) = stH (fold3 p l) x := by simp [fold3]
theorem fold3_bd {m : Nat} {p : (Int → Int) × Int} {lo hi top : Int} (hl : lo ≤ p.2) (hlo : lo ≤ 0) (hh : p.2 ≤ hi) (hp : ∀ k, 0 ≤ p.1 k ∧ p.1 k ≤ top) (l : List (KX m)) :
    lo ≤ (fold3 p l).2 ∧ (fold3 p l).2 ≤ hi ∧ ∀ k, 0 ≤ (fold3 p l).1 k ∧ (fold3 p l).1 k ≤ top + l.length := by
  refine snoc_ind (P := fun l : List (KX m) => lo ≤ (fold3 p l).2 ∧ (fold3 p l).2 ≤ hi ∧ ∀ k, 0 ≤ (fold3 p l).1 k ∧ (fold3 p l).1 k ≤ top + l.length) ⟨by simpa [fold3] using hl, by simpa [fold3] using hh, fun k => by simpa [fold3] using hp k⟩ (fun l x ih => ?_) l
  obtain ⟨i1, i2, i3⟩ := ih
  rw [fold3_snoc]
  unfold stH
  simp only [List.length_append, List.length_singleton]
  split
  · refine ⟨by simp only; omega, by simp only; omega, fun k => ?_⟩
    have := i3 k
    have := i3 x.1.1
    simp only [upd]
    split <;> omega
  · refine ⟨i1, i2, fun k => ?_⟩
    have := i3 k
    omega

/-- What split comes to: what each of the nodes below gets, and what the node keeps. -/
def splitF {m : Nat} (pence : Int) (l : List (KX m)) : (Int → Int) × Int :=
  if 0 < sumK l then ((fold3 (fold2 (fold1 pence l).1 (fold1 pence l).2 (sumK l) l) l).1, 0) else fold1 pence l
def gives {m : Nat} (g : Int → Int) (l : List (KX m)) : List (Nat × Int) := l.map fun x => (x.1.1, g x.1.1)

/-- The marks of the loops, taken over at the function's end. -/
def putAll : World → List Nat → World
  | W, [] => W
  | W, D :: Ds => putAll (W.putObj D (.deferred none)) Ds
theorem leaves_marks {F : Fence} {n : Nat} {P : Program} {fn : Func} {tmps : Array Value} {R : Ending → World → Prop} : ∀ (Ds : List Nat) (W : World), Ds.Pairwise (fun a b => a ≠ b) → (∀ D ∈ Ds, W.heap[D]? = some (.deferred (some []))) →
    LeavesIn F n P fn tmps R [] .returning (putAll W Ds) → LeavesInM F n P fn tmps R (Ds.map fun D => { target := .collected D, args := #[] }) .returning W
  | [], _, _, _, h => h
  | D :: Ds, W, hp, hd, h => by
    obtain ⟨h1, h2⟩ := List.pairwise_cons.1 hp
    exact ⟨by simp, .inl ⟨_, _, rfl, run_takeDeferred (hd D (by simp)), leaves_marks Ds _ h2 (fun D' hD' => (World.putObj_heap_other (fun e => h1 D' hD' (by omega))).trans (hd D' (by simp [hD']))) h⟩⟩
theorem kpB_putAll {S : Nat → Prop} {n₀ : Nat} {w : World} : ∀ (Ds : List Nat) (W : World), KpB S n₀ w W → (∀ D ∈ Ds, n₀ ≤ D) → KpB S n₀ w (putAll W Ds)
  | [], _, h, _ => h
  | D :: Ds, W, h, hd => kpB_putAll Ds _ (h.put D _ (.inr (hd D (by simp)))) (fun D' hD' => hd D' (by simp [hD']))
theorem own_putAll {β : Type} {B : Nat} {J : β → World → Prop} (hJ : OwnFrom B J) {x : β} : ∀ (Ds : List Nat) (W : World), Ds.Pairwise (fun a b => a ≠ b) → (∀ D ∈ Ds, B ≤ D ∧ W.heap[D]? = some (.deferred (some []))) → J x W → J x (putAll W Ds)
  | [], _, _, _, h => h
  | D :: Ds, W, hp, hd, h => by
    obtain ⟨h1, h2⟩ := List.pairwise_cons.1 hp
    exact own_putAll hJ Ds _ h2 (fun D' hD' => ⟨(hd D' (by simp [hD'])).1, (World.putObj_heap_other (fun e => h1 D' hD' (by omega))).trans (hd D' (by simp [hD'])).2⟩) (hJ.putObj _ h (hd D (by simp)).1 (hd D (by simp)).2 rfl)
theorem block_own {β : Type} {B D : Nat} {o : Obj} (h : D < B) : OwnFrom B (fun (_ : β) W => W.heap[D]? = some o) := fun _ X _ row hs hg hr =>
  (hg.block D (Array.getElem?_eq_some_iff.1 hs).1 (fun e => by have := (hr D e.symm).1; omega)).trans hs
theorem boxed_ownFrom {β : Type} {B b : Nat} {t : TypeId} (f : β → Value) : OwnFrom B (fun x W => Boxed W b t (f x)) := Own.from (boxed_own _ _ _) _

theorem iterAt_two {B c : Nat} {A : Option Addr} {ns : List Node} {node : Int} {W : World} (hB : B ≤ W.heap.size) (hN : Nodes W B A ns) :
    IterAt ((W.alloc (.cells #[.slice A ns.length c] 155)).alloc (.cells #[.int .i64 node] 3)) B W.heap.size (W.heap.size + 1) A c ns node := by
  have d0 := (Boxed.new W 155 (.slice A ns.length c)).alloc (.cells #[.int .i64 node] 3)
  have d1 := Boxed.new (W.alloc (.cells #[.slice A ns.length c] 155)) 3 (.int .i64 node)
  simp only [World.size_alloc] at d1
  exact ⟨d0.cell, d1.cell, by simp; omega, by simp, by simp; omega, hN.below (((Below.refl _ W).alloc (by omega) _).alloc (by simp; omega) _)⟩
theorem keepsFrom_more {B B' : Nat} {W W' : World} (h : KeepsFrom B W W') (hB : B ≤ B') : KeepsFrom B' W W' := ⟨h.size, fun k o hk => h.same k o (by omega)⟩
theorem SpSt.more {s : Nat} {A : Option Addr} {N c : Nat} {gv : Value} {cnt cnt' : Nat} {g : Int → Int} {rest : Int} {W : World} (h : SpSt s A N c gv cnt g rest W) (hc : cnt ≤ cnt') : SpSt s A N c gv cnt' g rest W := by
  obtain ⟨D, m1, m2⟩ := h.m
  exact ⟨h.b0, h.b1, ⟨D, m1.mono hc, m2⟩, h.b3, h.b4⟩
theorem kpB_mapset {s n₀ : Nat} {W W2 : World} (hg2 : W.grownBy W2 (some (s + 1 + 1))) (hn : n₀ ≤ W.heap.size) (v : Value) : KpB (fun k => k = s + 1 + 1 ∨ k = s + 1 + 1 + 1 + 1) n₀ W (W2.setCell ⟨s + 1 + 1 + 1 + 1, 0, none⟩ v) :=
  ((KpB.refl _ _ W).grown hg2 hn (fun k e => .inl (.inl (by cases e; rfl)))).set 0 _ (.inl (.inr rfl))
theorem SpSt.kp {s : Nat} {A : Option Addr} {N c : Nat} {gv : Value} {cnt : Nat} {g : Int → Int} {rest : Int} {W W' : World} {S : Nat → Prop} {n₀ : Nat} (h : SpSt s A N c gv cnt g rest W) (hk : KpB S n₀ W W') (hS : ∀ k, S k → k < s) (hn : s + 5 ≤ n₀) : SpSt s A N c gv cnt g rest W' := by
  have hb : ∀ k, s ≤ k → k < s + 5 → W'.heap[k]? = W.heap[k]? := fun k h1 h2 => hk.block k (by omega) (fun h => by have := hS k h; omega)
  obtain ⟨D, ⟨es, ck, m1, m2⟩, m3⟩ := h.m
  exact ⟨(hb _ (by omega) (by omega)).trans h.b0, (hb _ (by omega) (by omega)).trans h.b1, ⟨D, ⟨es, ck, (hb _ (by omega) (by omega)).trans m1, m2⟩, m3⟩, (hb _ (by omega) (by omega)).trans h.b3, (hb _ (by omega) (by omega)).trans h.b4⟩

set_option maxRecDepth 100000 in
set_option maxHeartbeats 4000000 in
theorem split_any (B c gf pb : Nat) (A : Option Addr) (ns : List Node) (node pence : Int) (hp0 : 0 ≤ pence) (hp1 : pence ≤ 400) (hv : ∀ i x, ns[i]? = some x → OKp ns.length (i, x)) (hl : ns.length ≤ 8) (w : World) (hB : B ≤ w.heap.size) (hN : Nodes w B A ns)
    (eg : ∀ args w, (callFunc gf args).run Try.prog w = .ok (.enter gf args) w) (S : Nat → Prop) (hS : ∀ k, S k → B ≤ k ∧ k < w.heap.size) (J : Nat → List (Nat × Int) → World → Prop)
    (hJ0 : ∀ W, Below w.heap.size w W → J W.heap.size [] W) (hJown : ∀ n₀, OwnFrom (w.heap.size + 5) (J n₀))
    (hgive : ∀ n₀ pre (k : Nat) (v : Int) W, w.heap.size + 5 ≤ n₀ → n₀ ≤ W.heap.size → k < ns.length → 0 ≤ v → v ≤ 1000000 → J n₀ pre W → pre.length < 8 →
      Calls Try.prog gf #[.int .i64 k, .int .i64 v, .pointer (some ⟨pb, 0, none⟩)] W fun e W' => (∃ u, e = .returned u) ∧ J n₀ (pre ++ [(k, v)]) W' ∧ KeepsFrom (w.heap.size + 5) W W' ∧ KpB S n₀ W W') :
    Calls Try.prog 164 #[.agg #[.slice A ns.length c], .int .i64 node, .int .i64 pence, (.func (.func gf) #[] #[.pointer (some ⟨pb, 0, none⟩)])] w fun e w' => e = .returned (.int .i64 (splitF pence (kidsTo ns.length ns node ns.length)).2) ∧ (∃ n₀, w.heap.size + 5 ≤ n₀ ∧ J n₀ (gives (splitF pence (kidsTo ns.length ns node ns.length)).1 (kidsTo ns.length ns node ns.length)) w') ∧ KpB S w.heap.size w w' := by
  have hmm := @run_makeMap Try.prog
  refine (callsIn_wide (n := 10)).1 ?_
  refine callsIn_of_wp_marks Try.func164 rfl trivial ?_ rfl
  simp only [Try.ntmps164, List.size_toArray, List.length_cons, List.length_nil, Nat.reduceAdd, Nat.reduceSub, Array.replicate_succ, Array.replicate_zero, List.push_toArray, List.append_toArray, List.nil_append, List.cons_append]
  gi_wp2_with (refine ⟨trivial, ?_⟩; gi_at_call 185; refine (below_in Fence.wide _ _ _ trivial rfl _ _ _).mono ?_; rintro e w' ⟨rfl, rfl⟩)
  have st0 : SpSt w.heap.size A ns.length c (.func (.func gf) #[] #[.pointer (some ⟨pb, 0, none⟩)]) 0 (fun _ => 0) pence (((((w.alloc (.cells #[.slice A ns.length c] 155)).alloc (.cells #[(.func (.func gf) #[] #[.pointer (some ⟨pb, 0, none⟩)])] 206)).alloc (.map #[] 0)).alloc (.cells #[.map (some (w.heap.size + 1 + 1))] 202)).alloc (.cells #[.int .i64 pence] 3)) := by
    have c0 := (((Boxed.new w 155 (.slice A ns.length c)).alloc (.cells #[(.func (.func gf) #[] #[.pointer (some ⟨pb, 0, none⟩)])] 206)).alloc (.map #[] 0)).alloc (.cells #[.map (some (w.heap.size + 1 + 1))] 202)
    have c1 := ((Boxed.new (w.alloc (.cells #[.slice A ns.length c] 155)) 206 (.func (.func gf) #[] #[.pointer (some ⟨pb, 0, none⟩)])).alloc (.map #[] 0)).alloc (.cells #[.map (some (w.heap.size + 1 + 1))] 202)
    have c2 := OwnM.made ((w.alloc (.cells #[.slice A ns.length c] 155)).alloc (.cells #[(.func (.func gf) #[] #[.pointer (some ⟨pb, 0, none⟩)])] 206))
    have c3 := Boxed.new (((w.alloc (.cells #[.slice A ns.length c] 155)).alloc (.cells #[(.func (.func gf) #[] #[.pointer (some ⟨pb, 0, none⟩)])] 206)).alloc (.map #[] 0)) 202 (.map (some (w.heap.size + 1 + 1)))
    have c4 := Boxed.new ((((w.alloc (.cells #[.slice A ns.length c] 155)).alloc (.cells #[(.func (.func gf) #[] #[.pointer (some ⟨pb, 0, none⟩)])] 206)).alloc (.map #[] 0)).alloc (.cells #[.map (some (w.heap.size + 1 + 1))] 202)) 3 (.int .i64 pence)
    simp only [World.size_alloc] at c1 c2 c3 c4
    exact ⟨c0.alloc _, c1.alloc _, (c2.grown (World.grownBy_alloc _ _ none) (by simp)).grown (World.grownBy_alloc _ _ none) (by simp), c3.alloc _, c4⟩
  have hB0 : Below w.heap.size w (((((w.alloc (.cells #[.slice A ns.length c] 155)).alloc (.cells #[(.func (.func gf) #[] #[.pointer (some ⟨pb, 0, none⟩)])] 206)).alloc (.map #[] 0)).alloc (.cells #[.map (some (w.heap.size + 1 + 1))] 202)).alloc (.cells #[.int .i64 pence] 3)) :=
    (((((Below.refl _ w).alloc (Nat.le_refl _) _).alloc (by simp) _).alloc (by simp; omega) _).alloc (by simp; omega) _).alloc (by simp; omega) _
  have hsz : (((((w.alloc (.cells #[.slice A ns.length c] 155)).alloc (.cells #[(.func (.func gf) #[] #[.pointer (some ⟨pb, 0, none⟩)])] 206)).alloc (.map #[] 0)).alloc (.cells #[.map (some (w.heap.size + 1 + 1))] 202)).alloc (.cells #[.int .i64 pence] 3)).heap.size = w.heap.size + 1 + 1 + 1 + 1 + 1 := by simp
  obtain ⟨W0, hW0⟩ : ∃ W0, (((((w.alloc (.cells #[.slice A ns.length c] 155)).alloc (.cells #[(.func (.func gf) #[] #[.pointer (some ⟨pb, 0, none⟩)])] 206)).alloc (.map #[] 0)).alloc (.cells #[.map (some (w.heap.size + 1 + 1))] 202)).alloc (.cells #[.int .i64 pence] 3)) = W0 := ⟨_, rfl⟩
  rw [hW0] at st0 hB0 hsz ⊢
  clear hW0
  rw [← hsz]
  have hsz1 : W0.heap.size ≤ w.heap.size + 5 := by omega
  have hsz2 : w.heap.size + 5 ≤ W0.heap.size := by omega
  clear hsz
  have hBc : B ≤ W0.heap.size := by omega
  have hNc : Nodes W0 B A ns := hN.below (hB0.mono hB)
  have spc := st0
  have hBelc := hB0
  obtain ⟨W1, hW1⟩ : ∃ W1, (W0.alloc (.cells #[.slice A ns.length c] 155)).alloc (.cells #[.int .i64 node] 3) = W1 := ⟨_, rfl⟩
  have hItW1 : IterAt W1 B W0.heap.size (W0.heap.size + 1) A c ns node := by rw [← hW1]; exact iterAt_two hBc hNc
  have hszW1 : W0.heap.size + 1 + 1 ≤ W1.heap.size := by rw [← hW1]; simp
  have hsyW1 : W1.heap.size ≤ W0.heap.size + 1 + 1 := by rw [← hW1]; simp
  have spW1 : SpSt w.heap.size A ns.length c (.func (.func gf) #[] #[.pointer (some ⟨pb, 0, none⟩)]) 0 (fun _ => 0) pence W1 := by rw [← hW1]; exact (spc.alloc _).alloc _
  have hBW1 : Below w.heap.size w W1 := by rw [← hW1]; exact (hBelc.alloc hBelc.size _).alloc (by have := hBelc.size; simp only [World.size_alloc]; omega) _
  rw [hW1]
  clear hW1 spc hBelc hNc hBc st0
  have hn1 : w.heap.size + 1 + 1 + 1 + 1 < W1.heap.size := by omega
  refine range_kids 26 27 (fun k => k = w.heap.size + 1 + 1 ∨ k = w.heap.size + 1 + 1 + 1 + 1) B _ _ c A ns node hv rfl hItW1 (by omega) (by omega) (fun k hk => by omega)
    (fun pre W => SpSt w.heap.size A ns.length c (.func (.func gf) #[] #[.pointer (some ⟨pb, 0, none⟩)]) pre.length (fold1 pence pre).1 (fold1 pence pre).2 W ∧ Below w.heap.size w W)
    (OwnFrom.and (spst_own (by omega) _ _ _) (ownFrom_below (Nat.le_refl _) (by omega))) ⟨spW1, hBW1⟩ (fun a => AxBox a 26 27 11 12 W1.heap.size) (fun _ _ => axBox_own _ _ _ _ _ _ _ _ _) ?assign ?body ?done
  case assign =>
    intro l x W K hs hK
    have h := hK _ _ (.inr ⟨_, rfl⟩) ⟨W.heap.size, hs, XBox.new W x, rfl⟩
    simp only [actKX, List.setIfInBounds_toArray, List.set_cons_zero, List.set_cons_succ] at h ⊢
    gi_wp2
    exact h
  case body =>
    rintro l pre x a' W hS1 hxo ⟨sp1, hB1⟩ ⟨bx, hbx, hX, rfl⟩ hlt
    have k3 := sp1.b3.cell
    have k4 := sp1.b4.cell
    have k4f := sp1.b4.frozen
    have hM := sp1.m
    obtain ⟨x1, x2, x3⟩ := hX.cells
    unfold OKp at hxo
    simp only [actKX, List.setIfInBounds_toArray, List.set_cons_zero, List.set_cons_succ]
    obtain ⟨q1, q2, _⟩ := fold1_bd pence hp0 pre
    by_cases hm : (fold1 pence pre).2 < x.1.2.f
    · have Hm := Lib.hid (gmin_lt hm)
      gi_wp2_with (first
        | (gi_at_mapUpdate; refine upd_in rfl _ _ _ rfl _ _ _ _ _ rfl hM (by omega) rfl rfl (by omega) (by omega) (WalkArith.wf_i64 (by omega)) ?_; intro W2 hM2 hg2; have st2 := sp1.map hg2 hM2; have j3 := st2.b3.cell; have j4 := st2.b4.cell; have j4f := st2.b4.frozen)
        | (gi_at_lookup; refine look_in rfl _ _ rfl _ _ _ _ rfl hM2 rfl (by omega) (by omega) _ (upd_same _ _ _) ?_))
      have e : fold1 pence (pre ++ [x]) = (upd (fold1 pence pre).1 x.1.1 (fold1 pence pre).2, 0) := by rw [fold1_snoc, stF, Hm.out]; simp
      refine ⟨?_, kpB_mapset hg2 hS1 _, ?_, ?_⟩
      · exact (KeepsFrom.of_grownBy hg2 (fun j e => by cases e; omega)).trans ((KeepsOthers.setCell _ _ _).from _)
      · rw [e, List.length_append]; exact st2.setRest _
      · exact (hB1.grown hg2 hB1.size (fun k e => by cases e; omega)).setCell (p := ⟨w.heap.size + 1 + 1 + 1 + 1, 0, none⟩) (by show w.heap.size ≤ w.heap.size + 1 + 1 + 1 + 1; omega) _
    · have Hm := Lib.hid (gmin_ge hm)
      gi_wp2_with (first
        | (gi_at_mapUpdate; refine upd_in rfl _ _ _ rfl _ _ _ _ _ rfl hM (by omega) rfl rfl (by omega) (by omega) (WalkArith.wf_i64 (by omega)) ?_; intro W2 hM2 hg2; have st2 := sp1.map hg2 hM2; have j3 := st2.b3.cell; have j4 := st2.b4.cell; have j4f := st2.b4.frozen)
        | (gi_at_lookup; refine look_in rfl _ _ rfl _ _ _ _ rfl hM2 rfl (by omega) (by omega) _ (upd_same _ _ _) ?_))
      have e : fold1 pence (pre ++ [x]) = (upd (fold1 pence pre).1 x.1.1 x.1.2.f, (fold1 pence pre).2 - x.1.2.f) := by rw [fold1_snoc, stF, Hm.out]
      refine ⟨?_, kpB_mapset hg2 hS1 _, ?_, ?_⟩
      · exact (KeepsFrom.of_grownBy hg2 (fun j e => by cases e; omega)).trans ((KeepsOthers.setCell _ _ _).from _)
      · rw [e, List.length_append]; exact st2.setRest _
      · exact (hB1.grown hg2 hB1.size (fun k e => by cases e; omega)).setCell (p := ⟨w.heap.size + 1 + 1 + 1 + 1, 0, none⟩) (by show w.heap.size ≤ w.heap.size + 1 + 1 + 1 + 1; omega) _
  case done =>
    rintro D1 W hD hD2 ⟨sp, hB1⟩ hK
    clear hItW1 spW1
    have k0 := sp.b0.cell
    have hBW : B ≤ W.heap.size := by have := hB1.size; omega
    have hNW : Nodes W B A ns := hN.below (hB1.mono hB)
    have hs := sumK_bd (kidsTo ns.length ns node ns.length)
    have hsl := kidsTo_len ns.length ns node ns.length
    have hf1 := fold1_bd pence hp0 (kidsTo ns.length ns node ns.length)
    obtain ⟨f0, f1, f2⟩ := hf1
    have F2 := Lib.hid f2
    clear f2
    by_cases hpos : 0 < sumK (kidsTo ns.length ns node ns.length)
    · have Hpos := Lib.hid hpos
      have hR : 0 ≤ (fold1 pence (kidsTo ns.length ns node ns.length)).2 ∧ (fold1 pence (kidsTo ns.length ns node ns.length)).2 ≤ 400 := ⟨f0, by omega⟩
      gi_wp2_with (first | (refine ⟨trivial, ?_⟩; gi_at_call 152; refine (CallsIn.mono (callsIn_wide.2 (weights_any B c A ns node hv hl W hBW hNW)) ?_); rintro e W2 ⟨rfl, hW2⟩; have spx := sp.below hW2; have y0 := fun o => (spx.b0.alloc o).cell; have y4 := fun o => (spx.b4.alloc o).cell; have z0 := fun o o' => ((spx.b0.alloc o).alloc o').cell) | (refine ⟨trivial, ?_⟩; gi_at_call 185; refine (below_in Fence.wide _ _ _ trivial rfl _ _ _).mono ?_; rintro e w' ⟨rfl, rfl⟩))
      have spN := (spx.alloc (.cells #[.int .i64 (sumK (kidsTo ns.length ns node ns.length))] 3)).alloc (.cells #[.int .i64 (fold1 pence (kidsTo ns.length ns node ns.length)).2] 3)
      have bS := (Boxed.new W2 3 (.int .i64 (sumK (kidsTo ns.length ns node ns.length)))).alloc (.cells #[.int .i64 (fold1 pence (kidsTo ns.length ns node ns.length)).2] 3)
      have bL := Boxed.new (W2.alloc (.cells #[.int .i64 (sumK (kidsTo ns.length ns node ns.length))] 3)) 3 (.int .i64 (fold1 pence (kidsTo ns.length ns node ns.length)).2)
      simp only [World.size_alloc] at bL
      have hBN : Below w.heap.size w ((W2.alloc (.cells #[.int .i64 (sumK (kidsTo ns.length ns node ns.length))] 3)).alloc (.cells #[.int .i64 (fold1 pence (kidsTo ns.length ns node ns.length)).2] 3)) := ((hB1.trans (hW2.mono hB1.size)).alloc (by have := hB1.size; have := hW2.size; omega) _).alloc (by have := hB1.size; have := hW2.size; simp only [World.size_alloc]; omega) _
      have hDN : ((W2.alloc (.cells #[.int .i64 (sumK (kidsTo ns.length ns node ns.length))] 3)).alloc (.cells #[.int .i64 (fold1 pence (kidsTo ns.length ns node ns.length)).2] 3)).heap[D1]? = some (.deferred (some [])) :=
        (Below.heap_alloc _ _ _ (by have := hW2.size; simp only [World.size_alloc]; omega)).trans ((Below.heap_alloc _ _ _ (by have := hW2.size; omega)).trans ((hW2.block _ hD2).trans hK))
      have hszN : ((W2.alloc (.cells #[.int .i64 (sumK (kidsTo ns.length ns node ns.length))] 3)).alloc (.cells #[.int .i64 (fold1 pence (kidsTo ns.length ns node ns.length)).2] 3)).heap.size = W2.heap.size + 1 + 1 := by simp
      have hs5 : w.heap.size + 5 ≤ W2.heap.size := by have := spx.b4.lt; omega
      have hD15 : w.heap.size + 5 ≤ D1 ∧ D1 < W2.heap.size := ⟨by omega, by have := hW2.size; omega⟩
      obtain ⟨WN, hWN⟩ : ∃ WN, (W2.alloc (.cells #[.int .i64 (sumK (kidsTo ns.length ns node ns.length))] 3)).alloc (.cells #[.int .i64 (fold1 pence (kidsTo ns.length ns node ns.length)).2] 3) = WN := ⟨_, rfl⟩
      rw [hWN] at spN bS bL hBN hDN hszN ⊢
      clear hWN sp spx y0 y4 z0
      have hBc : B ≤ WN.heap.size := by have := hBN.size; omega
      have hNc : Nodes WN B A ns := hN.below (hBN.mono hB)
      have spc := spN
      have hBelc := hBN
      rw [← hszN]
      have hszN1 : WN.heap.size ≤ W2.heap.size + 1 + 1 := by omega
      have hszN2 : W2.heap.size + 1 + 1 ≤ WN.heap.size := by omega
      clear hszN
      obtain ⟨W3, hW3⟩ : ∃ W3, (WN.alloc (.cells #[.slice A ns.length c] 155)).alloc (.cells #[.int .i64 node] 3) = W3 := ⟨_, rfl⟩
      have hItW3 : IterAt W3 B WN.heap.size (WN.heap.size + 1) A c ns node := by rw [← hW3]; exact iterAt_two hBc hNc
      have hszW3 : WN.heap.size + 1 + 1 ≤ W3.heap.size := by rw [← hW3]; simp
      have hsyW3 : W3.heap.size ≤ WN.heap.size + 1 + 1 := by rw [← hW3]; simp
      have spW3 : SpSt w.heap.size A ns.length c (.func (.func gf) #[] #[.pointer (some ⟨pb, 0, none⟩)]) (kidsTo ns.length ns node ns.length).length (fold1 pence (kidsTo ns.length ns node ns.length)).1 (fold1 pence (kidsTo ns.length ns node ns.length)).2 W3 := by rw [← hW3]; exact (spc.alloc _).alloc _
      have hBW3 : Below w.heap.size w W3 := by rw [← hW3]; exact (hBelc.alloc hBelc.size _).alloc (by have := hBelc.size; simp only [World.size_alloc]; omega) _
      have bS3 : Boxed W3 W2.heap.size 3 (.int .i64 (sumK (kidsTo ns.length ns node ns.length))) := by rw [← hW3]; exact (bS.alloc _).alloc _
      have bL3 : Boxed W3 (W2.heap.size + 1) 3 (.int .i64 (fold1 pence (kidsTo ns.length ns node ns.length)).2) := by rw [← hW3]; exact (bL.alloc _).alloc _
      have hD3 : W3.heap[D1]? = some (.deferred (some [])) := by rw [← hW3]; exact (Below.heap_alloc _ _ _ (by simp; omega)).trans ((Below.heap_alloc _ _ _ (by omega)).trans hDN)
      rw [hW3]
      clear hW3 spc hBelc hNc hBc spN bS bL hBN hDN
      refine range_kids 48 49 (fun k => k = w.heap.size + 1 + 1 ∨ k = W2.heap.size + 1) B _ _ c A ns node hv rfl hItW3 (by omega) (by omega) (fun k hk => by omega)
        (fun pre W => (((SpSt w.heap.size A ns.length c (.func (.func gf) #[] #[.pointer (some ⟨pb, 0, none⟩)]) ((kidsTo ns.length ns node ns.length).length + pre.length) (fold2 (fold1 pence (kidsTo ns.length ns node ns.length)).1 (fold1 pence (kidsTo ns.length ns node ns.length)).2 (sumK (kidsTo ns.length ns node ns.length)) pre).1 (fold1 pence (kidsTo ns.length ns node ns.length)).2 W ∧ Boxed W W2.heap.size 3 (.int .i64 (sumK (kidsTo ns.length ns node ns.length)))) ∧ Boxed W (W2.heap.size + 1) 3 (.int .i64 (fold2 (fold1 pence (kidsTo ns.length ns node ns.length)).1 (fold1 pence (kidsTo ns.length ns node ns.length)).2 (sumK (kidsTo ns.length ns node ns.length)) pre).2)) ∧ Below w.heap.size w W) ∧ W.heap[D1]? = some (.deferred (some [])))
        (OwnFrom.and (OwnFrom.and (OwnFrom.and (OwnFrom.and (spst_own (by omega) (fun pre => (kidsTo ns.length ns node ns.length).length + pre.length) (fun pre => (fold2 (fold1 pence (kidsTo ns.length ns node ns.length)).1 (fold1 pence (kidsTo ns.length ns node ns.length)).2 (sumK (kidsTo ns.length ns node ns.length)) pre).1) (fun _ => (fold1 pence (kidsTo ns.length ns node ns.length)).2)) (boxed_ownFrom (fun _ => .int .i64 (sumK (kidsTo ns.length ns node ns.length))))) (boxed_ownFrom (fun pre => .int .i64 (fold2 (fold1 pence (kidsTo ns.length ns node ns.length)).1 (fold1 pence (kidsTo ns.length ns node ns.length)).2 (sumK (kidsTo ns.length ns node ns.length)) pre).2))) (ownFrom_below (Nat.le_refl _) (by omega))) (block_own (by omega)))
        ⟨⟨⟨⟨spW3, bS3⟩, bL3⟩, hBW3⟩, hD3⟩ (fun a => AxBox a 48 49 15 16 W3.heap.size) (fun _ _ => axBox_own _ _ _ _ _ _ _ _ _) ?assign ?body ?done
      case assign =>
        intro l x W K hs hK
        have h := hK _ _ (.inr ⟨_, rfl⟩) ⟨W.heap.size, hs, XBox.new W x, rfl⟩
        simp only [actKX, List.setIfInBounds_toArray, List.set_cons_zero, List.set_cons_succ] at h ⊢
        gi_wp2
        exact h
      case body =>
        rintro l pre x a' W hS1 hxo ⟨⟨⟨⟨sp1, bS1⟩, bL1⟩, hBe1⟩, hDe1⟩ ⟨bx, hbx, hX, rfl⟩ hlt
        have k3 := sp1.b3.cell
        have k4 := sp1.b4.cell
        have kS := bS1.cell
        have kL := bL1.cell
        have hM := sp1.m
        obtain ⟨x1, x2, x3⟩ := hX.cells
        obtain ⟨q1, q2, q3, q4⟩ := quo_bd hR.1 hR.2 Hpos.out hxo
        obtain ⟨b1, b2, b3⟩ := fold2_bd (g := (fold1 pence (kidsTo ns.length ns node ns.length)).1) F2.out hR.1 hR.2 Hpos.out pre
        have b3x := b3 x.1.1
        clear b3
        unfold OKp at hxo
        have hpos := Hpos.out
        simp only [actKX, List.setIfInBounds_toArray, List.set_cons_zero, List.set_cons_succ]
        gi_wp2_with (first
          | (gi_at_mapUpdate; refine upd_in rfl _ _ _ rfl _ _ _ _ _ rfl hM (by omega) rfl rfl (by omega) (by omega) (WalkArith.wf_i64 (by omega)) ?_; intro W5 hM5 hg5; have sp5 := sp1.map hg5 hM5; have bL5 := bL1.kept hg5 (by intro e; injection e; omega); have bS5 := bS1.kept hg5 (by intro e; injection e; omega); have j3 := bL5.cell; have j4f := bL5.frozen)
          | (gi_at_lookup; refine look_in rfl _ _ rfl _ _ _ _ rfl hM rfl (by omega) (by omega) _ rfl ?_))
        have e : fold2 (fold1 pence (kidsTo ns.length ns node ns.length)).1 (fold1 pence (kidsTo ns.length ns node ns.length)).2 (sumK (kidsTo ns.length ns node ns.length)) (pre ++ [x]) = (upd (fold2 (fold1 pence (kidsTo ns.length ns node ns.length)).1 (fold1 pence (kidsTo ns.length ns node ns.length)).2 (sumK (kidsTo ns.length ns node ns.length)) pre).1 x.1.1 ((fold2 (fold1 pence (kidsTo ns.length ns node ns.length)).1 (fold1 pence (kidsTo ns.length ns node ns.length)).2 (sumK (kidsTo ns.length ns node ns.length)) pre).1 x.1.1 + (fold1 pence (kidsTo ns.length ns node ns.length)).2 * x.1.2.w / (sumK (kidsTo ns.length ns node ns.length))), (fold2 (fold1 pence (kidsTo ns.length ns node ns.length)).1 (fold1 pence (kidsTo ns.length ns node ns.length)).2 (sumK (kidsTo ns.length ns node ns.length)) pre).2 - (fold1 pence (kidsTo ns.length ns node ns.length)).2 * x.1.2.w / (sumK (kidsTo ns.length ns node ns.length))) := by rw [fold2_snoc, stG]
        refine ⟨?_, ?_, ⟨⟨⟨?_, ?_⟩, ?_⟩, ?_⟩, ?_⟩
        · exact (KeepsFrom.of_grownBy hg5 (fun j e => by cases e; omega)).trans ((KeepsOthers.setCell _ _ _).from _)
        · exact ((KpB.refl _ _ W).grown hg5 hS1 (fun k e => .inl (.inl (by cases e; rfl)))).set 0 _ (.inl (.inr rfl))
        · rw [e, List.length_append]
          exact sp5.grown (grownBy_setCell' _ _ _) (fun r e => by cases e; omega)
        · exact bS5.other (by omega) _
        · rw [e]
          exact bL5.set _
        · exact (hBe1.grown hg5 hBe1.size (fun k e => by cases e; omega)).setCell (p := ⟨W2.heap.size + 1, 0, none⟩) (by show w.heap.size ≤ W2.heap.size + 1; omega) _
        · exact (Below.heap_setCell _ _ _ _ (by show D1 ≠ W2.heap.size + 1; omega)).trans ((hg5.block D1 (Array.getElem?_eq_some_iff.1 hDe1).1 (by intro e; injection e; omega)).trans hDe1)
      case done =>
        rintro D2 W hD2a hD2b ⟨⟨⟨⟨sp1, bS1⟩, bL1⟩, hBe1⟩, hDe1⟩ hK2
        clear hItW3 spW3 bS3 bL3 hD3
        obtain ⟨b1, b2, b3⟩ := fold2_bd (g := (fold1 pence (kidsTo ns.length ns node ns.length)).1) F2.out hR.1 hR.2 Hpos.out (kidsTo ns.length ns node ns.length)
        have B3 := Lib.hid b3
        clear b3
        have spz := sp1.setRest 0
        have y0 := spz.b0.cell
        have k4 := sp1.b4.cell
        have k4f := sp1.b4.frozen
        gi_wp2_with (refine ⟨trivial, ?_⟩; gi_at_call 185; refine (below_in Fence.wide _ _ _ trivial rfl _ _ _).mono ?_; rintro e w' ⟨rfl, rfl⟩)
        have bS5 := bS1.other (B' := w.heap.size + 1 + 1 + 1 + 1) (by omega) (.int .i64 0)
        have bL5 := bL1.other (B' := w.heap.size + 1 + 1 + 1 + 1) (by omega) (.int .i64 0)
        have hBz := hBe1.setCell (p := ⟨w.heap.size + 1 + 1 + 1 + 1, 0, none⟩) (by show w.heap.size ≤ w.heap.size + 1 + 1 + 1 + 1; omega) (.int .i64 0)
        have hDz1 : (W.setCell ⟨w.heap.size + 1 + 1 + 1 + 1, 0, none⟩ (.int .i64 0)).heap[D1]? = some (.deferred (some [])) := (Below.heap_setCell _ _ _ _ (by show D1 ≠ w.heap.size + 1 + 1 + 1 + 1; omega)).trans hDe1
        have hDz2 : (W.setCell ⟨w.heap.size + 1 + 1 + 1 + 1, 0, none⟩ (.int .i64 0)).heap[D2]? = some (.deferred (some [])) := (Below.heap_setCell _ _ _ _ (by show D2 ≠ w.heap.size + 1 + 1 + 1 + 1; omega)).trans hK2
        have hszz : (W.setCell ⟨w.heap.size + 1 + 1 + 1 + 1, 0, none⟩ (.int .i64 0)).heap.size = W.heap.size := by simp [World.setCell]
        obtain ⟨WZ, hWZ⟩ : ∃ WZ, W.setCell ⟨w.heap.size + 1 + 1 + 1 + 1, 0, none⟩ (.int .i64 0) = WZ := ⟨_, rfl⟩
        rw [hWZ] at spz bS5 bL5 hBz hDz1 hDz2 hszz y0 ⊢
        rw [← hszz] at hD2b ⊢
        clear hWZ sp1 bS1 bL1 hBe1 hDe1 hK2 k4 k4f hszz y0
        have hBc : B ≤ WZ.heap.size := by have := hBz.size; omega
        have hNc : Nodes WZ B A ns := hN.below (hBz.mono hB)
        have spc := spz
        have hBelc := hBz
        obtain ⟨W4, hW4⟩ : ∃ W4, (WZ.alloc (.cells #[.slice A ns.length c] 155)).alloc (.cells #[.int .i64 node] 3) = W4 := ⟨_, rfl⟩
        have hItW4 : IterAt W4 B WZ.heap.size (WZ.heap.size + 1) A c ns node := by rw [← hW4]; exact iterAt_two hBc hNc
        have hszW4 : WZ.heap.size + 1 + 1 ≤ W4.heap.size := by rw [← hW4]; simp
        have hsyW4 : W4.heap.size ≤ WZ.heap.size + 1 + 1 := by rw [← hW4]; simp
        have spW4 : SpSt w.heap.size A ns.length c (.func (.func gf) #[] #[.pointer (some ⟨pb, 0, none⟩)]) ((kidsTo ns.length ns node ns.length).length + (kidsTo ns.length ns node ns.length).length) (fold2 (fold1 pence (kidsTo ns.length ns node ns.length)).1 (fold1 pence (kidsTo ns.length ns node ns.length)).2 (sumK (kidsTo ns.length ns node ns.length)) (kidsTo ns.length ns node ns.length)).1 0 W4 := by rw [← hW4]; exact (spc.alloc _).alloc _
        have hBW4 : Below w.heap.size w W4 := by rw [← hW4]; exact (hBelc.alloc hBelc.size _).alloc (by have := hBelc.size; simp only [World.size_alloc]; omega) _
        have bL6 : Boxed W4 (W2.heap.size + 1) 3 (.int .i64 (fold2 (fold1 pence (kidsTo ns.length ns node ns.length)).1 (fold1 pence (kidsTo ns.length ns node ns.length)).2 (sumK (kidsTo ns.length ns node ns.length)) (kidsTo ns.length ns node ns.length)).2) := by rw [← hW4]; exact (bL5.alloc _).alloc _
        have hD41 : W4.heap[D1]? = some (.deferred (some [])) := by rw [← hW4]; exact (Below.heap_alloc _ _ _ (by simp; omega)).trans ((Below.heap_alloc _ _ _ (by omega)).trans hDz1)
        have hD42 : W4.heap[D2]? = some (.deferred (some [])) := by rw [← hW4]; exact (Below.heap_alloc _ _ _ (by simp; omega)).trans ((Below.heap_alloc _ _ _ hD2b).trans hDz2)
        rw [hW4]
        clear hW4 spc hBelc hNc hBc spz bS5 bL5 hBz hDz1 hDz2
        refine range_kids 67 68 (fun k => k = w.heap.size + 1 + 1 ∨ k = W2.heap.size + 1) B _ _ c A ns node hv rfl hItW4 (by omega) (by omega) (fun k hk => by omega)
          (fun pre W => (((SpSt w.heap.size A ns.length c (.func (.func gf) #[] #[.pointer (some ⟨pb, 0, none⟩)]) ((kidsTo ns.length ns node ns.length).length + (kidsTo ns.length ns node ns.length).length + pre.length) (fold3 (fold2 (fold1 pence (kidsTo ns.length ns node ns.length)).1 (fold1 pence (kidsTo ns.length ns node ns.length)).2 (sumK (kidsTo ns.length ns node ns.length)) (kidsTo ns.length ns node ns.length)) pre).1 0 W ∧ Boxed W (W2.heap.size + 1) 3 (.int .i64 (fold3 (fold2 (fold1 pence (kidsTo ns.length ns node ns.length)).1 (fold1 pence (kidsTo ns.length ns node ns.length)).2 (sumK (kidsTo ns.length ns node ns.length)) (kidsTo ns.length ns node ns.length)) pre).2)) ∧ Below w.heap.size w W) ∧ W.heap[D1]? = some (.deferred (some []))) ∧ W.heap[D2]? = some (.deferred (some [])))
          (OwnFrom.and (OwnFrom.and (OwnFrom.and (OwnFrom.and (spst_own (by omega) (fun pre => (kidsTo ns.length ns node ns.length).length + (kidsTo ns.length ns node ns.length).length + pre.length) (fun pre => (fold3 (fold2 (fold1 pence (kidsTo ns.length ns node ns.length)).1 (fold1 pence (kidsTo ns.length ns node ns.length)).2 (sumK (kidsTo ns.length ns node ns.length)) (kidsTo ns.length ns node ns.length)) pre).1) (fun _ => 0)) (boxed_ownFrom (fun pre => .int .i64 (fold3 (fold2 (fold1 pence (kidsTo ns.length ns node ns.length)).1 (fold1 pence (kidsTo ns.length ns node ns.length)).2 (sumK (kidsTo ns.length ns node ns.length)) (kidsTo ns.length ns node ns.length)) pre).2))) (ownFrom_below (Nat.le_refl _) (by omega))) (block_own (by omega))) (block_own (by omega)))
          ⟨⟨⟨⟨spW4, bL6⟩, hBW4⟩, hD41⟩, hD42⟩ (fun a => AxBox a 67 68 18 19 W4.heap.size) (fun _ _ => axBox_own _ _ _ _ _ _ _ _ _) ?assign ?body ?done
        case assign =>
          intro l x W K hs hK
          have h := hK _ _ (.inr ⟨_, rfl⟩) ⟨W.heap.size, hs, XBox.new W x, rfl⟩
          simp only [actKX, List.setIfInBounds_toArray, List.set_cons_zero, List.set_cons_succ] at h ⊢
          gi_wp2
          exact h
        case body =>
          rintro l pre x a' W hS1 hxo ⟨⟨⟨⟨sp1, bL1⟩, hBe1⟩, hDe1⟩, hDe2⟩ ⟨bx, hbx, hX, rfl⟩ hlt
          have k3 := sp1.b3.cell
          have kL := bL1.cell
          have kLf := bL1.frozen
          have hM := sp1.m
          obtain ⟨x1, x2, x3⟩ := hX.cells
          obtain ⟨c1, c2, c3⟩ := fold3_bd (p := fold2 (fold1 pence (kidsTo ns.length ns node ns.length)).1 (fold1 pence (kidsTo ns.length ns node ns.length)).2 (sumK (kidsTo ns.length ns node ns.length)) (kidsTo ns.length ns node ns.length)) b1 (by omega) b2 B3.out pre
          have c3x := c3 x.1.1
          clear c3
          unfold OKp at hxo
          simp only [actKX, List.setIfInBounds_toArray, List.set_cons_zero, List.set_cons_succ]
          by_cases hw : 0 < x.1.2.w
          · by_cases hlf : 0 < (fold3 (fold2 (fold1 pence (kidsTo ns.length ns node ns.length)).1 (fold1 pence (kidsTo ns.length ns node ns.length)).2 (sumK (kidsTo ns.length ns node ns.length)) (kidsTo ns.length ns node ns.length)) pre).2
            · have Hc := Lib.hid (And.intro hw hlf)
              gi_wp2_with (first
                | (gi_at_mapUpdate; refine upd_in rfl _ _ _ rfl _ _ _ _ _ rfl hM (by omega) rfl rfl (by omega) (by omega) (WalkArith.wf_i64 (by omega)) ?_; intro W5 hM5 hg5; have sp5 := sp1.map hg5 hM5; have bL5 := bL1.kept hg5 (by intro e; injection e; omega); have j3 := bL5.cell; have j4f := bL5.frozen)
                | (gi_at_lookup; refine look_in rfl _ _ rfl _ _ _ _ rfl hM rfl (by omega) (by omega) _ rfl ?_))
              have e : fold3 (fold2 (fold1 pence (kidsTo ns.length ns node ns.length)).1 (fold1 pence (kidsTo ns.length ns node ns.length)).2 (sumK (kidsTo ns.length ns node ns.length)) (kidsTo ns.length ns node ns.length)) (pre ++ [x]) = (upd (fold3 (fold2 (fold1 pence (kidsTo ns.length ns node ns.length)).1 (fold1 pence (kidsTo ns.length ns node ns.length)).2 (sumK (kidsTo ns.length ns node ns.length)) (kidsTo ns.length ns node ns.length)) pre).1 x.1.1 ((fold3 (fold2 (fold1 pence (kidsTo ns.length ns node ns.length)).1 (fold1 pence (kidsTo ns.length ns node ns.length)).2 (sumK (kidsTo ns.length ns node ns.length)) (kidsTo ns.length ns node ns.length)) pre).1 x.1.1 + 1), (fold3 (fold2 (fold1 pence (kidsTo ns.length ns node ns.length)).1 (fold1 pence (kidsTo ns.length ns node ns.length)).2 (sumK (kidsTo ns.length ns node ns.length)) (kidsTo ns.length ns node ns.length)) pre).2 - 1) := by rw [fold3_snoc, stH, if_pos Hc.out]
              refine ⟨?_, ?_, ⟨⟨⟨?_, ?_⟩, ?_⟩, ?_⟩, ?_⟩
              · exact (KeepsFrom.of_grownBy hg5 (fun j e => by cases e; omega)).trans ((KeepsOthers.setCell _ _ _).from _)
              · exact ((KpB.refl _ _ W).grown hg5 hS1 (fun k e => .inl (.inl (by cases e; rfl)))).set 0 _ (.inl (.inr rfl))
              · rw [e, List.length_append]
                exact sp5.grown (grownBy_setCell' _ _ _) (fun r e => by cases e; omega)
              · rw [e]
                exact bL5.set _
              · exact (hBe1.grown hg5 hBe1.size (fun k e => by cases e; omega)).setCell (p := ⟨W2.heap.size + 1, 0, none⟩) (by show w.heap.size ≤ W2.heap.size + 1; omega) _
              · exact (Below.heap_setCell _ _ _ _ (by show D1 ≠ W2.heap.size + 1; omega)).trans ((hg5.block D1 (Array.getElem?_eq_some_iff.1 hDe1).1 (by intro e; injection e; omega)).trans hDe1)
              · exact (Below.heap_setCell _ _ _ _ (by show D2 ≠ W2.heap.size + 1; omega)).trans ((hg5.block D2 (Array.getElem?_eq_some_iff.1 hDe2).1 (by intro e; injection e; omega)).trans hDe2)
            · have Hc := Lib.hid (fun h : 0 < x.1.2.w ∧ 0 < (fold3 (fold2 (fold1 pence (kidsTo ns.length ns node ns.length)).1 (fold1 pence (kidsTo ns.length ns node ns.length)).2 (sumK (kidsTo ns.length ns node ns.length)) (kidsTo ns.length ns node ns.length)) pre).2 => hlf h.2)
              gi_wp2
              have e : fold3 (fold2 (fold1 pence (kidsTo ns.length ns node ns.length)).1 (fold1 pence (kidsTo ns.length ns node ns.length)).2 (sumK (kidsTo ns.length ns node ns.length)) (kidsTo ns.length ns node ns.length)) (pre ++ [x]) = fold3 (fold2 (fold1 pence (kidsTo ns.length ns node ns.length)).1 (fold1 pence (kidsTo ns.length ns node ns.length)).2 (sumK (kidsTo ns.length ns node ns.length)) (kidsTo ns.length ns node ns.length)) pre := by rw [fold3_snoc, stH, if_neg Hc.out]
              refine ⟨KeepsFrom.refl _ _, KpB.refl _ _ _, ⟨⟨⟨?_, ?_⟩, hBe1⟩, hDe1⟩, hDe2⟩
              · rw [e, List.length_append]; exact sp1.more (by simp)
              · rw [e]; exact bL1
          · have Hc := Lib.hid (fun h : 0 < x.1.2.w ∧ 0 < (fold3 (fold2 (fold1 pence (kidsTo ns.length ns node ns.length)).1 (fold1 pence (kidsTo ns.length ns node ns.length)).2 (sumK (kidsTo ns.length ns node ns.length)) (kidsTo ns.length ns node ns.length)) pre).2 => hw h.1)
            gi_wp2
            have e : fold3 (fold2 (fold1 pence (kidsTo ns.length ns node ns.length)).1 (fold1 pence (kidsTo ns.length ns node ns.length)).2 (sumK (kidsTo ns.length ns node ns.length)) (kidsTo ns.length ns node ns.length)) (pre ++ [x]) = fold3 (fold2 (fold1 pence (kidsTo ns.length ns node ns.length)).1 (fold1 pence (kidsTo ns.length ns node ns.length)).2 (sumK (kidsTo ns.length ns node ns.length)) (kidsTo ns.length ns node ns.length)) pre := by rw [fold3_snoc, stH, if_neg Hc.out]
            refine ⟨KeepsFrom.refl _ _, KpB.refl _ _ _, ⟨⟨⟨?_, ?_⟩, hBe1⟩, hDe1⟩, hDe2⟩
            · rw [e, List.length_append]; exact sp1.more (by simp)
            · rw [e]; exact bL1
        case done =>
          rintro D3 W hD3a hD3b ⟨⟨⟨⟨sp1, bL1⟩, hBe1⟩, hDe1⟩, hDe2⟩ hK3
          obtain ⟨c1, c2, c3⟩ := fold3_bd (p := fold2 (fold1 pence (kidsTo ns.length ns node ns.length)).1 (fold1 pence (kidsTo ns.length ns node ns.length)).2 (sumK (kidsTo ns.length ns node ns.length)) (kidsTo ns.length ns node ns.length)) b1 (by omega) b2 B3.out (kidsTo ns.length ns node ns.length)
          clear hItW4 spW4 bL6 hD41 hD42
          have HGb : Hid (∀ k, 0 ≤ (fold3 (fold2 (fold1 pence (kidsTo ns.length ns node ns.length)).1 (fold1 pence (kidsTo ns.length ns node ns.length)).2 (sumK (kidsTo ns.length ns node ns.length)) (kidsTo ns.length ns node ns.length)) (kidsTo ns.length ns node ns.length)).1 k ∧ (fold3 (fold2 (fold1 pence (kidsTo ns.length ns node ns.length)).1 (fold1 pence (kidsTo ns.length ns node ns.length)).2 (sumK (kidsTo ns.length ns node ns.length)) (kidsTo ns.length ns node ns.length)) (kidsTo ns.length ns node ns.length)).1 k ≤ 1000000) := Lib.hid (fun k => by have := c3 k; omega)
          clear c3
          have Hsp : Hid (splitF pence (kidsTo ns.length ns node ns.length) = ((fold3 (fold2 (fold1 pence (kidsTo ns.length ns node ns.length)).1 (fold1 pence (kidsTo ns.length ns node ns.length)).2 (sumK (kidsTo ns.length ns node ns.length)) (kidsTo ns.length ns node ns.length)) (kidsTo ns.length ns node ns.length)).1, 0)) := Lib.hid (if_pos Hpos.out)
          have hDp : [D3, D2, D1].Pairwise (fun a b => a ≠ b) := by simp; omega
          have hDs : ∀ D ∈ [D3, D2, D1], w.heap.size + 5 ≤ D ∧ D < W.heap.size ∧ W.heap[D]? = some (.deferred (some [])) := by
            intro D hD
            simp only [List.mem_cons, List.not_mem_nil, or_false] at hD
            rcases hD with rfl | rfl | rfl
            · exact ⟨by omega, hD3b, hK3⟩
            · exact ⟨by omega, (Array.getElem?_eq_some_iff.1 hDe2).1, hDe2⟩
            · exact ⟨by omega, (Array.getElem?_eq_some_iff.1 hDe1).1, hDe1⟩
          have sp := sp1
          have hBel := hBe1
          clear sp1 bL1 hBe1 hBW3 hBW4
          have k0 := sp.b0.cell
          gi_wp2_with (refine ⟨trivial, ?_⟩; gi_at_call 185; refine (below_in Fence.wide _ _ _ trivial rfl _ _ _).mono ?_; rintro e w' ⟨rfl, rfl⟩)
          have hBc : B ≤ W.heap.size := by have := hBel.size; omega
          have hNc : Nodes W B A ns := hN.below (hBel.mono hB)
          have spc := sp
          have hBelc := hBel
          obtain ⟨W9, hW9⟩ : ∃ W9, (W.alloc (.cells #[.slice A ns.length c] 155)).alloc (.cells #[.int .i64 node] 3) = W9 := ⟨_, rfl⟩
          have hItW9 : IterAt W9 B W.heap.size (W.heap.size + 1) A c ns node := by rw [← hW9]; exact iterAt_two hBc hNc
          have hszW9 : W.heap.size + 1 + 1 ≤ W9.heap.size := by rw [← hW9]; simp
          have hsyW9 : W9.heap.size ≤ W.heap.size + 1 + 1 := by rw [← hW9]; simp
          have spW9 : SpSt w.heap.size A ns.length c (.func (.func gf) #[] #[.pointer (some ⟨pb, 0, none⟩)]) ((kidsTo ns.length ns node ns.length).length + (kidsTo ns.length ns node ns.length).length + (kidsTo ns.length ns node ns.length).length) (fold3 (fold2 (fold1 pence (kidsTo ns.length ns node ns.length)).1 (fold1 pence (kidsTo ns.length ns node ns.length)).2 (sumK (kidsTo ns.length ns node ns.length)) (kidsTo ns.length ns node ns.length)) (kidsTo ns.length ns node ns.length)).1 0 W9 := by rw [← hW9]; exact (spc.alloc _).alloc _
          have hBW9 : Below w.heap.size w W9 := by rw [← hW9]; exact (hBelc.alloc hBelc.size _).alloc (by have := hBelc.size; simp only [World.size_alloc]; omega) _
          have hDs4 : ∀ D ∈ [D3, D2, D1], w.heap.size + 5 ≤ D ∧ D < W9.heap.size ∧ W9.heap[D]? = some (.deferred (some [])) := fun D hD => by
            obtain ⟨d1, d2, d3⟩ := hDs D hD
            refine ⟨d1, by omega, ?_⟩
            rw [← hW9]
            exact (Below.heap_alloc _ _ _ (by simp; omega)).trans ((Below.heap_alloc _ _ _ d2).trans d3)
          rw [hW9]
          clear hW9 spc hBelc hNc hBc
          have hJ4 := hJ0 W9 hBW9
          refine range_kids 85 86 S B _ _ c A ns node hv rfl hItW9 (fun h => by have := (hS _ h).2; have := sp.b4.lt; omega) (fun h => by have := (hS _ h).2; have := sp.b4.lt; omega) (fun k hk => (hS k hk).1)
            (fun pre W => ((SpSt w.heap.size A ns.length c (.func (.func gf) #[] #[.pointer (some ⟨pb, 0, none⟩)]) ((kidsTo ns.length ns node ns.length).length + (kidsTo ns.length ns node ns.length).length + (kidsTo ns.length ns node ns.length).length) (fold3 (fold2 (fold1 pence (kidsTo ns.length ns node ns.length)).1 (fold1 pence (kidsTo ns.length ns node ns.length)).2 (sumK (kidsTo ns.length ns node ns.length)) (kidsTo ns.length ns node ns.length)) (kidsTo ns.length ns node ns.length)).1 0 W ∧ J W9.heap.size (gives (fold3 (fold2 (fold1 pence (kidsTo ns.length ns node ns.length)).1 (fold1 pence (kidsTo ns.length ns node ns.length)).2 (sumK (kidsTo ns.length ns node ns.length)) (kidsTo ns.length ns node ns.length)) (kidsTo ns.length ns node ns.length)).1 pre) W) ∧ KpB S w.heap.size w W) ∧ ∀ D ∈ [D3, D2, D1], W.heap[D]? = some (.deferred (some [])))
            (OwnFrom.and (OwnFrom.and (OwnFrom.and (spst_own (by have := sp.b4.lt; omega) (fun _ => _) (fun _ => _) (fun _ => _)) (fun x X Y row h1 h2 h3 => hJown W9.heap.size (gives (fold3 (fold2 (fold1 pence (kidsTo ns.length ns node ns.length)).1 (fold1 pence (kidsTo ns.length ns node ns.length)).2 (sumK (kidsTo ns.length ns node ns.length)) (kidsTo ns.length ns node ns.length)) (kidsTo ns.length ns node ns.length)).1 x) X Y row h1 h2 (fun r e => ⟨by have := (h3 r e).1; have := sp.b4.lt; omega, (h3 r e).2⟩))) (KpB.ownFrom (Nat.le_refl _) (by have := sp.b4.lt; omega))) (fun x X Y row h1 h2 h3 D hD => (h2.block D (Array.getElem?_eq_some_iff.1 (h1 D hD)).1 (fun e => by have := (h3 D e.symm).1; have := (hDs4 D hD).2.1; omega)).trans (h1 D hD)))
            ⟨⟨⟨spW9, hJ4⟩, kpB_of_below hBW9⟩, fun D hD => (hDs4 D hD).2.2⟩ (fun a x a' _ => a' = actN a 85 86 20 x) (fun _ _ _ _ _ _ h _ _ => h) ?assign ?body ?done
          case assign =>
            intro l x W K hs hK
            have h := hK _ _ (.inl rfl) rfl
            simp only [actN, List.setIfInBounds_toArray, List.set_cons_zero, List.set_cons_succ] at h ⊢
            gi_wp2
            exact h
          case body =>
            rintro l pre x a' W hS1 hxo ⟨⟨⟨sp1, hJ1⟩, hKp1⟩, hD1⟩ rfl hlt
            have k1 := sp1.b1.cell
            have k3 := sp1.b3.cell
            have hM := sp1.m
            have hgb : 0 ≤ (fold3 (fold2 (fold1 pence (kidsTo ns.length ns node ns.length)).1 (fold1 pence (kidsTo ns.length ns node ns.length)).2 (sumK (kidsTo ns.length ns node ns.length)) (kidsTo ns.length ns node ns.length)) (kidsTo ns.length ns node ns.length)).1 x.1.1 ∧ (fold3 (fold2 (fold1 pence (kidsTo ns.length ns node ns.length)).1 (fold1 pence (kidsTo ns.length ns node ns.length)).2 (sumK (kidsTo ns.length ns node ns.length)) (kidsTo ns.length ns node ns.length)) (kidsTo ns.length ns node ns.length)).1 x.1.1 ≤ 1000000 := HGb.out x.1.1
            have hcall := hgive W9.heap.size (gives (fold3 (fold2 (fold1 pence (kidsTo ns.length ns node ns.length)).1 (fold1 pence (kidsTo ns.length ns node ns.length)).2 (sumK (kidsTo ns.length ns node ns.length)) (kidsTo ns.length ns node ns.length)) (kidsTo ns.length ns node ns.length)).1 pre) x.1.1 ((fold3 (fold2 (fold1 pence (kidsTo ns.length ns node ns.length)).1 (fold1 pence (kidsTo ns.length ns node ns.length)).2 (sumK (kidsTo ns.length ns node ns.length)) (kidsTo ns.length ns node ns.length)) (kidsTo ns.length ns node ns.length)).1 x.1.1) W (by have := sp.b4.lt; omega) hS1 hxo.1 hgb.1 hgb.2 hJ1 (by simp [gives]; omega)
            have Hcall := Lib.hid hcall
            clear hcall
            unfold OKp at hxo
            simp only [actN, List.setIfInBounds_toArray, List.set_cons_zero, List.set_cons_succ]
            gi_wp2_with (first
              | (gi_at_lookup; refine look_in rfl _ _ rfl _ _ _ _ rfl hM rfl (by omega) (by omega) _ rfl ?_)
              | (refine ⟨trivial, ?_⟩; refine (CallsIn.mono (CallsIn.inRound l (callsIn_wide.2 Hcall.out)) ?_); rintro e W5 ⟨⟨u, rfl⟩, hJ5, hKF5, hKp5⟩))
            exact ⟨keepsFrom_more hKF5 (by have := sp.b4.lt; omega), hKp5, ⟨⟨sp1.kp hKp5 (fun k hk => by have := (hS k hk).2; omega) (by have := sp.b4.lt; omega), by rw [gives, List.map_append]; exact hJ5⟩, hKp1.trans (hKp5.mono (by have := sp.b4.lt; omega) (fun _ _ h => h))⟩, fun D hD => (hKF5.same D _ (hDs4 D hD).1 (hD1 D hD) rfl)⟩
          case done =>
            rintro D4 W hD4 hD42 ⟨⟨⟨sp1, hJ1⟩, hKp1⟩, hD1⟩ hK4
            have k4 := sp1.b4.cell
            gi_wp2
            have hpw : (D4 :: [D3, D2, D1]).Pairwise (fun a b => a ≠ b) := List.pairwise_cons.2 ⟨fun D hD => by have := (hDs4 D hD).2.1; omega, hDp⟩
            have hall : ∀ D ∈ D4 :: [D3, D2, D1], w.heap.size + 5 ≤ D ∧ W.heap[D]? = some (.deferred (some [])) := by
              intro D hD
              rcases List.mem_cons.1 hD with rfl | hD
              · exact ⟨by have := sp.b4.lt; omega, hK4⟩
              · exact ⟨(hDs4 D hD).1, hD1 D hD⟩
            refine leaves_marks (D4 :: [D3, D2, D1]) W hpw (fun D hD => (hall D hD).2) ?_
            refine ⟨_, results_tmp rfl _ _ _, ?_⟩
            exact ⟨by rw [Hsp.out]; rfl, ⟨W9.heap.size, by have := sp.b4.lt; omega, own_putAll (hJown _) _ W hpw hall (by rw [Hsp.out]; exact hJ1)⟩, kpB_putAll _ W hKp1 (fun D hD => by have := (hall D hD).1; omega)⟩
    · have Hneg := Lib.hid hpos
      gi_wp2_with (refine ⟨trivial, ?_⟩; gi_at_call 152; refine (CallsIn.mono (callsIn_wide.2 (weights_any B c A ns node hv hl W hBW hNW)) ?_); rintro e W2 ⟨rfl, hW2⟩; have spx := sp.below hW2; have y0 := fun o => (spx.b0.alloc o).cell; have y4 := fun o => (spx.b4.alloc o).cell; have z0 := fun o o' => ((spx.b0.alloc o).alloc o').cell)
      have hDs : ∀ D ∈ [D1], w.heap.size + 5 ≤ D ∧ D < (W2.alloc (.cells #[.int .i64 (sumK (kidsTo ns.length ns node ns.length))] 3)).heap.size ∧ (W2.alloc (.cells #[.int .i64 (sumK (kidsTo ns.length ns node ns.length))] 3)).heap[D]? = some (.deferred (some [])) := by
        intro D hD
        obtain rfl : D = D1 := by simpa using hD
        refine ⟨by omega, by have := hW2.size; simp; omega, ?_⟩
        exact (Below.heap_alloc _ _ _ (by have := hW2.size; omega)).trans ((hW2.block _ hD2).trans hK)
      have spN := spx.alloc (.cells #[.int .i64 (sumK (kidsTo ns.length ns node ns.length))] 3)
      have hBN : Below w.heap.size w (W2.alloc (.cells #[.int .i64 (sumK (kidsTo ns.length ns node ns.length))] 3)) := (hB1.trans (hW2.mono hB1.size)).alloc (by have := hB1.size; have := hW2.size; omega) _
      have Hsp : Hid (splitF pence (kidsTo ns.length ns node ns.length) = ((fold1 pence (kidsTo ns.length ns node ns.length)).1, (fold1 pence (kidsTo ns.length ns node ns.length)).2)) := Lib.hid (if_neg (by have := Hneg.out; omega))
      have HGb : Hid (∀ k, 0 ≤ (fold1 pence (kidsTo ns.length ns node ns.length)).1 k ∧ (fold1 pence (kidsTo ns.length ns node ns.length)).1 k ≤ 1000000) := Lib.hid (fun k => by have := F2.out k; omega)
      have hDp : [D1].Pairwise (fun a b => a ≠ b) := by simp
      obtain ⟨WN, hWN⟩ : ∃ WN, W2.alloc (.cells #[.int .i64 (sumK (kidsTo ns.length ns node ns.length))] 3) = WN := ⟨_, rfl⟩
      rw [hWN] at hDs spN hBN ⊢
      clear hWN sp spx y0 y4 z0
      have sp := spN
      have hBel := hBN
      clear spN hBN
      have k0 := sp.b0.cell
      gi_wp2_with (refine ⟨trivial, ?_⟩; gi_at_call 185; refine (below_in Fence.wide _ _ _ trivial rfl _ _ _).mono ?_; rintro e w' ⟨rfl, rfl⟩)
      have hBc : B ≤ WN.heap.size := by have := hBel.size; omega
      have hNc : Nodes WN B A ns := hN.below (hBel.mono hB)
      have spc := sp
      have hBelc := hBel
      obtain ⟨W4, hW4⟩ : ∃ W4, (WN.alloc (.cells #[.slice A ns.length c] 155)).alloc (.cells #[.int .i64 node] 3) = W4 := ⟨_, rfl⟩
      have hItW4 : IterAt W4 B WN.heap.size (WN.heap.size + 1) A c ns node := by rw [← hW4]; exact iterAt_two hBc hNc
      have hszW4 : WN.heap.size + 1 + 1 ≤ W4.heap.size := by rw [← hW4]; simp
      have hsyW4 : W4.heap.size ≤ WN.heap.size + 1 + 1 := by rw [← hW4]; simp
      have spW4 : SpSt w.heap.size A ns.length c (.func (.func gf) #[] #[.pointer (some ⟨pb, 0, none⟩)]) (kidsTo ns.length ns node ns.length).length (fold1 pence (kidsTo ns.length ns node ns.length)).1 (fold1 pence (kidsTo ns.length ns node ns.length)).2 W4 := by rw [← hW4]; exact (spc.alloc _).alloc _
      have hBW4 : Below w.heap.size w W4 := by rw [← hW4]; exact (hBelc.alloc hBelc.size _).alloc (by have := hBelc.size; simp only [World.size_alloc]; omega) _
      have hDs4 : ∀ D ∈ [D1], w.heap.size + 5 ≤ D ∧ D < W4.heap.size ∧ W4.heap[D]? = some (.deferred (some [])) := fun D hD => by
        obtain ⟨d1, d2, d3⟩ := hDs D hD
        refine ⟨d1, by omega, ?_⟩
        rw [← hW4]
        exact (Below.heap_alloc _ _ _ (by simp; omega)).trans ((Below.heap_alloc _ _ _ d2).trans d3)
      rw [hW4]
      clear hW4 spc hBelc hNc hBc
      have hJ4 := hJ0 W4 hBW4
      refine range_kids 85 86 S B _ _ c A ns node hv rfl hItW4 (fun h => by have := (hS _ h).2; have := sp.b4.lt; omega) (fun h => by have := (hS _ h).2; have := sp.b4.lt; omega) (fun k hk => (hS k hk).1)
        (fun pre W => ((SpSt w.heap.size A ns.length c (.func (.func gf) #[] #[.pointer (some ⟨pb, 0, none⟩)]) (kidsTo ns.length ns node ns.length).length (fold1 pence (kidsTo ns.length ns node ns.length)).1 (fold1 pence (kidsTo ns.length ns node ns.length)).2 W ∧ J W4.heap.size (gives (fold1 pence (kidsTo ns.length ns node ns.length)).1 pre) W) ∧ KpB S w.heap.size w W) ∧ ∀ D ∈ [D1], W.heap[D]? = some (.deferred (some [])))
        (OwnFrom.and (OwnFrom.and (OwnFrom.and (spst_own (by have := sp.b4.lt; omega) (fun _ => _) (fun _ => _) (fun _ => _)) (fun x X Y row h1 h2 h3 => hJown W4.heap.size (gives (fold1 pence (kidsTo ns.length ns node ns.length)).1 x) X Y row h1 h2 (fun r e => ⟨by have := (h3 r e).1; have := sp.b4.lt; omega, (h3 r e).2⟩))) (KpB.ownFrom (Nat.le_refl _) (by have := sp.b4.lt; omega))) (fun x X Y row h1 h2 h3 D hD => (h2.block D (Array.getElem?_eq_some_iff.1 (h1 D hD)).1 (fun e => by have := (h3 D e.symm).1; have := (hDs4 D hD).2.1; omega)).trans (h1 D hD)))
        ⟨⟨⟨spW4, hJ4⟩, kpB_of_below hBW4⟩, fun D hD => (hDs4 D hD).2.2⟩ (fun a x a' _ => a' = actN a 85 86 20 x) (fun _ _ _ _ _ _ h _ _ => h) ?assign ?body ?done
      case assign =>
        intro l x W K hs hK
        have h := hK _ _ (.inl rfl) rfl
        simp only [actN, List.setIfInBounds_toArray, List.set_cons_zero, List.set_cons_succ] at h ⊢
        gi_wp2
        exact h
      case body =>
        rintro l pre x a' W hS1 hxo ⟨⟨⟨sp1, hJ1⟩, hKp1⟩, hD1⟩ rfl hlt
        have k1 := sp1.b1.cell
        have k3 := sp1.b3.cell
        have hM := sp1.m
        have hgb : 0 ≤ (fold1 pence (kidsTo ns.length ns node ns.length)).1 x.1.1 ∧ (fold1 pence (kidsTo ns.length ns node ns.length)).1 x.1.1 ≤ 1000000 := HGb.out x.1.1
        have hcall := hgive W4.heap.size (gives (fold1 pence (kidsTo ns.length ns node ns.length)).1 pre) x.1.1 ((fold1 pence (kidsTo ns.length ns node ns.length)).1 x.1.1) W (by have := sp.b4.lt; omega) hS1 hxo.1 hgb.1 hgb.2 hJ1 (by simp [gives]; omega)
        have Hcall := Lib.hid hcall
        clear hcall
        unfold OKp at hxo
        simp only [actN, List.setIfInBounds_toArray, List.set_cons_zero, List.set_cons_succ]
        gi_wp2_with (first
          | (gi_at_lookup; refine look_in rfl _ _ rfl _ _ _ _ rfl hM rfl (by omega) (by omega) _ rfl ?_)
          | (refine ⟨trivial, ?_⟩; refine (CallsIn.mono (CallsIn.inRound l (callsIn_wide.2 Hcall.out)) ?_); rintro e W5 ⟨⟨u, rfl⟩, hJ5, hKF5, hKp5⟩))
        exact ⟨keepsFrom_more hKF5 (by have := sp.b4.lt; omega), hKp5, ⟨⟨sp1.kp hKp5 (fun k hk => by have := (hS k hk).2; omega) (by have := sp.b4.lt; omega), by rw [gives, List.map_append]; exact hJ5⟩, hKp1.trans (hKp5.mono (by have := sp.b4.lt; omega) (fun _ _ h => h))⟩, fun D hD => (hKF5.same D _ (hDs4 D hD).1 (hD1 D hD) rfl)⟩
      case done =>
        rintro D4 W hD4 hD42 ⟨⟨⟨sp1, hJ1⟩, hKp1⟩, hD1⟩ hK4
        have k4 := sp1.b4.cell
        gi_wp2
        have hpw : (D4 :: [D1]).Pairwise (fun a b => a ≠ b) := List.pairwise_cons.2 ⟨fun D hD => by have := (hDs4 D hD).2.1; omega, hDp⟩
        have hall : ∀ D ∈ D4 :: [D1], w.heap.size + 5 ≤ D ∧ W.heap[D]? = some (.deferred (some [])) := by
          intro D hD
          rcases List.mem_cons.1 hD with rfl | hD
          · exact ⟨by have := sp.b4.lt; omega, hK4⟩
          · exact ⟨(hDs4 D hD).1, hD1 D hD⟩
        refine leaves_marks (D4 :: [D1]) W hpw (fun D hD => (hall D hD).2) ?_
        refine ⟨_, results_tmp rfl _ _ _, ?_⟩
        exact ⟨by rw [Hsp.out]; rfl, ⟨W4.heap.size, by have := sp.b4.lt; omega, own_putAll (hJown _) _ W hpw hall (by rw [Hsp.out]; exact hJ1)⟩, kpB_putAll _ W hKp1 (fun D hD => by have := (hall D hD).1; omega)⟩
end Go.Proofs.Ytmbcpmnigggbaaa.Sh
