import Derived.Test.YtmbcpmnigggbaaaPM
import Derived.Test.YtmbcpmnigggbaaaC3
import Derived.Deep.RegionLaw
import Derived.OwnWalkIn
import Derived.TacticsInMore
import Derived.LoopNIn
import Derived.LoopIn
namespace Go.Proofs.Ytmbcpmnigggbaaa
open Go.RowKit

/-! A fair at work: open 66. -/
theorem MaskOf.congr {l m : List Int} {u : Nat} (h : MaskOf l u) (e : ∀ i : Nat, i < 4 → ((i : Int) ∈ l ↔ (i : Int) ∈ m)) : MaskOf m u := ⟨h.lt, fun i hi => (h.bit i hi).trans (e i hi)⟩
/-- What is ready, ascending. -/
def readyL (h : House) (pk : List Int) (day : Int) : List Int := ((List.range h.bs.length).map fun i : Nat => (i : Int)).filter fun b => decide (b ∈ pk) && dOK h pk day b
theorem mem_readyL {h : House} {pk : List Int} {day b : Int} : b ∈ readyL h pk day ↔ (0 ≤ b ∧ b < h.bs.length) ∧ b ∈ pk ∧ dOK h pk day b = true := by
  unfold readyL
  rw [List.mem_filter, Bool.and_eq_true, decide_eq_true_eq, List.mem_map]
  constructor
  · rintro ⟨⟨i, hi, rfl⟩, h2⟩
    rw [List.mem_range] at hi
    exact ⟨⟨by omega, by omega⟩, h2⟩
  · rintro ⟨h1, h2⟩
    exact ⟨⟨b.toNat, List.mem_range.2 (by omega), by omega⟩, h2⟩
theorem ready_mask {h : House} {pk : List Int} {day : Int} {u : Nat} (hg : goodB h pk = true) (hu : MaskOf (pk.filter (dOK h pk day)) u) : MaskOf (readyL h pk day) u :=
  hu.congr fun i hi => by
    rw [List.mem_filter, mem_readyL]
    constructor
    · rintro ⟨h1, h2⟩; exact ⟨(goodB_parts hg).2.1 _ h1, h1, h2⟩
    · rintro ⟨_, h1, h2⟩; exact ⟨h1, h2⟩
/-- A lot: buyer, barrels as bits, pence. -/
def lotCells : List (Int × Nat × Int) → List Value
  | [] => []
  | x :: xs => .int .i64 x.1 :: .int .i64 (x.2.1 : Int) :: .int .i64 x.2.2 :: lotCells xs
theorem lotCells_app : ∀ a b, lotCells (a ++ b) = lotCells a ++ lotCells b
  | [], b => rfl
  | x :: a, b => by simp only [List.cons_append, lotCells, lotCells_app a b]
theorem lotCells_at : ∀ (l : List (Int × Nat × Int)) (i : Nat) (x : Int × Nat × Int), l[i]? = some x → (lotCells l)[i * 3]? = some (.int .i64 x.1) ∧ (lotCells l)[i * 3 + 1]? = some (.int .i64 (x.2.1 : Int)) ∧ (lotCells l)[i * 3 + 2]? = some (.int .i64 x.2.2)
  | [], i, x, h => by simp at h
  | y :: ys, 0, x, h => by simp at h; subst h; exact ⟨rfl, rfl, rfl⟩
  | y :: ys, i + 1, x, h => by
    have := lotCells_at ys i x (by simpa using h)
    have e : (i + 1) * 3 = i * 3 + 1 + 1 + 1 := by omega
    rw [e]
    simp only [lotCells, List.getElem?_cons_succ]
    exact this
/-- The lots of the first bids. -/
structure LotsOf (q : List Bid) (ls : List (Int × Nat × Int)) : Prop where
  len : ls.length = q.length
  at_ : ∀ (i : Nat) (x : Bid), q[i]? = some x → ∃ m, ls[i]? = some (x.who, m, x.pay) ∧ MaskOf x.bar m
theorem LotsOf.nil : LotsOf [] [] := ⟨rfl, fun i x h => by simp at h⟩
theorem LotsOf.snoc {q : List Bid} {ls : List (Int × Nat × Int)} (h : LotsOf q ls) {x : Bid} {m : Nat} (hm : MaskOf x.bar m) : LotsOf (q ++ [x]) (ls ++ [(x.who, m, x.pay)]) := by
  refine ⟨by simp [h.len], fun i y hy => ?_⟩
  by_cases hi : i < q.length
  · rw [List.getElem?_append_left hi] at hy
    obtain ⟨m', h1, h2⟩ := h.at_ i y hy
    exact ⟨m', by rw [List.getElem?_append_left (by rw [h.len]; exact hi)]; exact h1, h2⟩
  · have hlt := (List.getElem?_eq_some_iff.1 hy).1
    have e : i = q.length := by simp at hlt; omega
    subst e
    rw [List.getElem?_append_right (Nat.le_refl _), Nat.sub_self] at hy
    simp at hy; subst hy
    exact ⟨m, by rw [← h.len, List.getElem?_append_right (Nat.le_refl _), Nat.sub_self]; rfl, hm⟩
def OwnsL (W : World) (base : Nat) (v : Value) (ls : List (Int × Nat × Int)) : Prop := W.ownsRow base 191 3 v ls.length (lotCells ls)
theorem ownsL_nil (W : World) (base : Nat) : OwnsL W base (.slice none 0 0) [] := World.ownsRow_nil W base 191 3
theorem OwnsL.below_ {W W' : World} {base n : Nat} {v : Value} {l : List (Int × Nat × Int)} (h : OwnsL W base v l) (hb : Below n W W') (hn : W.heap.size ≤ n) : OwnsL W' base v l := by
  refine ⟨h.1, ?_⟩
  rcases h.2 with h2 | ⟨g, cap, cur, e, hb2, hg, h4⟩
  · exact .inl h2
  · exact .inr ⟨g, cap, cur, e, hb2, (hb.block g (Nat.lt_of_lt_of_le (Array.getElem?_eq_some_iff.1 hg).1 hn)).trans hg, h4⟩
theorem OwnsL.set_other {W : World} {base s o : Nat} {u v : Value} {l : List (Int × Nat × Int)} (h : OwnsL W base v l) (hs : s < base) : OwnsL (W.setCell ⟨s, o, none⟩ u) base v l := by
  refine ⟨h.1, ?_⟩
  rcases h.2 with h2 | ⟨g, cap, cur, e, hb2, hg, h4⟩
  · exact .inl h2
  · exact .inr ⟨g, cap, cur, e, hb2, (set_other_heap (heap_lt hg) (by omega)).trans hg, h4⟩
/-- The lots lie at A. -/
def LotsAt (W : World) (B : Nat) (A : Option Addr) (q : List Bid) : Prop :=
  q = [] ∨ ∃ b off, A = some ⟨b, off, none⟩ ∧ b < B ∧ ∀ (i : Nat) (x : Bid), q[i]? = some x → ∃ m : Nat, MaskOf x.bar m ∧ W.cell? ⟨b, off + i * 3, none⟩ = some (.int .i64 x.who) ∧ W.cell? ⟨b, off + i * 3 + 1, none⟩ = some (.int .i64 (m : Int)) ∧ W.cell? ⟨b, off + i * 3 + 2, none⟩ = some (.int .i64 x.pay)
theorem LotsAt.keep {W W' : World} {B B' : Nat} {A : Option Addr} {q : List Bid} (h : LotsAt W B A q) (hB : B ≤ B') (hk : ∀ b o, b < B → W'.cell? ⟨b, o, none⟩ = W.cell? ⟨b, o, none⟩) : LotsAt W' B' A q := by
  rcases h with h | ⟨b, off, e, hb, h⟩
  · exact .inl h
  · refine .inr ⟨b, off, e, by omega, fun i x hx => ?_⟩
    rw [hk _ _ hb, hk _ _ hb, hk _ _ hb]
    exact h i x hx
theorem LotsAt.at_ {W : World} {B : Nat} {A : Option Addr} {q : List Bid} (h : LotsAt W B A q) {i : Nat} {x : Bid} (hx : q[i]? = some x) : ∃ b off, A = some ⟨b, off, none⟩ ∧ b < B ∧ ∃ m : Nat, MaskOf x.bar m ∧ W.cell? ⟨b, off + i * 3, none⟩ = some (.int .i64 x.who) ∧ W.cell? ⟨b, off + i * 3 + 1, none⟩ = some (.int .i64 (m : Int)) ∧ W.cell? ⟨b, off + i * 3 + 2, none⟩ = some (.int .i64 x.pay) := by
  rcases h with h | ⟨b, off, e, hb, h⟩
  · subst h; simp at hx
  · exact ⟨b, off, e, hb, h i x hx⟩
theorem OwnsL.lay {W : World} {base : Nat} {v : Value} {q : List Bid} {ls : List (Int × Nat × Int)} (h : OwnsL W base v ls) (hq : LotsOf q ls) : ∃ A c, v = .slice A q.length c ∧ LotsAt W W.heap.size A q ∧ ∀ g, A = some g → base ≤ g.block := by
  rcases h.2 with ⟨rfl, h0⟩ | ⟨g, cap, cur, rfl, hb, hg, h4, h5, h6, h7⟩
  · rw [hq.len] at h0
    exact ⟨none, 0, by rw [h0], .inl (List.length_eq_zero_iff.1 h0), fun g e => by cases e⟩
  · refine ⟨some ⟨g, 0, none⟩, cap, by rw [hq.len], .inr ⟨g, 0, rfl, (Array.getElem?_eq_some_iff.1 hg).1, fun i x hx => ?_⟩, fun g' e => by cases e; exact hb⟩
    obtain ⟨m, hm, hM⟩ := hq.at_ i x hx
    obtain ⟨d1, d2, d3⟩ := lotCells_at ls i _ hm
    have c1 := World.ownsRow.cells h (g := g) rfl _ _ d1
    have c2 := World.ownsRow.cells h (g := g) rfl _ _ d2
    have c3 := World.ownsRow.cells h (g := g) rfl _ _ d3
    rw [addr_add] at c1 c2 c3
    exact ⟨m, hM, c1, c2, c3⟩
theorem info102 : (Try.prog.info? 191).map (fun i => (i.zero, i.size, i.bytes)) = some (some (.agg #[.int .i64 0, .int .i64 0, .int .i64 0]), 3, 24) := by kernel_rfl
/-- 'append(lots, l)' at a step of a region that draws its order. -/
theorem step_appL {ops : Array Oper} {o : Oper} {a : Act} {w : World} {K : Act → World → Prop} {Q : Exit → Act → World → Prop} {E : Prop} (hgd : o.guard = none) (s x : Operand)
    (ho : o.op = .call { callee := .builtin .append, args := #[s, x], argTypes := #[187, 187] }) (n₀ : Nat) (v : Value) (l : List (Int × Nat × Int)) (hs : a.eval s = v) (hown : OwnsL w n₀ v l)
    (g : Nat) (c : Nat) (k : Int × Nat × Int) (hx : a.eval x = .slice (some ⟨g, 0, none⟩) 1 c) (h0 : w.cell? ⟨g, 0, none⟩ = some (.int .i64 k.1)) (h1 : w.cell? ⟨g, 1, none⟩ = some (.int .i64 (k.2.1 : Int))) (h2 : w.cell? ⟨g, 2, none⟩ = some (.int .i64 k.2.2)) (hl : l.length ≤ 1000) (hn : n₀ ≤ w.heap.size)
    (h : ∀ v' w', OwnsL w' n₀ v' (l ++ [k]) → Below n₀ w w' → K (a.put o.dst v') w') :
    if Region.wanted o (yielded ops a.tmps) = true then Oper.wp Try.prog o a w K Q else E := by
  have hw : Region.wanted o (yielded ops a.tmps) = true := by simp [Region.wanted, hgd]
  rw [if_pos hw]
  obtain ⟨i0, hi, hz0, hz1, hz2⟩ := info_parts info102
  refine wp_append_own w s x 187 ho n₀ 191 i0 _ 3 24 Try.underlying187 hi hz0 hz1 hz2 rfl (by decide) v l.length _ hs hown ⟨g, 0, none⟩ 1 c [.int .i64 k.1, .int .i64 (k.2.1 : Int), .int .i64 k.2.2] hx rfl ?_ ?_ ?_ ?_ hn ?_
  · intro j u hj
    match j, hj with
    | 0, hj => simp at hj; subst hj; exact h0
    | 1, hj => simp at hj; subst hj; exact h1
    | 2, hj => simp at hj; subst hj; exact h2
  · intro u hu
    simp at hu
    rcases hu with rfl | rfl | rfl <;> rfl
  · unfold maxLen; omega
  · omega
  · intro v' w' g2 g3 _
    refine h v' w' ?_ (own_below hown g3 hn (Nat.le_refl _))
    unfold OwnsL
    rw [List.length_append, lotCells_app]
    exact g2
/-- The box of a fair at work. -/
def OBox (W : World) (b : Nat) (F : FL) (f : Fair) (v : Value) (u : Nat) : Prop := W.heap[b]? = some (.cells #[.slice F.L.Ak f.h.ks.length F.L.ck, .int .i64 f.h.fl, .slice F.L.Ap f.h.ps.length F.L.cp, .slice F.L.Ab f.h.bs.length F.L.cb, .slice F.Ap f.pk.length F.cp, .int .i64 f.day, .int .i64 f.nb, .slice F.Aq f.q.length F.cq, v, .int .i64 (u : Int)] 189 (0, 0))
theorem OBox.cells {W : World} {b : Nat} {F : FL} {f : Fair} {v : Value} {u : Nat} (hb : OBox W b F f v u) : W.cell? ⟨b, 0, none⟩ = some (.slice F.L.Ak f.h.ks.length F.L.ck) ∧ W.cell? ⟨b, 1, none⟩ = some (.int .i64 f.h.fl) ∧ W.cell? ⟨b, 2, none⟩ = some (.slice F.L.Ap f.h.ps.length F.L.cp) ∧ W.cell? ⟨b, 3, none⟩ = some (.slice F.L.Ab f.h.bs.length F.L.cb) ∧ W.cell? ⟨b, 4, none⟩ = some (.slice F.Ap f.pk.length F.cp) ∧ W.cell? ⟨b, 5, none⟩ = some (.int .i64 f.day) ∧ W.cell? ⟨b, 6, none⟩ = some (.int .i64 f.nb) ∧ W.cell? ⟨b, 7, none⟩ = some (.slice F.Aq f.q.length F.cq) ∧ W.cell? ⟨b, 8, none⟩ = some v ∧ W.cell? ⟨b, 9, none⟩ = some (.int .i64 (u : Int)) := by
  simp [World.cell?, show W.heap[b]? = _ from hb]
theorem OBox.of {W W' : World} {b : Nat} {F : FL} {f : Fair} {v : Value} {u : Nat} (hb : OBox W b F f v u) (e : W'.heap[b]? = W.heap[b]?) : OBox W' b F f v u := e.trans hb
theorem OBox.lt {W : World} {b : Nat} {F : FL} {f : Fair} {v : Value} {u : Nat} (hb : OBox W b F f v u) : b < W.heap.size := heap_lt hb
theorem OBox.set8 {W : World} {b : Nat} {F : FL} {f : Fair} {v : Value} {u : Nat} (hb : OBox W b F f v u) (x : Value) : OBox (W.setCell ⟨b, 8, none⟩ x) b F f x u := by
  unfold OBox; rw [heap_set x hb]; simp
theorem OBox.set9 {W : World} {b : Nat} {F : FL} {f : Fair} {v : Value} {u : Nat} (hb : OBox W b F f v u) (x : Nat) : OBox (W.setCell ⟨b, 9, none⟩ (.int .i64 (x : Int))) b F f v x := by
  unfold OBox; rw [heap_set _ hb]; simp
theorem OBox.uniq {W : World} {b : Nat} {F : FL} {f : Fair} {v v' : Value} {u u' : Nat} (h : OBox W b F f v u) (k : OBox W b F f v' u') : v = v' := by
  have h1 := h.cells.2.2.2.2.2.2.2.2.1
  have h2 := k.cells.2.2.2.2.2.2.2.2.1
  rw [h1] at h2
  exact Option.some.inj h2
/-- A fair at work: what is ready is rd. -/
structure OpenAt (W : World) (b : Nat) (F : FL) (f : Fair) (rd : List Int) : Prop where
  ex : ∃ A c u, OBox W b F f (.slice A f.q.length c) u ∧ LotsAt W W.heap.size A f.q ∧ MaskOf rd u
  ne : ∀ A c u, OBox W b F f (.slice A f.q.length c) u → ∀ g, A = some g → g.block ≠ b
theorem OpenAt.lt {W : World} {b : Nat} {F : FL} {f : Fair} {rd : List Int} (h : OpenAt W b F f rd) : b < W.heap.size := by
  obtain ⟨A, c, u, h1, _⟩ := h.ex
  exact h1.lt
theorem OpenAt.below {W W' : World} {b : Nat} {F : FL} {f : Fair} {rd : List Int} (h : OpenAt W b F f rd) (hb : Below W.heap.size W W') : OpenAt W' b F f rd := by
  obtain ⟨A, c, u, h1, h2, h3⟩ := h.ex
  exact ⟨⟨A, c, u, h1.of (hb.block _ h1.lt), h2.keep hb.size fun b o hlt => hb.cell (p := ⟨b, o, none⟩) hlt, h3⟩, fun A c u hO => h.ne A c u (hO.of (hb.block _ h1.lt).symm)⟩
/-- The error of a fair that is asked for something. -/
def askF (f : Fair) (is : Bool) : Int := if validF f = false then 90 else if is = false then 1 else 0
theorem askF_ok {f : Fair} {is : Bool} (h : askF f is = 0) : validF f = true ∧ is = true := by
  unfold askF at h
  split at h
  · cases h
  · split at h
    · cases h
    · rename_i h1 h2; exact ⟨by simpa using h1, by simpa using h2⟩
theorem askF_bad {f : Fair} (is : Bool) (h : validF f = false) : askF f is = 90 := if_pos h
theorem askF_arg {f : Fair} (h : validF f = true) : askF f false = 1 := by unfold askF; rw [if_neg (by simp [h]), if_pos rfl]
theorem askF_yes {f : Fair} (h : validF f = true) : askF f true = 0 := by unfold askF; rw [if_neg (by simp [h]), if_neg (by simp)]
/-- What a valid fair is. -/
structure FOK (f : Fair) : Prop where
  h : validH f.h = true
  p : goodB f.h f.pk = true
  d0 : 0 ≤ f.day
  d1 : f.day ≤ 20
  n0 : 0 ≤ f.nb
  n1 : f.nb ≤ 4
  ql : f.q.length ≤ 8
  bl : f.h.bs.length ≤ 4
  who : ∀ b ∈ f.q, 0 ≤ b.who ∧ b.who < f.nb
  pay : ∀ b ∈ f.q, 0 ≤ b.pay ∧ b.pay ≤ 99
  ne : ∀ b ∈ f.q, b.bar ≠ []
  bar : ∀ b ∈ f.q, ∀ x ∈ b.bar, 0 ≤ x ∧ x < f.h.bs.length
theorem FOK.of {f : Fair} (h : validF f = true) : FOK f := by
  unfold validF packOK numsOK at h
  simp only [Bool.and_eq_true, inR_true, decide_eq_true_eq, List.all_eq_true] at h
  obtain ⟨⟨h1, h2⟩, ⟨h3, h4, h5⟩, h6⟩ := h
  have hb := (HOK.ofValid h1).bl
  have hq : ∀ b ∈ f.q, (0 ≤ b.who ∧ b.who ≤ f.nb - 1) ∧ (0 ≤ b.pay ∧ b.pay ≤ 99) ∧ b.bar ≠ [] ∧ riseB b.bar f.h.bs.length = true := fun b hb => by
    have := h6 b hb
    simpa only [bidOK, Bool.and_eq_true, inR_true, decide_eq_true_eq] using this
  exact ⟨h1, h2, h3.1, h3.2, h4.1, h4.2, h5, hb, fun b hb => by have := (hq b hb).1; omega, fun b hb => (hq b hb).2.1, fun b hb => (hq b hb).2.2.1, fun b hb => riseB_in (hq b hb).2.2.2⟩
theorem FOK.pos {f : Fair} (h : FOK f) : ∀ b ∈ f.q, 0 ≤ b.pay := fun b hb => (h.pay b hb).1
theorem open_no (F : FL) (f : Fair) (is : Bool) (hn : FN f) (w : World) (hF : FairAt w w.heap.size F f) (h : askF f is ≠ 0) :
    Calls Try.prog 89 #[F.enc f, .bool is] w fun e w' => e = .returned (.tuple #[.pointer none, .int .i64 (askF f is)]) ∧ Below w.heap.size w w' := by
  have hbw := al_below w (.cells #[.slice F.L.Ak f.h.ks.length F.L.ck, .int .i64 f.h.fl, .slice F.L.Ap f.h.ps.length F.L.cp, .slice F.L.Ab f.h.bs.length F.L.cb, .slice F.Ap f.pk.length F.cp, .int .i64 f.day, .int .i64 f.nb, .slice F.Aq f.q.length F.cq] 62)
  have HB := Lib.hid (FBox.new w F f)
  obtain ⟨c0, c1, c2, c3, c4, c5, c6, c7⟩ := (FBox.new w F f).cells
  obtain ⟨W0, hW0⟩ : ∃ W0, w.alloc (.cells #[.slice F.L.Ak f.h.ks.length F.L.ck, .int .i64 f.h.fl, .slice F.L.Ap f.h.ps.length F.L.cp, .slice F.L.Ab f.h.bs.length F.L.cb, .slice F.Ap f.pk.length F.cp, .int .i64 f.day, .int .i64 f.nb, .slice F.Aq f.q.length F.cq] 62) = W0 := ⟨_, rfl⟩
  rw [hW0] at hbw HB c0 c1 c2 c3 c4 c5 c6 c7
  have HBW := Lib.hid hbw
  have HW0 := Lib.hid hW0
  have HF := Lib.hid (hF.below hbw)
  clear hbw hW0 hF
  have HC := Lib.hid (scheck_any F f hn W0 HF.out)
  clear hn
  cases hv : validF f
  · rw [ckF_no hv] at HC
    rw [askF_bad is hv]
    clear hv h
    go_enter Try.func89, Try.ntmps89
    go_upto_region 1 with (fail)
    have e := HW0.out
    rw [e]
    clear e
    go_wp2_with (go_at_call 138; refine HC.out.mono ?_; rintro e w1 ⟨rfl, hb1⟩; have B1 := Lib.hid hb1; clear hb1)
    go_ret2
    exact ⟨rfl, hb0to HBW.out B1.out⟩
  · rw [ckF_yes hv] at HC
    cases is with
    | true => exact absurd (askF_yes hv) h
    | false =>
      rw [askF_arg hv]
      clear hv h
      go_enter Try.func89, Try.ntmps89
      go_upto_region 1 with (fail)
      have e := HW0.out
      rw [e]
      clear e
      go_wp2_with (go_at_call 138; refine HC.out.mono ?_; rintro e w1 ⟨rfl, hb1⟩; have B1 := Lib.hid hb1; clear hb1)
      go_ret2
      exact ⟨rfl, hb0to HBW.out B1.out⟩

open Go.RowKit

theorem OwnsL.slice {W : World} {base : Nat} {v : Value} {ls : List (Int × Nat × Int)} (h : OwnsL W base v ls) : ∃ A c, v = .slice A ls.length c := by
  rcases h.2 with ⟨rfl, h0⟩ | ⟨g, cap, cur, rfl, hb, hg, h4, h5, h6, h7⟩
  · exact ⟨none, 0, by rw [h0]⟩
  · exact ⟨_, _, rfl⟩
theorem rows_below1 (w : World) (o : Obj) : Below w.heap.size w (w.alloc o).drew := ((Below.refl _ _).alloc (Nat.le_refl _) o).drew
/-- A lot under way: its block. -/
def LBox (W : World) (g : Nat) (x : Bid) (m : Nat) : Prop := W.heap[g]? = some (.cells #[.int .i64 x.who, .int .i64 (m : Int), .int .i64 x.pay] 191 (0, 0))
theorem LBox.cells {W : World} {g : Nat} {x : Bid} {m : Nat} (h : LBox W g x m) : W.cell? ⟨g, 0, none⟩ = some (.int .i64 x.who) ∧ W.cell? ⟨g, 1, none⟩ = some (.int .i64 (m : Int)) ∧ W.cell? ⟨g, 2, none⟩ = some (.int .i64 x.pay) := by
  simp [World.cell?, show W.heap[g]? = _ from h]
theorem LBox.fz {W : World} {g : Nat} {x : Bid} {m : Nat} (h : LBox W g x m) (o : Nat) : W.frozen? ⟨g, o, none⟩ = false := frozen_of_heap h o
theorem LBox.set {W : World} {g : Nat} {x : Bid} {m : Nat} (h : LBox W g x m) (n : Nat) : LBox (W.setCell ⟨g, 1, none⟩ (.int .i64 (n : Int))) g x n := by
  unfold LBox; rw [heap_set _ h]; simp
set_option maxRecDepth 100000 in
set_option maxHeartbeats 4000000 in
theorem open_yes (F : FL) (f : Fair) (is : Bool) (hn : FN f) (w : World) (hF : FairAt w w.heap.size F f) (h : askF f is = 0) :
    Calls Try.prog 89 #[F.enc f, .bool is] w fun e w' => (∃ b, e = .returned (.tuple #[.pointer (some ⟨b, 0, none⟩), .int .i64 0]) ∧ w.heap.size ≤ b ∧ OpenAt w' b F f (readyL f.h f.pk f.day)) ∧ Below w.heap.size w w' := by
  have hbw := al_below w (.cells #[.slice F.L.Ak f.h.ks.length F.L.ck, .int .i64 f.h.fl, .slice F.L.Ap f.h.ps.length F.L.cp, .slice F.L.Ab f.h.bs.length F.L.cb, .slice F.Ap f.pk.length F.cp, .int .i64 f.day, .int .i64 f.nb, .slice F.Aq f.q.length F.cq] 62)
  have HB := Lib.hid (FBox.new w F f)
  obtain ⟨c0, c1, c2, c3, c4, c5, c6, c7⟩ := (FBox.new w F f).cells
  obtain ⟨W0, hW0⟩ : ∃ W0, w.alloc (.cells #[.slice F.L.Ak f.h.ks.length F.L.ck, .int .i64 f.h.fl, .slice F.L.Ap f.h.ps.length F.L.cp, .slice F.L.Ab f.h.bs.length F.L.cb, .slice F.Ap f.pk.length F.cp, .int .i64 f.day, .int .i64 f.nb, .slice F.Aq f.q.length F.cq] 62) = W0 := ⟨_, rfl⟩
  rw [hW0] at hbw HB c0 c1 c2 c3 c4 c5 c6 c7
  have HBW := Lib.hid hbw
  have HW0 := Lib.hid hW0
  have HF := Lib.hid (hF.below hbw)
  clear hbw hW0 hF
  have HC := Lib.hid (scheck_any F f hn W0 HF.out)
  obtain ⟨hv, rfl⟩ := askF_ok h
  rw [ckF_yes hv] at HC
  have hfo := FOK.of hv
  have H98 := Lib.hid (fun W hW hP => ready_any F f hn hfo.h f.pk hfo.p F.Ap F.cp f.day W hW hP)
  have HFO := Lib.hid hfo
  have hql := hfo.ql
  have HN := Lib.hid hn
  clear hn hv h hfo
  obtain ⟨L, Ap, cp, Aq, cq⟩ := F
  go_enter Try.func89, Try.ntmps89
  go_upto_region 1 with (fail)
  have e := HW0.out
  rw [e]
  clear e
  go_wp2_with (go_at_call 138; refine HC.out.mono ?_; rintro e w1 ⟨rfl, hb1⟩; have B1 := Lib.hid hb1; obtain ⟨r0, r1, r2, r3, r4, r5, r6, r7⟩ := (HB.out.of (hb1.block _ HB.out.lt)).cells; clear hb1)
  go_region_held3 (fun w' => w'.cell? ⟨w.heap.size, 0, none⟩ = some (.slice L.Ak f.h.ks.length L.ck) ∧ w'.cell? ⟨w.heap.size, 1, none⟩ = some (.int .i64 f.h.fl) ∧ w'.cell? ⟨w.heap.size, 2, none⟩ = some (.slice L.Ap f.h.ps.length L.cp) ∧ w'.cell? ⟨w.heap.size, 3, none⟩ = some (.slice L.Ab f.h.bs.length L.cb) ∧ w'.cell? ⟨w.heap.size, 4, none⟩ = some (.slice Ap f.pk.length cp) ∧ w'.cell? ⟨w.heap.size, 5, none⟩ = some (.int .i64 f.day) ∧ w'.cell? ⟨w.heap.size, 6, none⟩ = some (.int .i64 f.nb) ∧ w'.cell? ⟨w.heap.size, 7, none⟩ = some (.slice Aq f.q.length cq)) (first | go_keep)
    (first
      | (go_at_call 139; refine (H98.out w1.drew (HF.out.below (hb0to B1.out (drew_below w1))) (HF.out.below (hb0to B1.out (drew_below w1))).p).mono ?_; rintro e w2 ⟨⟨u, rfl, hu⟩, hb2⟩; have B2 := Lib.hid (hb0to B1.out (hb0to (drew_below w1) hb2)); have HU := Lib.hid hu; obtain ⟨r0, r1, r2, r3, r4, r5, r6, r7⟩ := (HB.out.of (B2.out.block _ HB.out.lt)).cells; clear hb2 hu))
  all_goals
    have hob : OBox (w2.alloc (.cells #[.slice L.Ak f.h.ks.length L.ck, .int .i64 f.h.fl, .slice L.Ap f.h.ps.length L.cp, .slice L.Ab f.h.bs.length L.cb, .slice Ap f.pk.length cp, .int .i64 f.day, .int .i64 f.nb, .slice Aq f.q.length cq, .slice none 0 0, .int .i64 (u : Int)] 189)) w2.heap.size ⟨L, Ap, cp, Aq, cq⟩ f (.slice none 0 0) u := World.alloc_heap_new w2 _
    have hb3 := hb0to B2.out (al_below w2 (.cells #[.slice L.Ak f.h.ks.length L.ck, .int .i64 f.h.fl, .slice L.Ap f.h.ps.length L.cp, .slice L.Ab f.h.bs.length L.cb, .slice Ap f.pk.length cp, .int .i64 f.day, .int .i64 f.nb, .slice Aq f.q.length cq, .slice none 0 0, .int .i64 (u : Int)] 189))
    obtain ⟨W3, hW3⟩ : ∃ W3, w2.alloc (.cells #[.slice L.Ak f.h.ks.length L.ck, .int .i64 f.h.fl, .slice L.Ap f.h.ps.length L.cp, .slice L.Ab f.h.bs.length L.cb, .slice Ap f.pk.length cp, .int .i64 f.day, .int .i64 f.nb, .slice Aq f.q.length cq, .slice none 0 0, .int .i64 (u : Int)] 189) = W3 := ⟨_, rfl⟩
    rw [hW3] at hob hb3
    have hbo1 : W0.heap.size ≤ w2.heap.size := B2.out.size
    have HOB := Lib.hid hob
    have HB3 := Lib.hid hb3
    have HW3 := Lib.hid hW3
    have r7' := (HB.out.of (HB3.out.block _ HB.out.lt)).cells.2.2.2.2.2.2.2
    clear hob hb3 hW3 r0 r1 r2 r3 r4 r5 r6 r7 c0 c1 c2 c3 c4 c5 c6 c7
    have e := HW3.out
    rw [e]
    clear e
    go_wp2_with (fail)
    clear r7'
    go_loopw [32] (fun i wr => ∃ k : Nat, k ≤ f.q.length ∧ i = .int .i64 k ∧ (∃ v ls, OBox wr w2.heap.size ⟨L, Ap, cp, Aq, cq⟩ f v u ∧ OwnsL wr (w2.heap.size + 1) v ls ∧ Hid (LotsOf (f.q.take k) ls)) ∧ Hid (Below W0.heap.size W0 wr)) (fun i _ => f.q.length - (intOf i).toNat)
    case atStart => exact ⟨0, Nat.zero_le _, rfl, ⟨_, [], HOB.out, ownsL_nil _ _, Lib.hid LotsOf.nil⟩, HB3⟩
    case round =>
      obtain ⟨k, hk, rfl, ⟨v, ls, hO, hL, hls⟩, hb⟩ := hrel
      by_cases hlt : k < f.q.length
      · obtain ⟨x, hx⟩ : ∃ x, f.q[k]? = some x := ⟨_, List.getElem?_eq_getElem hlt⟩
        obtain ⟨bk, ok, A', c', rfl, hbk, d1, d2, d3, hA', hI⟩ := HF.out.q.at_ hx
        have e1 := below_cell hb.out d1
        have e2 := below_cell hb.out d2
        have e3 := below_cell hb.out d3
        have hxm := List.mem_of_getElem? hx
        have hbl := HN.out.b x hxm
        have HIN := Lib.hid (HFO.out.bar x hxm)
        have hb4 := HFO.out.bl
        have HX := Lib.hid hx
        have HI := Lib.hid hI
        have HO := Lib.hid hO
        have HL := Lib.hid hL
        have hobl : w2.heap.size < wr.heap.size := hO.lt
        clear d1 d2 d3 hA' hI hxm hx hO hL
        obtain ⟨wo, rfl⟩ : ∃ wo : World, wo = wr := ⟨_, rfl⟩
        go_wp2_with (fail)
        go_loopw [44] (fun i wq => ∃ j : Nat, j ≤ x.bar.length ∧ i = .int .i64 j ∧ (∃ m, LBox wq (wo.heap.size + 1) x m ∧ Hid (MaskOf (x.bar.take j) m)) ∧ Hid (Below wo.heap.size wo wq)) (fun i _ => x.bar.length - (intOf i).toNat)
        case atStart => exact ⟨0, Nat.zero_le _, rfl, ⟨0, heap_new2 _ _ _, Lib.hid MaskOf.nil⟩, Lib.hid (hb0to (al_below _ _) (al_below _ _))⟩
        case round =>
          obtain ⟨j, hj, rfl, ⟨m, hM, hm⟩, hbq⟩ := hrel
          by_cases hjl : j < x.bar.length
          · obtain ⟨y, hy⟩ : ∃ y, x.bar[j]? = some y := ⟨_, List.getElem?_eq_getElem hjl⟩
            obtain ⟨b1, o1, rfl, b1lt, t1⟩ := HI.out.at_ hy
            have u1 := below_cell (hb0to hb.out hbq.out) t1
            obtain ⟨yn, rfl⟩ := Int.eq_ofNat_of_zero_le (HIN.out y (List.mem_of_getElem? hy)).1
            have hyn : yn < 4 := by have := (HIN.out _ (List.mem_of_getElem? hy)).2; omega
            obtain ⟨k0, k1, k2⟩ := hM.cells
            have k3 := hM.fz 1
            have HT := Lib.hid (show x.bar.take (j + 1) = x.bar.take j ++ [(yn : Int)] from (take_snoc_next hy).symm)
            have HSH := Lib.hid (one_shl yn (by omega))
            have HOR := Lib.hid (or_bits m hm.out.lt (1 <<< yn) (shl_lt yn hyn))
            have HMX := Lib.hid hM
            clear t1 hy hM
            go_wp2_with (fail)
            go_region
            all_goals
              go_wp2_with (fail)
              go_roundw
              case rel => exact ⟨j + 1, by omega, by go_num, ⟨m ||| (1 <<< yn), (by have := HMX.out.set (m ||| (1 <<< yn)); rw [← HOR.out, ← HSH.out] at this; exact this), Lib.hid (by rw [HT.out]; exact hm.out.snoc hyn)⟩, Lib.hid (Below.drew (hbq.out.setCell (by show wo.heap.size ≤ wo.heap.size + 1; omega) _))⟩
              case measure => simp [intOf]; omega
          · obtain rfl : j = x.bar.length := by omega
            have hm2 := hm.out
            rw [List.take_length] at hm2
            have HMM := Lib.hid hm2
            obtain ⟨k0, k1, k2⟩ := hM.cells
            have HOq := Lib.hid (HO.out.of (hbq.out.block _ hobl))
            obtain ⟨_, _, _, _, _, _, _, _, o8, _⟩ := HOq.out.cells
            have hLq := HL.out.below_ hbq.out (Nat.le_refl _)
            have HLq := Lib.hid hLq
            have o9 := frozen_of_heap HOq.out 8
            clear hm2 hm hLq hM
            go_wp2_with (fail)
            have HLA := Lib.hid (HLq.out.below_ (rows_below1 wr (.cells #[.int .i64 x.who, .int .i64 (m : Int), .int .i64 x.pay] 191)) (Nat.le_refl _))
            have hll : ls.length ≤ 1000 := by have := hls.out.len; rw [List.length_take] at this; omega
            have hwz : w2.heap.size + 1 ≤ wr.heap.size := by have := hbq.out.size; omega
            have hne2 : ¬ w2.heap.size = wr.heap.size := by omega
            have hlt2 : w2.heap.size < wr.heap.size := by omega
            go_region_law (refine step_appL rfl (.tmp 59) (.tmp 61) (by rfl) (w2.heap.size + 1) v ls (by rfl) HLA.out wr.heap.size 1 (x.who, m, x.pay) (by rfl) (by simp [go_sem]) (by simp [go_sem]) (by simp [go_sem]) hll (by simp; omega) ?_; intro v' w' hown' hb'; obtain ⟨A9, c9, rfl⟩ := hown'.slice; have hO' : OBox w' w2.heap.size ⟨L, Ap, cp, some ⟨bk, ok, none⟩, cq⟩ f v u := HOq.out.of ((hb'.block _ (Nat.lt_succ_self _)).trans (Below.heap_alloc _ _ _ HOq.out.lt)); have p8 := hO'.cells.2.2.2.2.2.2.2.2.1; have p9 := frozen_of_heap hO' 8)
            all_goals
              have hTK := (take_snoc_next HX.out).symm
              have hown2 : OwnsL w' (w2.heap.size + 1) (.slice A9 (ls.length + 1) c9) (ls ++ [(x.who, m, x.pay)]) := by have h := hown'; rw [List.length_append] at h; exact h
              go_wp2_with (fail)
              go_roundw
              case rel => exact ⟨k + 1, by omega, by go_num, ⟨_, _, hO'.set8 _, hown2.set_other (Nat.lt_succ_self _), Lib.hid (by rw [hTK]; exact hls.out.snoc HMM.out)⟩, Lib.hid (((hb0to (hb0to hb.out hbq.out) (rows_below1 wr (.cells #[.int .i64 x.who, .int .i64 (m : Int), .int .i64 x.pay] 191))).trans (hb'.mono (by omega))).setCell (by show W0.heap.size ≤ w2.heap.size; omega) _)⟩
              case measure => simp [intOf]; omega
      · obtain rfl : k = f.q.length := by omega
        have hls2 := hls.out
        rw [List.take_length] at hls2
        obtain ⟨A, c, rfl, hAt, hge⟩ := hL.lay hls2
        have HGE := Lib.hid hge
        have HAT := Lib.hid hAt
        have HOO := Lib.hid hO
        clear hls hls2 hAt hL hO hge
        go_wp2_with (fail)
        go_ret2
        exact ⟨⟨w2.heap.size, rfl, Nat.le_trans HBW.out.size hbo1, ⟨⟨A, c, u, HOO.out, HAT.out, ready_mask HFO.out.p HU.out⟩, fun A' c' u' hO' g eg => by have e := HOO.out.uniq hO'; cases e; have := HGE.out g eg; omega⟩⟩, hb0to HBW.out hb.out⟩

end Go.Proofs.Ytmbcpmnigggbaaa
namespace Go.Proofs.Ytmbcpmnigggbaaa
open Go.RowKit

/-! brings 91. -/
theorem bits_lt {n m i : Nat} (h : i ∈ bitsL n m) : i < n := (mem_bits.1 h).1
theorem br_no {q : List Bid} {rd : List Int} {l : List Nat} {k i : Nat} (hk : l[k]? = some i) (h : ¬ SaleL q rd (l.take k ++ [i])) : brV q rd l = -1 := by
  refine brV_no fun hs => h ?_
  have e : l = (l.take k ++ [i]) ++ l.drop (k + 1) := by
    obtain ⟨h1, h2⟩ := List.getElem?_eq_some_iff.1 hk
    rw [List.append_assoc, ← h2, List.singleton_append, ← List.drop_eq_getElem_cons h1, List.take_append_drop]
  rw [e] at hs
  exact sale_pre hs
theorem bits_before {n m k i : Nat} (h : (bitsL n m)[k]? = some i) : ∀ j ∈ (bitsL n m).take k, j < i := fun j hj => by
  obtain ⟨h1, h2⟩ := List.getElem?_eq_some_iff.1 h
  obtain ⟨t, ht, e⟩ := List.mem_take_iff_getElem.1 hj
  have := List.pairwise_iff_getElem.1 (bits_up n m) t k (by omega) h1 (by omega)
  rw [e, h2] at this; exact this
theorem bd_next {n x k : Int} (h0 : 0 ≤ n) (h1 : n ≤ 99 * k) (h2 : 0 ≤ x) (h3 : x ≤ 99) : 0 ≤ n + x ∧ n + x ≤ 99 * (k + 1) := by omega
set_option maxRecDepth 100000 in
set_option maxHeartbeats 4000000 in
theorem brings_any (F : FL) (f : Fair) (hf : FOK f) (rd : List Int) (b : Nat) (m : Nat) (hm : m < 2 ^ f.q.length) (w : World) (hO : OpenAt w b F f rd) :
    Calls Try.prog 183 #[.pointer (some ⟨b, 0, none⟩), .int .i64 (m : Int)] w fun e w' => e = .returned (.int .i64 (brV f.q rd (bitsL f.q.length m))) ∧ Below w.heap.size w w' := by
  have hm8 : m < 256 := Nat.lt_of_lt_of_le hm (pow_eight hf.ql)
  have hbe := bits_eight hf.ql hm
  have H69 := Lib.hid (by have := list_any m hm8 w; rw [hbe] at this; exact this)
  obtain ⟨Al, cl, r, hOB, hLA, hR⟩ := hO.ex
  have HOB := Lib.hid hOB
  have HLA := Lib.hid hLA
  have HR := Lib.hid hR
  have hr16 := hR.lt
  have HFO := Lib.hid hf
  have hql := hf.ql
  have HBU := Lib.hid (fun (k i : Nat) => bits_before (n := f.q.length) (m := m) (k := k) (i := i))
  have HMB := Lib.hid (fun i => bits_lt (n := f.q.length) (m := m) (i := i))
  have hlen := bits_len f.q.length m
  obtain ⟨l, hl⟩ : ∃ l, bitsL f.q.length m = l := ⟨_, rfl⟩
  rw [hl] at H69 HBU HMB hlen ⊢
  clear hO hOB hLA hR hf hbe hl hm
  go_enter Try.func183, Try.ntmps183
  go_wp2_with (go_at_call 93; refine H69.out.mono ?_; rintro e w1 ⟨⟨v0, rfl, hv0⟩, hb1⟩; have B1 := Lib.hid hb1; obtain ⟨A1, c1, rfl, _, _, hI1⟩ := hv0.lay; rw [intsN_len]; have HI1 := Lib.hid hI1.at_; clear hb1 hv0 hI1)
  go_loopw [14, 5, 6, 7] (fun i bv bu bn wr => ∃ (k u v : Nat) (n : Int), k ≤ l.length ∧ i = .int .i64 k ∧ bv = .int .i64 (v : Int) ∧ bu = .int .i64 (u : Int) ∧ bn = .int .i64 n ∧ 0 ≤ n ∧ n ≤ 99 * (k : Int) ∧ Hid (BrTo f.q rd (l.take k) u v n) ∧ Hid (Below w1.heap.size w1 wr)) (fun i _ _ _ _ => l.length - (intOf i).toNat)
  case atStart => exact ⟨0, 0, 0, 0, Nat.zero_le _, rfl, rfl, rfl, rfl, by omega, by omega, Lib.hid (BrTo.nil _ _), Lib.hid (Below.refl _ _)⟩
  case round =>
    obtain ⟨k, u, v, n, hk, rfl, rfl, rfl, rfl, hn0, hn1, hbr, hb⟩ := hrel
    by_cases hlt : k < l.length
    · obtain ⟨i, hi⟩ : ∃ i, l[k]? = some i := ⟨_, List.getElem?_eq_getElem hlt⟩
      have hiq : i < f.q.length := HMB.out i (List.mem_of_getElem? hi)
      obtain ⟨x, hx⟩ : ∃ x, f.q[i]? = some x := ⟨_, List.getElem?_eq_getElem hiq⟩
      have hxm := List.mem_of_getElem? hx
      have hwho := HFO.out.who x hxm
      have hpay := HFO.out.pay x hxm
      have hnb := HFO.out.n1
      have hbl := HFO.out.bl
      have hbar := HFO.out.bar x hxm
      obtain ⟨wn, hwn⟩ := Int.eq_ofNat_of_zero_le hwho.1
      have hwn4 : wn < 4 := by omega
      obtain ⟨bi, oi, eA, blt, d0⟩ := HI1.out.at_ (intsN_at hi)
      have e0 := below_cell hb.out d0
      obtain ⟨lb, ol, eL, lblt, mb, hmb, d1, d2, d3⟩ := HLA.out.at_ hx
      have hbw := hb0to B1.out hb.out
      have e1 := below_cell hbw d1
      have e2 := below_cell hbw d2
      have e3 := below_cell hbw d3
      rw [hwn] at e1
      subst eL
      subst eA
      obtain ⟨_, _, _, _, _, _, _, _, g8, g9⟩ := (HOB.out.of (hbw.block _ HOB.out.lt)).cells
      have hu16 := hbr.out.bu.lt
      have hv16 := hbr.out.bv.lt
      have hm16 := hmb.lt
      have HIF := hbr.out.iff (HBU.out k i hi) hx hwn hwn4 hmb (fun y hy => by have := hbar y hy; omega) HR.out
      have HT := Lib.hid (show l.take (k + 1) = l.take k ++ [i] from (take_snoc_next hi).symm)
      have HSH := Lib.hid (one_shl wn (by omega))
      have HOR1 := Lib.hid (or_bits u hu16 (1 <<< wn) (shl_lt wn hwn4))
      have HOR2 := Lib.hid (or_bits v hv16 mb hm16)
      have HAN := and_bits v hv16 mb hm16
      have HAD := andnot_bits mb hm16 r hr16
      have HBD := Lib.hid (bd_next hn0 hn1 hpay.1 hpay.2)
      have hhas := fun W => has_any u wn (by omega) (by omega) W
      have HI := Lib.hid hi
      have HMBK := Lib.hid hmb
      have HX := Lib.hid hx
      have HWN := Lib.hid hwn
      clear hi hx hmb d0 d1 d2 d3 hbar hxm hbw hwn hwho
      cases hA : u.testBit wn
      · rw [hA] at hhas
        have H102 := Lib.hid hhas
        by_cases hB : v &&& mb = 0
        · by_cases hC : mb &&& (15 - r) = 0
          · have HNX := Lib.hid (show BrTo f.q rd (l.take (k + 1)) (u ||| (1 <<< wn)) (v ||| mb) (n + x.pay) by rw [HT.out]; exact hbr.out.next (HIF.2 ⟨hA, hB, hC⟩) HX.out HWN.out hwn4 HMBK.out)
            have hd2 : (bits BinOp.and IntKind.i64 (v : Int) (mb : Int) != 0) = false := by rw [HAN, hB]; rfl
            have hd3 : (bits BinOp.andNot IntKind.i64 (mb : Int) (r : Int) != 0) = false := by rw [HAD, hC]; rfl
            clear hhas hA hB hC HIF HAN HAD
            as_aux_lemma =>
            go_upto_region 7 with (fail)
            obtain ⟨W5, hW5⟩ : ∃ W5, wr.alloc (.cells #[.int .i64 (wn : Int), .int .i64 (mb : Int), .int .i64 x.pay] 191) = W5 := ⟨_, rfl⟩
            have hb5 := al_below wr (.cells #[.int .i64 (wn : Int), .int .i64 (mb : Int), .int .i64 x.pay] 191)
            have z0 := cell_of_heap (o := 0) (heap_new1 wr (.cells #[.int .i64 (wn : Int), .int .i64 (mb : Int), .int .i64 x.pay] 191)) rfl
            have z1 := cell_of_heap (o := 1) (heap_new1 wr (.cells #[.int .i64 (wn : Int), .int .i64 (mb : Int), .int .i64 x.pay] 191)) rfl
            have z2 := cell_of_heap (o := 2) (heap_new1 wr (.cells #[.int .i64 (wn : Int), .int .i64 (mb : Int), .int .i64 x.pay] 191)) rfl
            rw [hW5] at hb5 z0 z1 z2 ⊢
            have z9 := below_cell hb5 g9
            have y0 := extB_cell z0
            have y1 := extB_cell z1
            have y9 := extB_cell z9
            have HB5 := Lib.hid hb5
            have Z0 := Lib.hid z0
            have Z1 := Lib.hid z1
            have Z2 := Lib.hid z2
            clear hW5 hb5 z0 z1 z2 z9 g8 g9 e1 e2 e3
            refine wp_region_ext (by kernel_rfl) (by kernel_rfl) ?_
            repeat (go_big_quiet_step ((go_at_call 143; exact ext_same (H102.out _))))
            refine wpQuiet_nil ?_
            rintro _ ⟨t1, rfl⟩
            clear y0 y1 y9
            have HB6 := Lib.hid (extB_below W5 t1)
            have q0 := below_cell HB6.out Z0.out
            have q1 := below_cell HB6.out Z1.out
            have q2 := below_cell HB6.out Z2.out
            obtain ⟨W6, hW6⟩ : ∃ W6, extB W5 t1 = W6 := ⟨_, rfl⟩
            rw [hW6] at HB6 q0 q1 q2 ⊢
            clear hW6
            go_wp2_with (fail)
            go_roundw
            case rel => exact ⟨k + 1, u ||| (1 <<< wn), v ||| mb, n + x.pay, by omega, by go_num, by rw [HOR2.out], congrArg _ (by rw [HSH.out, HOR1.out]), rfl, HBD.out.1, HBD.out.2, HNX, Lib.hid (hb0to hb.out (hb0to HB5.out HB6.out))⟩
            case measure => simp [intOf]; omega
          · have HNO := Lib.hid (br_no HI.out (fun hs => hC (HIF.1 hs).2.2))
            have hd2 : (bits BinOp.and IntKind.i64 (v : Int) (mb : Int) != 0) = false := by rw [HAN, hB]; rfl
            have hd3 : (bits BinOp.andNot IntKind.i64 (mb : Int) (r : Int) != 0) = true := by rw [HAD, bne_iff_ne]; omega
            clear hhas hA hB hC HIF HAN HAD
            as_aux_lemma =>
            go_upto_region 7 with (fail)
            obtain ⟨W5, hW5⟩ : ∃ W5, wr.alloc (.cells #[.int .i64 (wn : Int), .int .i64 (mb : Int), .int .i64 x.pay] 191) = W5 := ⟨_, rfl⟩
            have hb5 := al_below wr (.cells #[.int .i64 (wn : Int), .int .i64 (mb : Int), .int .i64 x.pay] 191)
            have z0 := cell_of_heap (o := 0) (heap_new1 wr (.cells #[.int .i64 (wn : Int), .int .i64 (mb : Int), .int .i64 x.pay] 191)) rfl
            have z1 := cell_of_heap (o := 1) (heap_new1 wr (.cells #[.int .i64 (wn : Int), .int .i64 (mb : Int), .int .i64 x.pay] 191)) rfl
            have z2 := cell_of_heap (o := 2) (heap_new1 wr (.cells #[.int .i64 (wn : Int), .int .i64 (mb : Int), .int .i64 x.pay] 191)) rfl
            rw [hW5] at hb5 z0 z1 z2 ⊢
            have z9 := below_cell hb5 g9
            have y0 := extB_cell z0
            have y1 := extB_cell z1
            have y9 := extB_cell z9
            have HB5 := Lib.hid hb5
            have Z0 := Lib.hid z0
            have Z1 := Lib.hid z1
            have Z2 := Lib.hid z2
            clear hW5 hb5 z0 z1 z2 z9 g8 g9 e1 e2 e3
            refine wp_region_ext (by kernel_rfl) (by kernel_rfl) ?_
            repeat (go_big_quiet_step ((go_at_call 143; exact ext_same (H102.out _))))
            refine wpQuiet_nil ?_
            rintro _ ⟨t1, rfl⟩
            clear y0 y1 y9
            have HB6 := Lib.hid (extB_below W5 t1)
            have q0 := below_cell HB6.out Z0.out
            have q1 := below_cell HB6.out Z1.out
            have q2 := below_cell HB6.out Z2.out
            obtain ⟨W6, hW6⟩ : ∃ W6, extB W5 t1 = W6 := ⟨_, rfl⟩
            rw [hW6] at HB6 q0 q1 q2 ⊢
            clear hW6
            go_wp2_with (fail)
            go_ret
            exact ⟨by rw [HNO.out]; rfl, hb0to B1.out (hb0to hb.out (hb0to HB5.out HB6.out))⟩
        · have HNO := Lib.hid (br_no HI.out (fun hs => hB (HIF.1 hs).2.1))
          have hd2 : (bits BinOp.and IntKind.i64 (v : Int) (mb : Int) != 0) = true := by rw [HAN, bne_iff_ne]; omega
          clear hhas hA hB HIF HAN HAD
          as_aux_lemma =>
          go_upto_region 7 with (fail)
          obtain ⟨W5, hW5⟩ : ∃ W5, wr.alloc (.cells #[.int .i64 (wn : Int), .int .i64 (mb : Int), .int .i64 x.pay] 191) = W5 := ⟨_, rfl⟩
          have hb5 := al_below wr (.cells #[.int .i64 (wn : Int), .int .i64 (mb : Int), .int .i64 x.pay] 191)
          have z0 := cell_of_heap (o := 0) (heap_new1 wr (.cells #[.int .i64 (wn : Int), .int .i64 (mb : Int), .int .i64 x.pay] 191)) rfl
          have z1 := cell_of_heap (o := 1) (heap_new1 wr (.cells #[.int .i64 (wn : Int), .int .i64 (mb : Int), .int .i64 x.pay] 191)) rfl
          have z2 := cell_of_heap (o := 2) (heap_new1 wr (.cells #[.int .i64 (wn : Int), .int .i64 (mb : Int), .int .i64 x.pay] 191)) rfl
          rw [hW5] at hb5 z0 z1 z2 ⊢
          have z9 := below_cell hb5 g9
          have y0 := extB_cell z0
          have y1 := extB_cell z1
          have y9 := extB_cell z9
          have HB5 := Lib.hid hb5
          have Z0 := Lib.hid z0
          have Z1 := Lib.hid z1
          have Z2 := Lib.hid z2
          clear hW5 hb5 z0 z1 z2 z9 g8 g9 e1 e2 e3
          refine wp_region_ext (by kernel_rfl) (by kernel_rfl) ?_
          repeat (go_big_quiet_step ((go_at_call 143; exact ext_same (H102.out _))))
          refine wpQuiet_nil ?_
          rintro _ ⟨t1, rfl⟩
          clear y0 y1 y9
          have HB6 := Lib.hid (extB_below W5 t1)
          have q0 := below_cell HB6.out Z0.out
          have q1 := below_cell HB6.out Z1.out
          have q2 := below_cell HB6.out Z2.out
          obtain ⟨W6, hW6⟩ : ∃ W6, extB W5 t1 = W6 := ⟨_, rfl⟩
          rw [hW6] at HB6 q0 q1 q2 ⊢
          clear hW6
          go_wp2_with (fail)
          go_ret
          exact ⟨by rw [HNO.out]; rfl, hb0to B1.out (hb0to hb.out (hb0to HB5.out HB6.out))⟩
      · rw [hA] at hhas
        have H102 := Lib.hid hhas
        have HNO := Lib.hid (br_no HI.out (fun hs => by rw [(HIF.1 hs).1] at hA; cases hA))
        clear hhas hA HIF HAN HAD
        as_aux_lemma =>
        go_upto_region 7 with (fail)
        obtain ⟨W5, hW5⟩ : ∃ W5, wr.alloc (.cells #[.int .i64 (wn : Int), .int .i64 (mb : Int), .int .i64 x.pay] 191) = W5 := ⟨_, rfl⟩
        have hb5 := al_below wr (.cells #[.int .i64 (wn : Int), .int .i64 (mb : Int), .int .i64 x.pay] 191)
        have z0 := cell_of_heap (o := 0) (heap_new1 wr (.cells #[.int .i64 (wn : Int), .int .i64 (mb : Int), .int .i64 x.pay] 191)) rfl
        have z1 := cell_of_heap (o := 1) (heap_new1 wr (.cells #[.int .i64 (wn : Int), .int .i64 (mb : Int), .int .i64 x.pay] 191)) rfl
        have z2 := cell_of_heap (o := 2) (heap_new1 wr (.cells #[.int .i64 (wn : Int), .int .i64 (mb : Int), .int .i64 x.pay] 191)) rfl
        rw [hW5] at hb5 z0 z1 z2 ⊢
        have z9 := below_cell hb5 g9
        have y0 := extB_cell z0
        have y1 := extB_cell z1
        have y9 := extB_cell z9
        have HB5 := Lib.hid hb5
        have Z0 := Lib.hid z0
        have Z1 := Lib.hid z1
        have Z2 := Lib.hid z2
        clear hW5 hb5 z0 z1 z2 z9 g8 g9 e1 e2 e3
        refine wp_region_ext (by kernel_rfl) (by kernel_rfl) ?_
        repeat (go_big_quiet_step ((go_at_call 143; exact ext_same (H102.out _))))
        refine wpQuiet_nil ?_
        rintro _ ⟨t1, rfl⟩
        clear y0 y1 y9
        have HB6 := Lib.hid (extB_below W5 t1)
        have q0 := below_cell HB6.out Z0.out
        have q1 := below_cell HB6.out Z1.out
        have q2 := below_cell HB6.out Z2.out
        obtain ⟨W6, hW6⟩ : ∃ W6, extB W5 t1 = W6 := ⟨_, rfl⟩
        rw [hW6] at HB6 q0 q1 q2 ⊢
        clear hW6
        go_wp2_with (fail)
        go_ret
        exact ⟨by rw [HNO.out]; rfl, hb0to B1.out (hb0to hb.out (hb0to HB5.out HB6.out))⟩
    · obtain rfl : k = l.length := by omega
      have hbr2 := hbr.out
      rw [List.take_length] at hbr2
      have HQ := Lib.hid (show brV f.q rd l = n by rw [brV_yes hbr2.sale, hbr2.val])
      clear hbr hbr2
      go_wp2_with (fail)
      go_ret
      exact ⟨by rw [HQ.out]; rfl, hb0to B1.out hb.out⟩


end Go.Proofs.Ytmbcpmnigggbaaa
namespace Go.Proofs.Ytmbcpmnigggbaaa
open Go.RowKit

/-! Compare 107, Clone 96, Or 106. -/
def cmpN (x y : Int) : Int := if x < y then -1 else if y < x then 1 else 0
def cmpI : List Int → List Int → Int
  | [], [] => 0
  | [], _ :: _ => -1
  | _ :: _, [] => 1
  | x :: a, y :: b => if x = y then cmpI a b else cmpN x y
theorem isNaN_any (x : Int) (w : World) : Calls Try.prog 203 #[.int .i64 x] w fun e w' => e = .returned (.bool false) ∧ w = w' := by
  go_enter Try.func203, Try.ntmps203
  go_wp2_with (fail)
  go_ret
  exact ⟨by simp [go_sem], rfl⟩
theorem cmp_any (x y : Int) (w : World) : Calls Try.prog 184 #[.int .i64 x, .int .i64 y] w fun e w' => e = .returned (.int .i64 (cmpN x y)) ∧ w = w' := by
  have hway : (x < y ∧ cmpN x y = -1) ∨ (¬ x < y ∧ y < x ∧ cmpN x y = 1) ∨ (¬ x < y ∧ ¬ y < x ∧ cmpN x y = 0) := by
    unfold cmpN
    by_cases a : x < y
    · exact .inl ⟨a, if_pos a⟩
    · by_cases b : y < x
      · exact .inr (.inl ⟨a, b, by rw [if_neg a, if_pos b]⟩)
      · exact .inr (.inr ⟨a, b, by rw [if_neg a, if_neg b]⟩)
  rcases hway with ⟨a, q⟩ | ⟨a, b, q⟩ | ⟨a, b, q⟩
  all_goals
    have HQ := Lib.hid q
    clear q
    go_enter Try.func184, Try.ntmps184
    go_wp2_with (go_at_call 203; refine (isNaN_any _ _).mono ?_; rintro e w' ⟨rfl, rfl⟩)
    go_ret
    exact ⟨by rw [HQ.out]; rfl, rfl⟩
theorem cmpI_same : ∀ (f : List Int) (a b : List Int), cmpI (f ++ a) (f ++ b) = cmpI a b
  | [], _, _ => rfl
  | x :: f, a, b => by simp only [List.cons_append, cmpI, if_true]; exact cmpI_same f a b
theorem cmpI_split {a b : List Int} {k : Nat} (h : a.take k = b.take k) : cmpI a b = cmpI (a.drop k) (b.drop k) := by
  have e := cmpI_same (a.take k) (a.drop k) (b.drop k)
  rw [List.take_append_drop, h, List.take_append_drop] at e
  exact e
set_option maxRecDepth 100000 in
set_option maxHeartbeats 4000000 in
theorem compare_any (a b : List Int) (A B : Option Addr) (ca cb : Nat) (ha : a.length ≤ 1000) (hb : b.length ≤ 1000) (w : World) (hI : IntsAt w w.heap.size A a) (hJ : IntsAt w w.heap.size B b) :
    Calls Try.prog 142 #[.slice A a.length ca, .slice B b.length cb] w fun e w' => e = .returned (.int .i64 (cmpI a b)) ∧ w = w' := by
  have HI := Lib.hid hI
  have HJ := Lib.hid hJ
  clear hI hJ
  go_enter Try.func142, Try.ntmps142
  go_wp2_with (fail)
  go_loop [11] (fun i => ∃ k : Nat, k ≤ a.length ∧ i = .int .i64 k ∧ k ≤ b.length ∧ Hid (a.take k = b.take k)) (fun i => a.length - (intOf i).toNat)
  case atStart => exact ⟨0, Nat.zero_le _, rfl, Nat.zero_le _, Lib.hid rfl⟩
  case round =>
    obtain ⟨k, hk, rfl, hkb, hT⟩ := hrel
    by_cases hlt : k < a.length
    · obtain ⟨x, hx⟩ : ∃ x, a[k]? = some x := ⟨_, List.getElem?_eq_getElem hlt⟩
      obtain ⟨bi, oi, eA, blt, d1⟩ := HI.out.at_ hx
      have HX := Lib.hid hx
      subst eA
      clear hx
      by_cases hlb : k < b.length
      · obtain ⟨y, hy⟩ : ∃ y, b[k]? = some y := ⟨_, List.getElem?_eq_getElem hlb⟩
        obtain ⟨bj, oj, eB, blt2, d2⟩ := HJ.out.at_ hy
        have HY := Lib.hid hy
        subst eB
        clear hy
        have hlbn : decide ((b.length : Int) ≤ (k : Int)) = false := decide_eq_false (by omega)
        by_cases hxy : x = y
        · have HC := Lib.hid (fun w => show Calls Try.prog 184 #[.int .i64 x, .int .i64 y] w fun e w' => e = .returned (.int .i64 0) ∧ w = w' by
            have := cmp_any x y w
            rw [show cmpN x y = 0 by unfold cmpN; rw [if_neg (by omega), if_neg (by omega)]] at this; exact this)
          have HT2 := Lib.hid (show a.take (k + 1) = b.take (k + 1) by rw [List.take_add_one, List.take_add_one, HX.out, HY.out, hT.out, hxy])
          clear hxy
          as_aux_lemma =>
          go_wp2_with (go_at_call 184; refine (HC.out _).mono ?_; rintro e w' ⟨rfl, rfl⟩)
          go_round
          case rel => exact ⟨k + 1, by omega, by go_num, by omega, HT2⟩
          case measure => simp [intOf]; omega
        · have HC := Lib.hid (fun w => cmp_any x y w)
          have hn : (cmpN x y != 0) = true := by rw [bne_iff_ne]; unfold cmpN; split <;> (try split) <;> omega
          have HQ := Lib.hid (show cmpI a b = cmpN x y by
            rw [cmpI_split hT.out]
            obtain ⟨h1, e1⟩ := List.getElem?_eq_some_iff.1 HX.out
            obtain ⟨h2, e2⟩ := List.getElem?_eq_some_iff.1 HY.out
            rw [List.drop_eq_getElem_cons h1, List.drop_eq_getElem_cons h2, e1, e2, cmpI, if_neg hxy])
          clear hxy
          generalize cmpN x y = r at HC hn HQ
          as_aux_lemma =>
          go_wp2_with (go_at_call 184; refine (HC.out _).mono ?_; rintro e w' ⟨rfl, rfl⟩)
          go_ret
          exact ⟨by rw [HQ.out]; rfl, rfl⟩
      · have hlbn : decide ((b.length : Int) ≤ (k : Int)) = true := decide_eq_true (by omega)
        have HQ := Lib.hid (show cmpI a b = 1 by
          rw [cmpI_split hT.out]
          obtain ⟨h1, e1⟩ := List.getElem?_eq_some_iff.1 HX.out
          rw [List.drop_eq_getElem_cons h1, List.drop_eq_nil_of_le (show b.length ≤ k by omega)]; rfl)
        as_aux_lemma =>
        go_wp2_with (fail)
        go_ret
        exact ⟨by rw [HQ.out]; rfl, rfl⟩
    · obtain rfl : k = a.length := by omega
      by_cases hlb : a.length < b.length
      · have HQ := Lib.hid (show cmpI a b = -1 by
          rw [cmpI_split hT.out, List.drop_length, List.drop_eq_getElem_cons hlb]; rfl)
        as_aux_lemma =>
        go_wp2_with (fail)
        go_ret
        exact ⟨by rw [HQ.out]; rfl, rfl⟩
      · have HQ := Lib.hid (show cmpI a b = 0 by
          rw [cmpI_split hT.out, List.drop_length, List.drop_eq_nil_of_le (show b.length ≤ a.length by omega)]; rfl)
        as_aux_lemma =>
        go_wp2_with (fail)
        go_ret
        exact ⟨by rw [HQ.out]; rfl, rfl⟩
theorem cmpI_earlier : ∀ (a b : List Nat), a.length = b.length → (cmpI (intsN a) (intsN b) < 0 ↔ earlierN a b = true)
  | [], [], _ => by simp [intsN, cmpI, earlierN]
  | x :: a, y :: b, h => by
    have ih := cmpI_earlier a b (by simpa using h)
    simp only [intsN, List.map_cons, cmpI, earlierN] at ih ⊢
    by_cases e : x = y
    · subst e; rw [if_pos rfl, if_pos rfl]; exact ih
    · rw [if_neg (by omega), if_neg e]
      unfold cmpN
      rw [decide_eq_true_eq]
      by_cases hl : (x : Int) < y
      · rw [if_pos hl]; omega
      · rw [if_neg hl]; split <;> omega
/-- The first number that is not 0. -/
def orI (x y : Int) : Int := if x = 0 then y else x
theorem or_ahead (a b : List Nat) : orI ((a.length : Int) - b.length) (cmpI (intsN a) (intsN b)) < 0 ↔ aheadP a b := by
  unfold orI aheadP
  by_cases h : a.length = b.length
  · rw [if_pos (by omega), cmpI_earlier a b h]
    constructor
    · exact fun e => .inr ⟨h, e⟩
    · rintro (e | ⟨_, e⟩)
      · omega
      · exact e
  · rw [if_neg (by omega)]
    constructor
    · exact fun e => .inl (by omega)
    · rintro (e | ⟨e, _⟩)
      · omega
      · exact absurd e h
set_option maxRecDepth 100000 in
set_option maxHeartbeats 4000000 in
theorem or_any (x y : Int) (g c : Nat) (w : World) (h0 : w.cell? ⟨g, 0, none⟩ = some (.int .i64 x)) (h1 : w.cell? ⟨g, 1, none⟩ = some (.int .i64 y)) :
    Calls Try.prog 141 #[.slice (some ⟨g, 0, none⟩) 2 c] w fun e w' => e = .returned (.int .i64 (orI x y)) ∧ w = w' := by
  go_enter Try.func141, Try.ntmps141
  go_wp2_with (fail)
  go_loop [8] (fun i => ∃ k : Nat, k ≤ 2 ∧ i = .int .i64 k ∧ Hid ((0 < k → x = 0) ∧ (1 < k → y = 0))) (fun i => 2 - (intOf i).toNat)
  case atStart => exact ⟨0, by omega, rfl, Lib.hid ⟨fun h => by omega, fun h => by omega⟩⟩
  case round =>
    obtain ⟨k, hk, rfl, hq⟩ := hrel
    have hk3 : k = 0 ∨ k = 1 ∨ k = 2 := by omega
    rcases hk3 with rfl | rfl | rfl
    · by_cases hx : x = 0
      · have hd : (x != 0) = false := by simp [hx]
        have HX := Lib.hid hx
        clear hx
        go_wp2_with (fail)
        go_round
        case rel => exact ⟨1, by omega, rfl, Lib.hid ⟨fun _ => HX.out, fun h => by omega⟩⟩
        case measure => simp [intOf]
      · have hd : (x != 0) = true := by simp [hx]
        have HQ := Lib.hid (show orI x y = x from if_neg hx)
        clear hx
        go_wp2_with (fail)
        go_ret
        exact ⟨by rw [HQ.out]; rfl, rfl⟩
    · have HX := Lib.hid (hq.out.1 (by omega))
      have HQ := Lib.hid (show orI x y = y from if_pos HX.out)
      by_cases hy : y = 0
      · have hd : (y != 0) = false := by simp [hy]
        have HY := Lib.hid hy
        clear hy
        go_wp2_with (fail)
        go_round
        case rel => exact ⟨2, by omega, rfl, Lib.hid ⟨fun _ => HX.out, fun _ => HY.out⟩⟩
        case measure => simp [intOf]
      · have hd : (y != 0) = true := by simp [hy]
        clear hy
        go_wp2_with (fail)
        go_ret
        exact ⟨by rw [HQ.out]; rfl, rfl⟩
    · have HQ := Lib.hid (show orI x y = 0 by unfold orI; rw [if_pos (hq.out.1 (by omega)), hq.out.2 (by omega)])
      go_wp2_with (fail)
      go_ret
      exact ⟨by rw [HQ.out]; rfl, rfl⟩
/-! The closures: all 78, with 103, without 104, own 99; IndexFunc, ContainsFunc; none of a buyer's 100. -/
theorem all_any78 (m : Nat) (w : World) : Calls Try.prog 91 #[.int .i64 (m : Int)] w fun e w' => e = .returned (.bool true) ∧ w = w' := by
  go_enter Try.func91, Try.ntmps91
  go_wp2_with (fail)
  go_ret
  exact ⟨rfl, rfl⟩
set_option maxRecDepth 100000 in
set_option maxHeartbeats 4000000 in
theorem own1_any (F : FL) (f : Fair) (rd : List Int) (b g1 g2 i : Nat) (v : Int) (x : Bid) (hx : f.q[i]? = some x) (hql : f.q.length ≤ 8) (w : World) (hO : OpenAt w b F f rd) (h1 : w.cell? ⟨g1, 0, none⟩ = some (.pointer (some ⟨b, 0, none⟩))) (h2 : w.cell? ⟨g2, 0, none⟩ = some (.int .i64 v)) :
    Calls Try.prog 158 #[.int .i64 (i : Int), .pointer (some ⟨g1, 0, none⟩), .pointer (some ⟨g2, 0, none⟩)] w fun e w' => e = .returned (.bool (ownP f.q v i)) ∧ Below w.heap.size w w' := by
  obtain ⟨Al, cl, r, hOB, hLA, hR⟩ := hO.ex
  obtain ⟨lb, ol, eL, lblt, mb, hmb, d1, d2, d3⟩ := hLA.at_ hx
  subst eL
  obtain ⟨_, _, _, _, _, _, _, _, g8, _⟩ := hOB.cells
  have HQ := Lib.hid (show ownP f.q v i = (x.who == v) by rw [own_some hx]; exact (Bool.eq_iff_iff.2 (by simp)))
  have hiq := (List.getElem?_eq_some_iff.1 hx).1
  have a1 := extB_cell h1
  have a2 := extB_cell h2
  have a8 := extB_cell g8
  have ad := extB_cell d1
  clear hO hOB hLA hR hmb d1 d2 d3 g8 hx h1 h2
  go_enter Try.func158, Try.ntmps158
  go_upto_region 1 with (fail)
  refine wp_region_ext (by kernel_rfl) (by kernel_rfl) ?_
  repeat (go_big_quiet_step (fail))
  refine wpQuiet_nil ?_
  rintro _ ⟨t1, rfl⟩
  clear a1 a2 a8 ad
  have HB6 := Lib.hid (extB_below w t1)
  obtain ⟨W6, hW6⟩ : ∃ W6, extB w t1 = W6 := ⟨_, rfl⟩
  rw [hW6] at HB6 ⊢
  clear hW6
  go_wp2_with (fail)
  go_ret
  exact ⟨by rw [HQ.out]; rfl, HB6.out⟩

open Go.RowKit

/-! IndexFunc and ContainsFunc of a buyer's bids; pays$2 100; the iterator sales 105. -/
def ownI (q : List Bid) (v : Int) (x : Int) : Bool := ownP q v x.toNat
theorem ownI_any (q : List Bid) (v : Int) (l : List Nat) : (intsN l).any (ownI q v) = l.any (ownP q v) := by
  unfold intsN
  rw [List.any_map]
  rfl
set_option maxRecDepth 100000 in
set_option maxHeartbeats 4000000 in
theorem index_own (F : FL) (f : Fair) (rd : List Int) (b g1 g2 : Nat) (v : Int) (hql : f.q.length ≤ 8) (A : Option Addr) (c : Nat) (l : List Nat) (hl : l.length ≤ 8) (hin : ∀ i ∈ l, i < f.q.length) (w : World) (hI : IntsAt w w.heap.size A (intsN l)) (hO : OpenAt w b F f rd) (h1 : w.cell? ⟨g1, 0, none⟩ = some (.pointer (some ⟨b, 0, none⟩))) (h2 : w.cell? ⟨g2, 0, none⟩ = some (.int .i64 v)) :
    Calls Try.prog 188 #[.slice A l.length c, .func (.func 158) #[] #[.pointer (some ⟨g1, 0, none⟩), .pointer (some ⟨g2, 0, none⟩)]] w fun e w' => e = .returned (.int .i64 (firstB (ownI f.q v) (intsN l) 0)) ∧ Below w.heap.size w w' := by
  have HI := Lib.hid hI
  have HO := Lib.hid hO
  have H1 := Lib.hid h1
  have H2 := Lib.hid h2
  have HIN := Lib.hid hin
  clear hI hO h1 h2 hin
  go_enter Try.func188, Try.ntmps188
  go_wp2_with (fail)
  go_loopw [5, 8] (fun _ i wr => ∃ k : Nat, k ≤ l.length ∧ i = .int .i64 k ∧ Hid (firstB (ownI f.q v) (intsN l) 0 = firstB (ownI f.q v) ((intsN l).drop k) k) ∧ Below w.heap.size w wr) (fun _ i _ => l.length - (intOf i).toNat)
  case atStart => exact ⟨0, Nat.zero_le _, rfl, Lib.hid (by rw [List.drop_zero]), Below.refl _ _⟩
  case round =>
    obtain ⟨k, hk, rfl, hF, hb⟩ := hrel
    by_cases hlt : k < l.length
    · obtain ⟨i, hi⟩ : ∃ i, l[k]? = some i := ⟨_, List.getElem?_eq_getElem hlt⟩
      have hiq := HIN.out i (List.mem_of_getElem? hi)
      obtain ⟨x, hx⟩ : ∃ x, f.q[i]? = some x := ⟨_, List.getElem?_eq_getElem hiq⟩
      have hi2 := intsN_at hi
      obtain ⟨b1, o1, rfl, b1lt, d1⟩ := HI.out.at_ hi2
      have d2 := below_cell hb d1
      have H99 := Lib.hid (own1_any F f rd b g1 g2 i v x hx hql wr (HO.out.below hb) (below_cell hb H1.out) (below_cell hb H2.out))
      have HX := Lib.hid hi2
      clear hi hx d1 hi2
      have hsz := hb.size
      cases hp : ownP f.q v i
      · rw [hp] at H99
        have HPX := Lib.hid (show ownI f.q v (i : Int) = false by unfold ownI; rw [Int.toNat_natCast]; exact hp)
        clear hp
        go_wp2_with (go_at_call 158; refine H99.out.mono ?_; rintro e W5 ⟨rfl, hb5⟩)
        go_roundw
        case rel => exact ⟨k + 1, by omega, by go_num, Lib.hid (by rw [hF.out]; exact firstB_no HX.out HPX.out), hb.trans (hb5.mono hsz)⟩
        case measure => simp [intOf]; omega
      · rw [hp] at H99
        have HPX := Lib.hid (show ownI f.q v (i : Int) = true by unfold ownI; rw [Int.toNat_natCast]; exact hp)
        clear hp
        go_wp2_with (go_at_call 158; refine H99.out.mono ?_; rintro e W5 ⟨rfl, hb5⟩)
        go_ret
        exact ⟨by rw [hF.out, firstB_yes HX.out HPX.out]; rfl, hb.trans (hb5.mono hsz)⟩
    · obtain rfl : k = l.length := by omega
      have HE := Lib.hid (show firstB (ownI f.q v) ((intsN l).drop l.length) l.length = -1 by rw [← intsN_len l]; exact firstB_end)
      go_wp2_with (fail)
      go_ret
      exact ⟨by rw [hF.out, HE.out]; rfl, hb⟩
theorem contains_own (F : FL) (f : Fair) (rd : List Int) (b g1 g2 : Nat) (v : Int) (hql : f.q.length ≤ 8) (A : Option Addr) (c : Nat) (l : List Nat) (hl : l.length ≤ 8) (hin : ∀ i ∈ l, i < f.q.length) (w : World) (hI : IntsAt w w.heap.size A (intsN l)) (hO : OpenAt w b F f rd) (h1 : w.cell? ⟨g1, 0, none⟩ = some (.pointer (some ⟨b, 0, none⟩))) (h2 : w.cell? ⟨g2, 0, none⟩ = some (.int .i64 v)) :
    Calls Try.prog 160 #[.slice A l.length c, .func (.func 158) #[] #[.pointer (some ⟨g1, 0, none⟩), .pointer (some ⟨g2, 0, none⟩)]] w fun e w' => e = .returned (.bool (l.any (ownP f.q v))) ∧ Below w.heap.size w w' := by
  rw [← ownI_any, ← firstB_any (ownI f.q v) (intsN l) 0]
  go_enter Try.func160, Try.ntmps160
  go_wp2_with (go_at_call 188; refine (index_own F f rd b g1 g2 v hql A c l hl hin _ hI hO h1 h2).mono ?_; rintro e w' ⟨rfl, hb⟩)
  go_ret
  exact ⟨rfl, hb⟩
set_option maxRecDepth 100000 in
set_option maxHeartbeats 4000000 in
theorem none2_any (F : FL) (f : Fair) (hf : FOK f) (rd : List Int) (b g1 g2 g3 : Nat) (v : Int) (m : Nat) (hm : m < 2 ^ f.q.length) (w : World) (hO : OpenAt w b F f rd) (h1 : w.cell? ⟨g1, 0, none⟩ = some (.pointer (some ⟨b, 0, none⟩))) (h2 : w.cell? ⟨g2, 0, none⟩ = some (.int .i64 v)) (h3 : w.cell? ⟨g3, 0, none⟩ = some (.func (.func 158) #[] #[.pointer (some ⟨g1, 0, none⟩), .pointer (some ⟨g2, 0, none⟩)])) :
    Calls Try.prog 159 #[.int .i64 (m : Int), .pointer (some ⟨g3, 0, none⟩)] w fun e w' => e = .returned (.bool (noneM f.q v m)) ∧ Below w.heap.size w w' := by
  have hm8 : m < 256 := Nat.lt_of_lt_of_le hm (pow_eight hf.ql)
  have hbe := bits_eight hf.ql hm
  have HO := Lib.hid hO
  have H1 := Lib.hid h1
  have H2 := Lib.hid h2
  have H3 := Lib.hid h3
  have hql := hf.ql
  have H69 := Lib.hid (fun W => list_any m hm8 W)
  have HIN := Lib.hid (show ∀ i ∈ bitsL 8 m, i < f.q.length from fun i hi => by rw [hbe] at hi; exact bits_lt hi)
  have HLL := Lib.hid (bits_len 8 m)
  have HQ := Lib.hid (show noneM f.q v m = !(bitsL 8 m).any (ownP f.q v) from rfl)
  obtain ⟨l, hl⟩ : ∃ l, bitsL 8 m = l := ⟨_, rfl⟩
  rw [hl] at H69 HIN HQ HLL
  clear hO h1 h2 hbe hl hf hm
  go_enter Try.func159, Try.ntmps159
  go_upto_region 1 with (fail)
  go_region_held3 (fun w' => w'.cell? ⟨g3, 0, none⟩ = some (.func (.func 158) #[] #[.pointer (some ⟨g1, 0, none⟩), .pointer (some ⟨g2, 0, none⟩)])) (first | go_keep)
    (first
      | (go_at_call 93; refine (H69.out _).mono ?_; rintro e w1 ⟨⟨v0, rfl, hv0⟩, hb1⟩; have hk1 : Below w.heap.size w w1 := (by first | exact hb1 | exact hb0to (drew_below w) hb1); have B1 := Lib.hid hk1; obtain ⟨A1, c1, rfl, _, _, hI1⟩ := hv0.lay; rw [intsN_len]; have HI1 := Lib.hid hI1.at_; have r3 := below_cell B1.out H3.out; clear hb1 hv0 hI1 hk1)
      | (go_at_call 160; refine (contains_own F f rd b g1 g2 v hql A1 c1 l HLL.out HIN.out w1 HI1.out (HO.out.below B1.out) (below_cell B1.out H1.out) (below_cell B1.out H2.out)).mono ?_; rintro e w2 ⟨rfl, hb2⟩; have B2 := Lib.hid (hb0to B1.out hb2); have r3 := below_cell B2.out H3.out; clear hb2))
  all_goals
    go_wp2_with (fail)
    go_ret
    exact ⟨by rw [HQ.out]; rfl, B2.out⟩

end Go.Proofs.Ytmbcpmnigggbaaa
namespace Go.Proofs.Ytmbcpmnigggbaaa
open Go.RowKit

attribute [local go_sem] Oper.semAt_some
/-! The iterator sales 105. -/
theorem shl8 : ∀ i : Nat, i < 9 → wrap64 (2 ^ i) = ((2 ^ i : Nat) : Int) := by decide +kernel
def SeesN (q : List Bid) (_ : Nat) (x : Nat) (args : Array Value) (_ : World) : Prop := args = #[.int .i64 (x : Int), .int .i64 (bringsL q (bitsL q.length x))]
set_option maxRecDepth 100000 in
set_option maxHeartbeats 4000000 in
theorem sales_makes (n : Nat) (F : FL) (f : Fair) (hf : FOK f) (rd : List Int) (b : Nat) (w0 w : World) (hO : OpenAt w0 b F f rd) (hb0 : Below w0.heap.size w0 w) (S : Nat → Prop) (hS : ∀ k, S k → w0.heap.size ≤ k ∧ k < w.heap.size) :
    SeqMakes Fence.wide n Try.prog 140 #[.pointer (some ⟨b, 0, none⟩)] #[] S (SeesN f.q) (setsL f.q rd) w := by
  intro l J Jx W hbW hJ hJx hY h0
  have HSK := Lib.hid (show ∀ k, (S k ∨ Seg w.heap.size W.heap.size k) → w0.heap.size ≤ k from fun k hk => by
    rcases hk with hk | hk
    · exact (hS k hk).1
    · have := hk.1; have := hb0.size; omega)
  have HO := Lib.hid hO
  have hbw := hb0to hb0 hbW
  have HBW := Lib.hid hbw
  have HJ := Lib.hid hJ
  have HY := Lib.hid hY
  have H0 := Lib.hid h0
  have HF := Lib.hid hf
  have hql := hf.ql
  obtain ⟨N, hN⟩ : ∃ N, N = 2 ^ f.q.length := ⟨_, rfl⟩
  have hNw : wrap64 (2 ^ f.q.length) = (N : Int) := by rw [shl8 _ (by omega), hN]
  have hN8 : N ≤ 256 := by rw [hN]; exact pow_eight hql
  obtain ⟨A, cl, u, hOB, _, _⟩ := (hO.below hbw).ex
  obtain ⟨_, _, _, _, _, _, _, _, g8, _⟩ := hOB.cells
  have HN := Lib.hid hN
  have HNW := Lib.hid hNw
  clear hO hb0 hbw hJ hJx hY h0 hf hOB hS hbW hN hNw
  refine callsIn_of_wp Try.func140 rfl trivial ?_ rfl
  simp only [Try.ntmps140, List.size_toArray, List.length_cons, List.length_nil, Nat.reduceAdd, Nat.reduceSub, Array.replicate_succ, Array.replicate_zero, List.push_toArray, List.append_toArray, List.nil_append, List.cons_append]
  gi_wp2_with (fail)
  rw [HNW.out]
  clear HNW
  gi_loopw [12] (fun i wr => ∃ k : Nat, k ≤ N ∧ i = .int .i64 k ∧ Hid (J (setsTo f.q rd k) wr) ∧ Hid (Below w0.heap.size w0 wr) ∧ Hid (W.heap.size ≤ wr.heap.size)) (fun i _ => N - (intOf i).toNat)
  case atStart => exact ⟨0, Nat.zero_le _, rfl, Lib.hid H0.out, HBW, Lib.hid (Nat.le_refl _)⟩
  case round =>
    obtain ⟨k, hk, rfl, hJk, hb, hsz⟩ := hrel
    by_cases hlt : k < N
    · have H91 := Lib.hid (brings_any F f HF.out rd b k (by rw [← HN.out]; exact hlt) wr (HO.out.below hb.out))
      have HT := Lib.hid (setsTo_succ f.q rd k)
      have HPR := Lib.hid (show setsTo f.q rd (k + 1) <+: setsL f.q rd from by
        have := setsTo_pre f.q rd (show k + 1 ≤ N by omega)
        rw [HN.out] at this; exact this)
      cases hs : saleB f.q rd (bitsL f.q.length k)
      · rw [show brV f.q rd (bitsL f.q.length k) = -1 by unfold brV; rw [hs]; rfl] at H91
        rw [hs] at HT
        clear hs
        gi_wp2_with (refine ⟨trivial, (fun h => by cases h), ?_⟩; gi_at_call 183; refine (CallsIn.mono (callsIn_wide.2 H91.out) ?_); rintro e W1 ⟨rfl, hb1⟩; have HB1 := Lib.hid hb1; clear hb1)
        refine ⟨fun _ h => (by cases h), ?_⟩
        gi_wp2_with (fail)
        go_roundw
        case rel => exact ⟨k + 1, by omega, by go_num, Lib.hid (by rw [HT.out]; simp only [Bool.false_eq_true, if_false, List.append_nil]; exact HJ.out _ _ _ hsz.out hJk.out HB1.out), Lib.hid (hb0to hb.out HB1.out), Lib.hid (Nat.le_trans hsz.out HB1.out.size)⟩
        case measure => simp [intOf]; omega
      · have hsl := saleB_iff.1 hs
        rw [brV_yes hsl] at H91
        rw [hs, if_pos rfl] at HT
        have hz0 := brings_nonneg HF.out.pos (bitsL f.q.length k)
        have hY2 := fun X (h1 : W.heap.size ≤ X.heap.size) (h2 : J (setsTo f.q rd k) X) => HY.out (setsTo f.q rd k) k #[.int .i64 (k : Int), .int .i64 (bringsL f.q (bitsL f.q.length k))] X h1 h2 rfl (by rw [← HT.out]; exact HPR.out)
        rw [← HT.out] at hY2
        have HY2 := Lib.hid hY2
        clear hs hsl hY2
        obtain ⟨z, hz⟩ : ∃ z, z = bringsL f.q (bitsL f.q.length k) := ⟨_, rfl⟩
        rw [← hz] at H91 hz0 HY2
        clear hz
        have hd : decide (0 ≤ z) = true := decide_eq_true hz0
        gi_wp2_with (refine ⟨trivial, (fun h => by cases h), ?_⟩; gi_at_call 183; refine (CallsIn.mono (callsIn_wide.2 H91.out) ?_); rintro e W1 ⟨rfl, hb1⟩; have HB1 := Lib.hid hb1; clear hb1; obtain ⟨fn, tmps, assign, body, hy, hR⟩ := HY2.out W1 (Nat.le_trans hsz.out HB1.out.size) (HJ.out _ _ _ hsz.out hJk.out HB1.out); have HR := Lib.hid hR; clear hR)
        refine ⟨(fun h => by cases h), HR.out.mono ?_⟩
        clear HR hy
        rintro e X' ⟨hk2, (⟨rfl, hj2⟩ | ⟨rfl, hj2⟩)⟩
        · have HJ2 := Lib.hid hj2
          have HK2 := Lib.hid hk2
          clear hj2 hk2
          gi_wp2_with (fail)
          go_roundw
          case rel => exact ⟨k + 1, by omega, by go_num, HJ2, Lib.hid ((hb0to hb.out HB1.out).trans (HK2.out.belowOf (hb0to hb.out HB1.out).size HSK.out)), Lib.hid (Nat.le_trans hsz.out (Nat.le_trans HB1.out.size HK2.out.size))⟩
          case measure => simp [intOf]; omega
        · have HJ2 := Lib.hid hj2
          have HK2 := Lib.hid hk2
          clear hj2 hk2
          gi_wp2_with (fail)
          refine bodyPost_ret (results_none rfl _ _ _) rfl ?_
          exact ⟨⟨_, rfl⟩, Nat.le_trans hsz.out (Nat.le_trans HB1.out.size HK2.out.size), .inr ⟨_, HPR.out, HJ2.out⟩⟩
    · obtain rfl : k = N := by omega
      have HJN := Lib.hid hJk.out
      rw [HN.out] at HJN
      gi_wp2_with (fail)
      go_end0
      exact ⟨⟨_, rfl⟩, hsz.out, .inl HJN.out⟩

end Go.Proofs.Ytmbcpmnigggbaaa
namespace Go.Proofs.Ytmbcpmnigggbaaa
open Go.RowKit

attribute [local go_sem] Oper.semAt_some
/-! most 77, with each function that is handed to it. -/
/-- What most knows between two rounds. -/
structure MostI (w : World) (fv : Value) (n : Int) (X : World) : Prop where
  bl : Below w.heap.size w X
  s : X.heap[w.heap.size]? = some (.cells #[fv] 132 (0, 0))
  n : X.heap[w.heap.size + 1]? = some (.cells #[.int .i64 n] 3 (0, 0))
theorem MostI.kp {w : World} {fv : Value} {n : Int} {X Y : World} (h : MostI w fv n X) {S : Nat → Prop} (hk : KpB S X.heap.size X Y) (hS : ∀ k, S k → w.heap.size + 2 ≤ k) : MostI w fv n Y :=
  ⟨h.bl.trans (hk.belowOf h.bl.size (fun k hs => by have := hS k hs; omega)), (hk.block _ (heap_lt h.s) (fun hs => by have := hS _ hs; omega)).trans h.s, (hk.block _ (heap_lt h.n) (fun hs => by have := hS _ hs; omega)).trans h.n⟩
theorem MostI.set {w : World} {fv : Value} {n : Int} {X : World} (h : MostI w fv n X) (m : Int) : MostI w fv m (X.setCell ⟨w.heap.size + 1, 0, none⟩ (.int .i64 m)) :=
  ⟨h.bl.setCell (by show w.heap.size ≤ w.heap.size + 1; omega) _, (set_other_heap (heap_lt h.s) (by omega)).trans h.s, heap_set _ h.n⟩
set_option maxRecDepth 100000 in
set_option maxHeartbeats 4000000 in
theorem most_78 (F : FL) (f : Fair) (hf : FOK f) (rd : List Int) (b : Nat) (p : Nat → Bool) (w : World) (hO : OpenAt w b F f rd)
    (hP : ∀ m : Nat, m < 2 ^ f.q.length → ∀ X, Below w.heap.size w X → Calls Try.prog 91 #[.int .i64 (m : Int)] X fun e X' => e = .returned (.bool (p m)) ∧ Below X.heap.size X X') :
    Calls Try.prog 90 #[.pointer (some ⟨b, 0, none⟩), .func (.func 91) #[] #[]] w fun e w' => e = .returned (.int .i64 (mostTo f.q p (setsL f.q rd))) ∧ Below w.heap.size w w' := by
  have h1 := heap_keep (o' := .cells #[.int .i64 0] 3) (heap_new1 w (.cells #[.func (.func 91) #[] #[]] 132))
  have h2 := heap_new2 w (.cells #[.func (.func 91) #[] #[]] 132) (.cells #[.int .i64 0] 3)
  have hb2 := hb0to (al_below w (.cells #[.func (.func 91) #[] #[]] 132)) (al_below _ (.cells #[.int .i64 0] 3))
  obtain ⟨W2, hW2⟩ : ∃ W2, (w.alloc (.cells #[.func (.func 91) #[] #[]] 132)).alloc (.cells #[.int .i64 0] 3) = W2 := ⟨_, rfl⟩
  rw [hW2] at h1 h2 hb2
  have q1 := cell_of_heap (o := 0) h1 rfl
  have q2 := cell_of_heap (o := 0) h2 rfl
  have q3 := frozen_of_heap h2
  have qb1 := heap_lt h1
  have qb2 := heap_lt h2
  have H1 := Lib.hid h1
  have H2 := Lib.hid h2
  have HB2 := Lib.hid hb2
  have HO := Lib.hid hO
  have HF := Lib.hid hf
  have HP := Lib.hid hP
  clear h1 h2 hb2 hO hf hP
  refine (callsIn_wide (n := 10)).1 ?_
  refine callsIn_of_wp_marks Try.func90 rfl trivial ?_ rfl
  simp only [Try.ntmps90, List.size_toArray, List.length_cons, List.length_nil, Nat.reduceAdd, Nat.reduceSub, Array.replicate_succ, Array.replicate_zero, List.push_toArray, List.append_toArray, List.nil_append, List.cons_append]
  gi_wp2_with (fail)
  have hI1 : MostI w (.func (.func 91) #[] #[]) (-1) (W2.setCell ⟨w.heap.size + 1, 0, none⟩ (.int .i64 (-1))) := ⟨HB2.out.setCell (by show w.heap.size ≤ w.heap.size + 1; omega) _, (set_other_heap (heap_lt H1.out) (by omega)).trans H1.out, heap_set _ H2.out⟩
  have hz1 : (W2.setCell ⟨w.heap.size + 1, 0, none⟩ (.int .i64 (-1))).heap.size = W2.heap.size := by simp [World.setCell]
  obtain ⟨W1, hW1⟩ : ∃ W1, W2.setCell ⟨w.heap.size + 1, 0, none⟩ (.int .i64 (-1)) = W1 := ⟨_, rfl⟩
  rw [hW1] at hI1 hz1 ⊢
  have HI1 := Lib.hid hI1
  have hzw : w.heap.size + 2 ≤ W1.heap.size := by omega
  clear hW1 q1 q2 q3 hI1 hz1 hW2
  refine wpIn_rangeFunc_makes (S := fun k => k = w.heap.size + 1) (Sees := SeesN f.q) (fb := #[.pointer (some ⟨b, 0, none⟩)]) (lb := #[]) (xs := setsL f.q rd) (w0 := W1) rfl (by omega) rfl trivial (fun _ _ => rfl)
    (sales_makes 9 F f HF.out rd b w W1 HO.out HI1.out.bl (fun k => k = w.heap.size + 1) (fun k hk => by omega)) (Below.refl _ _) (fun k hk => by omega)
    (fun B x args X hs => by cases hs; rfl) (fun B x args X Y _ hs hk => hs)
    (fun pre X => MostI w (.func (.func 91) #[] #[]) (mostTo f.q p pre) X)
    (fun c pre X => False)
    ?hI ?hIx ?h0 (fun x args a' X => a' = { tmps := #[.pointer (some ⟨b, 0, none⟩), .func (.func 91) #[] #[], undef, .pointer (some ⟨w.heap.size, 0, none⟩), .int .i64 0, .pointer (some ⟨w.heap.size + 1, 0, none⟩), args.getD 0 undef, args.getD 1 undef, .pointer (some ⟨b, 0, none⟩), .func (.func 140) #[.pointer (some ⟨b, 0, none⟩)] #[], args.getD 0 undef, args.getD 1 undef, undef, undef, undef, undef, undef, undef, undef], defers := [] }) ?hAx ?hassign ?hbody ?hdone ?hstop
  case hI =>
    intro q X Y hX h hk
    exact h.kp hk (fun k hs => by have := hs.1; omega)
  case hIx => exact fun _ _ _ _ _ h _ => h.elim
  case h0 =>
    intro X hX hb
    exact HI1.out.kp (kpB_of_below hb (S := fun _ => False)) (fun _ h => h.elim)
  case hAx => exact fun _ _ _ _ _ _ h _ => h
  case hassign =>
    intro l' x args X K hz hs hK
    cases hs
    have hK' := hK _ X (.inl rfl) rfl
    clear hK
    simp only [List.zip_toArray, List.zip_cons_cons, List.zip_nil_right, List.foldl_toArray, List.foldl_cons, List.foldl_nil, List.setIfInBounds_toArray, List.set_cons_succ, List.set_cons_zero]
    gi_wp2_with (fail)
    exact hK'
  case hbody =>
    rintro l' pre m args a' X hX hpre hI hsee rfl
    cases hsee
    have hxm := (mem_setsTo.1 (hpre.subset (List.mem_append_right _ (List.mem_singleton.2 rfl)))).1
    have H103 := HP.out m hxm X hI.bl
    have HN := Lib.hid (mostTo_snoc f.q p pre m)
    have hz0 := brings_nonneg HF.out.pos (bitsL f.q.length m)
    generalize hm : mostTo f.q p pre = n at hI HN
    generalize hv : bringsL f.q (bitsL f.q.length m) = v at HN hz0
    have e0 := cell_of_heap (o := 0) hI.s rfl
    have HI := Lib.hid hI
    clear hm hv hI
    cases hp : p m
    · rw [hp] at H103 HN
      have H103 := Lib.hid H103
      clear hp
      gi_wp2_with (refine ⟨trivial, ?_⟩; gi_at_call 91; refine (CallsIn.mono (CallsIn.inRound l' (callsIn_wide.2 H103.out)) ?_); rintro e W5 ⟨rfl, hb5⟩; have HB5 := Lib.hid hb5; clear hb5)
      refine ⟨kpB_of_below HB5.out, ?_⟩
      show MostI w (.func (.func 91) #[] #[]) (mostTo f.q p (pre ++ [m])) _
      rw [HN.out]
      exact HI.out.kp (S := fun _ => False) (kpB_of_below HB5.out) (fun _ h => h.elim)
    · rw [hp, if_pos rfl] at HN
      rw [hp] at H103
      have H103 := Lib.hid H103
      clear hp
      by_cases hlt : n < v
      · have hle : n ≤ v := by omega
        gi_wp2_with (refine ⟨trivial, ?_⟩; gi_at_call 91; refine (CallsIn.mono (CallsIn.inRound l' (callsIn_wide.2 H103.out)) ?_); rintro e W5 ⟨rfl, hb5⟩; have HB5 := Lib.hid hb5; have HI5 := Lib.hid (HI.out.kp (S := fun _ => False) (kpB_of_below hb5) (fun _ h => h.elim)); have e1 := cell_of_heap (o := 0) HI5.out.n rfl; have e2 := frozen_of_heap HI5.out.n; clear hb5)
        refine ⟨(kpB_of_below HB5.out).set _ _ (.inl rfl), ?_⟩
        show MostI w (.func (.func 91) #[] #[]) (mostTo f.q p (pre ++ [m])) _
        rw [HN.out, Int.max_eq_right hle]
        exact HI5.out.set _
      · have hle : v ≤ n := by omega
        gi_wp2_with (refine ⟨trivial, ?_⟩; gi_at_call 91; refine (CallsIn.mono (CallsIn.inRound l' (callsIn_wide.2 H103.out)) ?_); rintro e W5 ⟨rfl, hb5⟩; have HB5 := Lib.hid hb5; have HI5 := Lib.hid (HI.out.kp (S := fun _ => False) (kpB_of_below hb5) (fun _ h => h.elim)); have e1 := cell_of_heap (o := 0) HI5.out.n rfl; have e2 := frozen_of_heap HI5.out.n; clear hb5)
        refine ⟨(kpB_of_below HB5.out).set _ _ (.inl rfl), ?_⟩
        show MostI w (.func (.func 91) #[] #[]) (mostTo f.q p (pre ++ [m])) _
        rw [HN.out, Int.max_eq_left hle]
        exact HI5.out.set _
  case hdone =>
    rintro X hX hI hk
    have e1 := cell_of_heap (o := 0) hI.n rfl
    have HB := Lib.hid hI.bl
    have HK := Lib.hid hk
    clear hI hk
    gi_wp2_with (fail)
    refine ⟨by simp, .inl ⟨_, _, rfl, run_takeDeferred HK.out, ?_⟩⟩
    refine ⟨.int .i64 (mostTo f.q p (setsL f.q rd)), by simp [results, Try.results90, go_sem], rfl, ?_⟩
    exact HB.out.trans (KpB.belowOf (S := fun k => k = W1.heap.size) ((KpB.refl _ _ _).put _ _ (.inl rfl)) HB.out.size (fun k hk => by omega))
  case hstop => exact fun _ _ _ _ _ h => h.elim

open Go.RowKit

attribute [local go_sem] Oper.semAt_some
end Go.Proofs.Ytmbcpmnigggbaaa
namespace Go.Proofs.Ytmbcpmnigggbaaa
open Go.RowKit

attribute [local go_sem] Oper.semAt_some
open Go.RowKit

attribute [local go_sem] Oper.semAt_some
set_option maxRecDepth 100000 in
set_option maxHeartbeats 4000000 in
theorem most_100 (F : FL) (f : Fair) (hf : FOK f) (rd : List Int) (b : Nat) (g : Nat) (p : Nat → Bool) (w : World) (hO : OpenAt w b F f rd)
    (hP : ∀ m : Nat, m < 2 ^ f.q.length → ∀ X, Below w.heap.size w X → Calls Try.prog 159 #[.int .i64 (m : Int), .pointer (some ⟨g, 0, none⟩)] X fun e X' => e = .returned (.bool (p m)) ∧ Below X.heap.size X X') :
    Calls Try.prog 90 #[.pointer (some ⟨b, 0, none⟩), .func (.func 159) #[] #[.pointer (some ⟨g, 0, none⟩)]] w fun e w' => e = .returned (.int .i64 (mostTo f.q p (setsL f.q rd))) ∧ Below w.heap.size w w' := by
  have h1 := heap_keep (o' := .cells #[.int .i64 0] 3) (heap_new1 w (.cells #[.func (.func 159) #[] #[.pointer (some ⟨g, 0, none⟩)]] 132))
  have h2 := heap_new2 w (.cells #[.func (.func 159) #[] #[.pointer (some ⟨g, 0, none⟩)]] 132) (.cells #[.int .i64 0] 3)
  have hb2 := hb0to (al_below w (.cells #[.func (.func 159) #[] #[.pointer (some ⟨g, 0, none⟩)]] 132)) (al_below _ (.cells #[.int .i64 0] 3))
  obtain ⟨W2, hW2⟩ : ∃ W2, (w.alloc (.cells #[.func (.func 159) #[] #[.pointer (some ⟨g, 0, none⟩)]] 132)).alloc (.cells #[.int .i64 0] 3) = W2 := ⟨_, rfl⟩
  rw [hW2] at h1 h2 hb2
  have q1 := cell_of_heap (o := 0) h1 rfl
  have q2 := cell_of_heap (o := 0) h2 rfl
  have q3 := frozen_of_heap h2
  have qb1 := heap_lt h1
  have qb2 := heap_lt h2
  have H1 := Lib.hid h1
  have H2 := Lib.hid h2
  have HB2 := Lib.hid hb2
  have HO := Lib.hid hO
  have HF := Lib.hid hf
  have HP := Lib.hid hP
  clear h1 h2 hb2 hO hf hP
  refine (callsIn_wide (n := 10)).1 ?_
  refine callsIn_of_wp_marks Try.func90 rfl trivial ?_ rfl
  simp only [Try.ntmps90, List.size_toArray, List.length_cons, List.length_nil, Nat.reduceAdd, Nat.reduceSub, Array.replicate_succ, Array.replicate_zero, List.push_toArray, List.append_toArray, List.nil_append, List.cons_append]
  gi_wp2_with (fail)
  have hI1 : MostI w (.func (.func 159) #[] #[.pointer (some ⟨g, 0, none⟩)]) (-1) (W2.setCell ⟨w.heap.size + 1, 0, none⟩ (.int .i64 (-1))) := ⟨HB2.out.setCell (by show w.heap.size ≤ w.heap.size + 1; omega) _, (set_other_heap (heap_lt H1.out) (by omega)).trans H1.out, heap_set _ H2.out⟩
  have hz1 : (W2.setCell ⟨w.heap.size + 1, 0, none⟩ (.int .i64 (-1))).heap.size = W2.heap.size := by simp [World.setCell]
  obtain ⟨W1, hW1⟩ : ∃ W1, W2.setCell ⟨w.heap.size + 1, 0, none⟩ (.int .i64 (-1)) = W1 := ⟨_, rfl⟩
  rw [hW1] at hI1 hz1 ⊢
  have HI1 := Lib.hid hI1
  have hzw : w.heap.size + 2 ≤ W1.heap.size := by omega
  clear hW1 q1 q2 q3 hI1 hz1 hW2
  refine wpIn_rangeFunc_makes (S := fun k => k = w.heap.size + 1) (Sees := SeesN f.q) (fb := #[.pointer (some ⟨b, 0, none⟩)]) (lb := #[]) (xs := setsL f.q rd) (w0 := W1) rfl (by omega) rfl trivial (fun _ _ => rfl)
    (sales_makes 9 F f HF.out rd b w W1 HO.out HI1.out.bl (fun k => k = w.heap.size + 1) (fun k hk => by omega)) (Below.refl _ _) (fun k hk => by omega)
    (fun B x args X hs => by cases hs; rfl) (fun B x args X Y _ hs hk => hs)
    (fun pre X => MostI w (.func (.func 159) #[] #[.pointer (some ⟨g, 0, none⟩)]) (mostTo f.q p pre) X)
    (fun c pre X => False)
    ?hI ?hIx ?h0 (fun x args a' X => a' = { tmps := #[.pointer (some ⟨b, 0, none⟩), .func (.func 159) #[] #[.pointer (some ⟨g, 0, none⟩)], undef, .pointer (some ⟨w.heap.size, 0, none⟩), .int .i64 0, .pointer (some ⟨w.heap.size + 1, 0, none⟩), args.getD 0 undef, args.getD 1 undef, .pointer (some ⟨b, 0, none⟩), .func (.func 140) #[.pointer (some ⟨b, 0, none⟩)] #[], args.getD 0 undef, args.getD 1 undef, undef, undef, undef, undef, undef, undef, undef], defers := [] }) ?hAx ?hassign ?hbody ?hdone ?hstop
  case hI =>
    intro q X Y hX h hk
    exact h.kp hk (fun k hs => by have := hs.1; omega)
  case hIx => exact fun _ _ _ _ _ h _ => h.elim
  case h0 =>
    intro X hX hb
    exact HI1.out.kp (kpB_of_below hb (S := fun _ => False)) (fun _ h => h.elim)
  case hAx => exact fun _ _ _ _ _ _ h _ => h
  case hassign =>
    intro l' x args X K hz hs hK
    cases hs
    have hK' := hK _ X (.inl rfl) rfl
    clear hK
    simp only [List.zip_toArray, List.zip_cons_cons, List.zip_nil_right, List.foldl_toArray, List.foldl_cons, List.foldl_nil, List.setIfInBounds_toArray, List.set_cons_succ, List.set_cons_zero]
    gi_wp2_with (fail)
    exact hK'
  case hbody =>
    rintro l' pre m args a' X hX hpre hI hsee rfl
    cases hsee
    have hxm := (mem_setsTo.1 (hpre.subset (List.mem_append_right _ (List.mem_singleton.2 rfl)))).1
    have H103 := HP.out m hxm X hI.bl
    have HN := Lib.hid (mostTo_snoc f.q p pre m)
    have hz0 := brings_nonneg HF.out.pos (bitsL f.q.length m)
    generalize hm : mostTo f.q p pre = n at hI HN
    generalize hv : bringsL f.q (bitsL f.q.length m) = v at HN hz0
    have e0 := cell_of_heap (o := 0) hI.s rfl
    have HI := Lib.hid hI
    clear hm hv hI
    cases hp : p m
    · rw [hp] at H103 HN
      have H103 := Lib.hid H103
      clear hp
      gi_wp2_with (refine ⟨trivial, ?_⟩; gi_at_call 159; refine (CallsIn.mono (CallsIn.inRound l' (callsIn_wide.2 H103.out)) ?_); rintro e W5 ⟨rfl, hb5⟩; have HB5 := Lib.hid hb5; clear hb5)
      refine ⟨kpB_of_below HB5.out, ?_⟩
      show MostI w (.func (.func 159) #[] #[.pointer (some ⟨g, 0, none⟩)]) (mostTo f.q p (pre ++ [m])) _
      rw [HN.out]
      exact HI.out.kp (S := fun _ => False) (kpB_of_below HB5.out) (fun _ h => h.elim)
    · rw [hp, if_pos rfl] at HN
      rw [hp] at H103
      have H103 := Lib.hid H103
      clear hp
      by_cases hlt : n < v
      · have hle : n ≤ v := by omega
        gi_wp2_with (refine ⟨trivial, ?_⟩; gi_at_call 159; refine (CallsIn.mono (CallsIn.inRound l' (callsIn_wide.2 H103.out)) ?_); rintro e W5 ⟨rfl, hb5⟩; have HB5 := Lib.hid hb5; have HI5 := Lib.hid (HI.out.kp (S := fun _ => False) (kpB_of_below hb5) (fun _ h => h.elim)); have e1 := cell_of_heap (o := 0) HI5.out.n rfl; have e2 := frozen_of_heap HI5.out.n; clear hb5)
        refine ⟨(kpB_of_below HB5.out).set _ _ (.inl rfl), ?_⟩
        show MostI w (.func (.func 159) #[] #[.pointer (some ⟨g, 0, none⟩)]) (mostTo f.q p (pre ++ [m])) _
        rw [HN.out, Int.max_eq_right hle]
        exact HI5.out.set _
      · have hle : v ≤ n := by omega
        gi_wp2_with (refine ⟨trivial, ?_⟩; gi_at_call 159; refine (CallsIn.mono (CallsIn.inRound l' (callsIn_wide.2 H103.out)) ?_); rintro e W5 ⟨rfl, hb5⟩; have HB5 := Lib.hid hb5; have HI5 := Lib.hid (HI.out.kp (S := fun _ => False) (kpB_of_below hb5) (fun _ h => h.elim)); have e1 := cell_of_heap (o := 0) HI5.out.n rfl; have e2 := frozen_of_heap HI5.out.n; clear hb5)
        refine ⟨(kpB_of_below HB5.out).set _ _ (.inl rfl), ?_⟩
        show MostI w (.func (.func 159) #[] #[.pointer (some ⟨g, 0, none⟩)]) (mostTo f.q p (pre ++ [m])) _
        rw [HN.out, Int.max_eq_left hle]
        exact HI5.out.set _
  case hdone =>
    rintro X hX hI hk
    have e1 := cell_of_heap (o := 0) hI.n rfl
    have HB := Lib.hid hI.bl
    have HK := Lib.hid hk
    clear hI hk
    gi_wp2_with (fail)
    refine ⟨by simp, .inl ⟨_, _, rfl, run_takeDeferred HK.out, ?_⟩⟩
    refine ⟨.int .i64 (mostTo f.q p (setsL f.q rd)), by simp [results, Try.results90, go_sem], rfl, ?_⟩
    exact HB.out.trans (KpB.belowOf (S := fun k => k = W1.heap.size) ((KpB.refl _ _ _).put _ _ (.inl rfl)) HB.out.size (fun k hk => by omega))
  case hstop => exact fun _ _ _ _ _ h => h.elim

end Go.Proofs.Ytmbcpmnigggbaaa
