import Derived.Deep.RegionHeld3
import Derived.Test.YtmbcpmnigggbaaaSL4
import Derived.Test.YtmbcpmnigggbaaaH1
import Derived.Test.YtmbcpmnigggbaaaRows
import Derived.Test.YtmbcpmnigggbaaaC3
import Derived.Test.YtmbcpmnigggbaaaS6
import Derived.WalkKit
import Derived.ProofKit
import Derived.OpenShut
import Derived.Carry
import Derived.Deep.Slices
import Derived.Deep.Fields
import Derived.ChangeSame
import Derived.Lib.SmallJoins
import Derived.ChangeSlices
import Derived.Test.YtmbcpmnigggbaaaFK
import Derived.Maps.OwnOps
import Derived.Maps.OwnSet
import Derived.Maps.Own
import Derived.Maps.Views
namespace Go.Proofs.Ytmbcpmnigggbaaa.Cu
section
variable {P : Program} {ops : Array Oper} {Q : Exit → Act → World → Prop} {md : Region.Mode} {S : World → Prop}
theorem listed_count {listed : Array Bool} {i : Nat} (h : listed.getD i true = false) : (listed.setIfInBounds i true).toList.count false + 1 = listed.toList.count false := by
  have hi : i < listed.size := by
    rcases Nat.lt_or_ge i listed.size with h' | h'
    · exact h'
    · simp [Array.getElem?_eq_none h'] at h
  obtain ⟨l⟩ := listed
  simp at hi h
  have h0 : l[i] = false := by simpa [hi] using h
  have hp : 0 < l.count false := List.count_pos_iff.2 (h0 ▸ List.getElem_mem hi)
  simp [List.count_set, h0, hi]
  omega
theorem not_ready {l : List Nat} {i : Nat} (h : l.contains i = false) (hi : i ∈ l) : False := by
  have := List.contains_iff_mem.2 hi
  rw [h] at this
  cases this
/-- Four operations of a region that come up in whatever order: each is looked at once, where it is ready, whatever of the others has come up; J says what holds (the four booleans: which has come up; the four values: what they yielded). Behind the four the region goes on. -/
theorem wpAnyH_fourR {i1 i2 i3 i4 n : Nat} {l0 : Array Bool} {a0 : Act} {w0 : World}
    (J : Bool → Bool → Bool → Bool → Value → Value → Value → Value → World → Prop) (L : Bool → Bool → Bool → Bool → Array Bool)
    (A : Act → Value → Value → Value → Value → Act)
    (hL : L false false false false = l0)
    (hl : ∀ b1 b2 b3 b4, (L b1 b2 b3 b4).setIfInBounds i1 true = L true b2 b3 b4 ∧ (L b1 b2 b3 b4).setIfInBounds i2 true = L b1 true b3 b4 ∧ (L b1 b2 b3 b4).setIfInBounds i3 true = L b1 b2 true b4 ∧ (L b1 b2 b3 b4).setIfInBounds i4 true = L b1 b2 b3 true)
    (V : Bool → Bool → Bool → Bool → Bool) (hV : ∀ b1 b2 b3 b4 x1 x2 x3 x4 w, J b1 b2 b3 b4 x1 x2 x3 x4 w → V b1 b2 b3 b4 = true)
    (hr : ∀ b1 b2 b3 b4, V b1 b2 b3 b4 = true → (b1 && b2 && b3 && b4) = true ∨ ((Region.ready md ops (L b1 b2 b3 b4)).isEmpty = false ∧ (Region.ready md ops (L b1 b2 b3 b4)).all (fun i => (i == i1 && !b1) || (i == i2 && !b2) || (i == i3 && !b3) || (i == i4 && !b4)) = true))
    (h0 : ∃ x1 x2 x3 x4, a0 = A a0 x1 x2 x3 x4 ∧ J false false false false x1 x2 x3 x4 w0)
    (h1 : ∀ b2 b3 b4 x1 x2 x3 x4 w, i1 ∈ Region.ready md ops (L false b2 b3 b4) → S w → J false b2 b3 b4 x1 x2 x3 x4 w → wpOp P ops Q i1 (fun a' w' => S w' ∧ ∃ v, a' = A a0 v x2 x3 x4 ∧ J true b2 b3 b4 v x2 x3 x4 w') (A a0 x1 x2 x3 x4) w)
    (h2 : ∀ b1 b3 b4 x1 x2 x3 x4 w, i2 ∈ Region.ready md ops (L b1 false b3 b4) → S w → J b1 false b3 b4 x1 x2 x3 x4 w → wpOp P ops Q i2 (fun a' w' => S w' ∧ ∃ v, a' = A a0 x1 v x3 x4 ∧ J b1 true b3 b4 x1 v x3 x4 w') (A a0 x1 x2 x3 x4) w)
    (h3 : ∀ b1 b2 b4 x1 x2 x3 x4 w, i3 ∈ Region.ready md ops (L b1 b2 false b4) → S w → J b1 b2 false b4 x1 x2 x3 x4 w → wpOp P ops Q i3 (fun a' w' => S w' ∧ ∃ v, a' = A a0 x1 x2 v x4 ∧ J b1 b2 true b4 x1 x2 v x4 w') (A a0 x1 x2 x3 x4) w)
    (h4 : ∀ b1 b2 b3 x1 x2 x3 x4 w, i4 ∈ Region.ready md ops (L b1 b2 b3 false) → S w → J b1 b2 b3 false x1 x2 x3 x4 w → wpOp P ops Q i4 (fun a' w' => S w' ∧ ∃ v, a' = A a0 x1 x2 x3 v ∧ J b1 b2 b3 true x1 x2 x3 v w') (A a0 x1 x2 x3 x4) w)
    (hE : ∀ x1 x2 x3 x4 w, S w → J true true true true x1 x2 x3 x4 w → wpAnyH P md ops Q S n (L true true true true) (A a0 x1 x2 x3 x4) w)
    (hS : S w0) : wpAnyH P md ops Q S (n + 4) l0 a0 w0 := by
  have main : ∀ (k : Nat) b1 b2 b3 b4 x1 x2 x3 x4 w, (!b1).toNat + (!b2).toNat + (!b3).toNat + (!b4).toNat = k → S w → J b1 b2 b3 b4 x1 x2 x3 x4 w →
      wpAnyH P md ops Q S (n + k) (L b1 b2 b3 b4) (A a0 x1 x2 x3 x4) w := by
    intro k
    induction k with
    | zero =>
      intro b1 b2 b3 b4 x1 x2 x3 x4 w hk hS hJ
      cases b1 <;> cases b2 <;> cases b3 <;> cases b4 <;> first | exact hE _ _ _ _ _ hS hJ | exact absurd hk (by decide)
    | succ k ih =>
      intro b1 b2 b3 b4 x1 x2 x3 x4 w hk hS hJ
      rcases hr b1 b2 b3 b4 (hV _ _ _ _ _ _ _ _ _ hJ) with h | ⟨hne, hall⟩
      · cases b1 <;> cases b2 <;> cases b3 <;> cases b4 <;> first | (exact absurd h (by decide)) | exact absurd hk (by simp)
      · refine ⟨fun h => by rw [h] at hne; exact absurd hne (by decide), fun i hi => ?_⟩
        have hx := List.all_eq_true.1 hall i hi
        simp only [Bool.or_eq_true, Bool.and_eq_true, beq_iff_eq, Bool.not_eq_true'] at hx
        rcases hx with ((⟨rfl, rfl⟩ | ⟨rfl, rfl⟩) | ⟨rfl, rfl⟩) | ⟨rfl, rfl⟩
        · refine wpOp_mono ?_ (h1 _ _ _ _ _ _ _ _ hi hS hJ)
          rintro a' w' ⟨hS', v, rfl, hJ'⟩
          rw [(hl _ _ _ _).1]
          exact ⟨hS', ih _ _ _ _ _ _ _ _ _ (by simp at hk ⊢; omega) hS' hJ'⟩
        · refine wpOp_mono ?_ (h2 _ _ _ _ _ _ _ _ hi hS hJ)
          rintro a' w' ⟨hS', v, rfl, hJ'⟩
          rw [(hl _ _ _ _).2.1]
          exact ⟨hS', ih _ _ _ _ _ _ _ _ _ (by simp at hk ⊢; omega) hS' hJ'⟩
        · refine wpOp_mono ?_ (h3 _ _ _ _ _ _ _ _ hi hS hJ)
          rintro a' w' ⟨hS', v, rfl, hJ'⟩
          rw [(hl _ _ _ _).2.2.1]
          exact ⟨hS', ih _ _ _ _ _ _ _ _ _ (by simp at hk ⊢; omega) hS' hJ'⟩
        · refine wpOp_mono ?_ (h4 _ _ _ _ _ _ _ _ hi hS hJ)
          rintro a' w' ⟨hS', v, rfl, hJ'⟩
          rw [(hl _ _ _ _).2.2.2]
          exact ⟨hS', ih _ _ _ _ _ _ _ _ _ (by simp at hk ⊢; omega) hS' hJ'⟩
  obtain ⟨x1, x2, x3, x4, ha, hJ⟩ := h0
  have := main 4 false false false false x1 x2 x3 x4 w0 rfl hS hJ
  rw [hL, ← ha] at this
  exact this
end
end Go.Proofs.Ytmbcpmnigggbaaa.Cu
namespace Go.Proofs.Ytmbcpmnigggbaaa.Cu
open Go.RowKit
attribute [local go_sem] Oper.semAt_some

/-! TopSalted 3. -/
theorem drew_belowS (w : World) : Below w.heap.size w w.drew := (Below.refl _ w).drew
theorem toSa {W : World} {B : Nat} {A : Option Addr} {l : List Int} (h : IntsAt W B A l) : Sa.IntsAt W B A l := h
/-- 'append(out, x)' at a step of a region that draws its order; what grows, and where it lies then, is told. -/
theorem step_appD {ops : Array Oper} {o : Oper} {a : Act} {w : World} {K : Act → World → Prop} {Q : Exit → Act → World → Prop} {E : Prop} (hgd : o.guard = none) (s x : Operand)
    (ho : o.op = .call { callee := .builtin .append, args := #[s, x], argTypes := #[25, 25] }) (n₀ base : Nat) (v : Value) (l : List Int) (k : Int) (hs : a.eval s = v) (hown : Ints w base v l)
    (ad : Addr) (c : Nat) (hx : a.eval x = .slice (some ad) 1 c) (hc : w.cell? ad = some (.int .i64 k)) (hl : l.length ≤ 1000) (hbase : base ≤ w.heap.size) (hn : n₀ ≤ base)
    (h : ∀ v' w', Ints w' base v' (l ++ [k]) → Below n₀ w w' → w.grownBy w' v.ownBlock → (∀ g, v'.ownBlock = some g → v.ownBlock = some g ∨ w.heap.size ≤ g) → K (a.put o.dst v') w') :
    if Region.wanted o (yielded ops a.tmps) = true then Oper.wp Try.prog o a w K Q else E := by
  have hw : Region.wanted o (yielded ops a.tmps) = true := by simp [Region.wanted, hgd]
  rw [if_pos hw]
  obtain ⟨i0, hi, hz0, hz1, hz2⟩ := info_parts info3'
  obtain ⟨v', w', hr, h2, h3, _⟩ := run_append_own (P := Try.prog) w base 25 o.type 3 i0 (.int .i64 0) 1 8 Try.underlying25 hi hz0 hz1 hz2 rfl (by decide) v l.length (l.map (.int .i64)) hown ad 1 c [.int .i64 k] rfl
    (fun j u hj => by
      match j, hj with
      | 0, hj => simp at hj; subst hj; simpa [Addr.add] using hc) (fun u hu => by simp at hu; subst hu; rfl) (by unfold maxLen; omega) (by omega) hbase
  have h5 := run_app_where hi hz0 hz1 hz2 base o.type v l.length _ hown ad c _ hc rfl (by omega) hr
  unfold Oper.wp execOp
  simp only [ho, resolve, invoke, builtin, Sem.run_bind, Sem.run_pure, Result.andThen_ok, List.map_toArray, List.map_cons, List.map_nil, hs, hx, hr]
  refine h v' w' ?_ (own_below hown h3 (by omega) hn) h3 h5
  unfold Ints
  rw [List.length_append, List.map_append]
  exact h2
/-- The least, and the greatest weights of the first parts. -/
def lowL (t : List CP) (k : Nat) : List Int := (List.range k).map fun i => lowF t (eachW i)
def highL (t : List CP) (k : Nat) : List Int := (List.range k).map fun i => highF t (eachW i)
theorem lowL_succ (t : List CP) (k : Nat) : lowL t (k + 1) = lowL t k ++ [lowF t (eachW k)] := by simp [lowL, List.range_succ]
theorem highL_succ (t : List CP) (k : Nat) : highL t (k + 1) = highL t k ++ [highF t (eachW k)] := by simp [highL, List.range_succ]
theorem lowL_len (t : List CP) (k : Nat) : (lowL t k).length = k := by simp [lowL]
theorem highL_len (t : List CP) (k : Nat) : (highL t k).length = k := by simp [highL]
theorem salt_weights {t : List CP} (hT : TOK t) {x : List Int} (hx : Truth t x) :
    (lowL t t.length).length = x.length ∧ x.length = (highL t t.length).length ∧ (∀ (i : Nat) a b, (lowL t t.length)[i]? = some a → x[i]? = some b → a ≤ b) ∧ (∀ (i : Nat) a b, x[i]? = some a → (highL t t.length)[i]? = some b → a ≤ b) ∧
    (∀ a ∈ lowL t t.length, 0 ≤ a ∧ a ≤ 40) ∧ (∀ a ∈ x, 0 ≤ a ∧ a ≤ 40) ∧ (∀ a ∈ highL t t.length, 0 ≤ a ∧ a ≤ 40) := by
  have hn := hx.p.n
  have hxr := hx.p.r
  have key : ∀ (i : Nat), i < t.length → ∃ y, x[i]? = some y ∧ 0 ≤ lowF t (eachW i) ∧ lowF t (eachW i) ≤ y ∧ y ≤ highF t (eachW i) ∧ highF t (eachW i) ≤ 30 := fun i hi => by
    obtain ⟨y, hy⟩ : ∃ y, x[i]? = some y := ⟨_, List.getElem?_eq_getElem (by omega)⟩
    have h1 := weight_facts hT hx hi
    have h2 : x.getD i 0 = y := by rw [List.getD_eq_getElem?_getD, hy]; rfl
    rw [h2] at h1
    exact ⟨y, hy, h1.1, h1.2.1, h1.2.2.2.1, h1.2.2.2.2⟩
  refine ⟨by rw [lowL_len, hn], by rw [highL_len, hn], fun i a b ha hb => ?_, fun i a b ha hb => ?_, fun a ha => ?_, fun a ha => by have := hxr a ha; omega, fun a ha => ?_⟩
  · have hi := (List.getElem?_eq_some_iff.1 ha).1
    rw [lowL_len] at hi
    obtain ⟨y, hy, h1, h2, _⟩ := key i hi
    unfold lowL at ha
    rw [List.getElem?_map, List.getElem?_range hi] at ha
    simp at ha
    rw [hb] at hy
    cases hy
    omega
  · have hi := (List.getElem?_eq_some_iff.1 hb).1
    rw [highL_len] at hi
    obtain ⟨y, hy, h1, h2, h3, _⟩ := key i hi
    unfold highL at hb
    rw [List.getElem?_map, List.getElem?_range hi] at hb
    simp at hb
    rw [ha] at hy
    cases hy
    omega
  · obtain ⟨i, hi, rfl⟩ := List.mem_map.1 ha
    obtain ⟨y, _, h1, h2, h3, h4⟩ := key i (List.mem_range.1 hi)
    omega
  · obtain ⟨i, hi, rfl⟩ := List.mem_map.1 ha
    obtain ⟨y, _, h1, h2, h3, h4⟩ := key i (List.mem_range.1 hi)
    omega
/-- Two lists that grow by turns. -/
structure TwoI (base q : Nat) (lv hv : Value) (ls hs : List Int) (a b : Int) (W0 W : World) : Prop where
  B : Below base W0 W
  lo : Ints W base lv ls
  hi : Ints W base hv hs
  ne : ∀ g, lv.ownBlock = some g → hv.ownBlock ≠ some g
  cq : W.heap[q]? = some (.cells #[.int .i64 a, .int .i64 b] 35 (0, 0))
  nl : ∀ g, lv.ownBlock = some g → g ≠ q
  nh : ∀ g, hv.ownBlock = some g → g ≠ q
section
variable {base q : Nat} {lv hv v' : Value} {ls hs : List Int} {a b : Int} {W0 W W' : World}
theorem TwoI.next (M : TwoI base q lv hv ls hs a b W0 W) (hb : Below W.heap.size W W') (hz : base ≤ W.heap.size) : TwoI base q lv hv ls hs a b W0 W' :=
  ⟨M.B.trans (hb.mono hz), M.lo.below_ hb (Nat.le_refl _), M.hi.below_ hb (Nat.le_refl _), M.ne, (hb.block _ (heap_lt M.cq)).trans M.cq, M.nl, M.nh⟩
theorem TwoI.appL (M : TwoI base q lv hv ls hs a b W0 W) (h1 : Ints W' base v' (ls ++ [a])) (hb : Below base W W') (hg : W.grownBy W' lv.ownBlock) (hw : ∀ g, v'.ownBlock = some g → lv.ownBlock = some g ∨ W.heap.size ≤ g) : TwoI base q v' hv (ls ++ [a]) hs a b W0 W' := by
  have hq := heap_lt M.cq
  refine ⟨M.B.trans hb, h1, M.hi.keepG hg (fun g e1 e2 => M.ne g e2 e1), fun g e1 e2 => ?_, (hg.block q hq (fun e => M.nl q e.symm rfl)).trans M.cq, fun g e1 => ?_, M.nh⟩
  · rcases hw g e1 with h | h
    · exact M.ne g h e2
    · have := ints_blk M.hi g e2
      omega
  · rcases hw g e1 with h | h
    · exact M.nl g h
    · omega
theorem TwoI.appH (M : TwoI base q lv hv ls hs a b W0 W) (h1 : Ints W' base v' (hs ++ [b])) (hb : Below base W W') (hg : W.grownBy W' hv.ownBlock) (hw : ∀ g, v'.ownBlock = some g → hv.ownBlock = some g ∨ W.heap.size ≤ g) : TwoI base q lv v' ls (hs ++ [b]) a b W0 W' := by
  have hq := heap_lt M.cq
  refine ⟨M.B.trans hb, M.lo.keepG hg (fun g e1 e2 => M.ne g e1 e2), h1, fun g e1 e2 => ?_, (hg.block q hq (fun e => M.nh q e.symm rfl)).trans M.cq, M.nl, fun g e1 => ?_⟩
  · rcases hw g e2 with h | h
    · exact M.ne g e1 h
    · have := ints_blk M.lo g e1
      omega
  · rcases hw g e1 with h | h
    · exact M.nh g h
    · omega
theorem TwoI.cells (M : TwoI base q lv hv ls hs a b W0 W) : W.cell? ⟨q, 0, none⟩ = some (.int .i64 a) ∧ W.cell? ⟨q, 1, none⟩ = some (.int .i64 b) := ⟨cell_of_heap M.cq rfl, cell_of_heap M.cq rfl⟩
end
/-- What holds in the region of the two appends, whatever of it has come up. -/
structure J10 (base q : Nat) (lv hv : Value) (ls hs : List Int) (a b : Int) (W0 : World) (b1 b2 b3 b4 : Bool) (x1 x2 x3 x4 : Value) (w : World) : Prop where
  M : TwoI base q (bif b2 then x2 else lv) (bif b4 then x4 else hv) (bif b2 then ls ++ [a] else ls) (bif b4 then hs ++ [b] else hs) a b W0 w
  z : base ≤ w.heap.size
  o2 : b2 = true → b1 = true
  o4 : b4 = true → b3 = true ∧ b2 = true
  c : b1 = true → b2 = false → ∃ z, x1 = .slice (some ⟨z, 0, none⟩) 1 1 ∧ w.cell? ⟨z, 0, none⟩ = some (.int .i64 a)
  d : b3 = true → b4 = false → ∃ z, x3 = .slice (some ⟨z, 0, none⟩) 1 1 ∧ w.cell? ⟨z, 0, none⟩ = some (.int .i64 b) ∧ (b2 = false → ∀ g, lv.ownBlock = some g → g ≠ z)
section
variable {base q : Nat} {lv hv : Value} {ls hs : List Int} {a b : Int} {W0 : World} {b1 b2 b3 b4 : Bool} {x1 x2 x3 x4 : Value} {w w' : World}
theorem J10.next (h : J10 base q lv hv ls hs a b W0 b1 b2 b3 b4 x1 x2 x3 x4 w) (hb : Below w.heap.size w w') : J10 base q lv hv ls hs a b W0 b1 b2 b3 b4 x1 x2 x3 x4 w' := by
  refine ⟨h.M.next hb h.z, Nat.le_trans h.z hb.size, h.o2, h.o4, fun e1 e2 => ?_, fun e1 e2 => ?_⟩
  · obtain ⟨z, e, hc⟩ := h.c e1 e2
    exact ⟨z, e, below_cell hb hc⟩
  · obtain ⟨z, e, hc, hn⟩ := h.d e1 e2
    exact ⟨z, e, below_cell hb hc, hn⟩
theorem J10.one (h : J10 base q lv hv ls hs a b W0 false b2 b3 b4 x1 x2 x3 x4 w) : J10 base q lv hv ls hs a b W0 true b2 b3 b4 (.slice (some ⟨w.heap.size, 0, none⟩) 1 1) x2 x3 x4 (w.alloc (.cells #[.int .i64 a] 3)) := by
  have h' := h.next (al_below w (.cells #[.int .i64 a] 3))
  exact ⟨h'.M, h'.z, fun _ => rfl, h.o4, fun _ _ => ⟨w.heap.size, rfl, cell_of_heap (heap_new1 w _) rfl⟩, h'.d⟩
theorem J10.three (h : J10 base q lv hv ls hs a b W0 b1 b2 false b4 x1 x2 x3 x4 w) : J10 base q lv hv ls hs a b W0 b1 b2 true b4 x1 x2 (.slice (some ⟨w.heap.size, 0, none⟩) 1 1) x4 (w.alloc (.cells #[.int .i64 b] 3)) := by
  have h' := h.next (al_below w (.cells #[.int .i64 b] 3))
  refine ⟨h'.M, h'.z, h'.o2, fun e => ⟨rfl, (h.o4 e).2⟩, h'.c, fun _ _ => ⟨w.heap.size, rfl, cell_of_heap (heap_new1 w _) rfl, fun e g hg => ?_⟩⟩
  subst e
  have := ints_blk h.M.lo g hg
  omega
theorem J10.two {v : Value} (h : J10 base q lv hv ls hs a b W0 true false b3 b4 x1 x2 x3 x4 w) (h1 : Ints w' base v (ls ++ [a])) (hb : Below base w w') (hg : w.grownBy w' lv.ownBlock) (hw : ∀ g, v.ownBlock = some g → lv.ownBlock = some g ∨ w.heap.size ≤ g) : J10 base q lv hv ls hs a b W0 true true b3 b4 x1 v x3 x4 w' := by
  refine ⟨h.M.appL h1 hb hg hw, Nat.le_trans h.z hg.size, fun _ => rfl, fun e => ⟨(h.o4 e).1, rfl⟩, fun _ e => (by cases e), fun e1 e2 => ?_⟩
  obtain ⟨z, e, hc, hn⟩ := h.d e1 e2
  exact ⟨z, e, hg.cell hc (fun e3 => hn rfl z e3.symm rfl), fun e => (by cases e)⟩
theorem J10.four {v : Value} (h : J10 base q lv hv ls hs a b W0 b1 true true false x1 x2 x3 x4 w) (h1 : Ints w' base v (hs ++ [b])) (hb : Below base w w') (hg : w.grownBy w' hv.ownBlock) (hw : ∀ g, v.ownBlock = some g → hv.ownBlock = some g ∨ w.heap.size ≤ g) : J10 base q lv hv ls hs a b W0 b1 true true true x1 x2 x3 v w' :=
  ⟨h.M.appH h1 hb hg hw, Nat.le_trans h.z hg.size, h.o2, fun _ => ⟨rfl, rfl⟩, fun _ e => (by cases e), fun _ e => (by cases e)⟩
end
/-- The two lists that grow. -/
structure SOwn (base : Nat) (t : List CP) (k : Nat) (lv hv : Value) (W : World) : Prop where
  lo : Ints W base lv (lowL t k)
  hi : Ints W base hv (highL t k)
  ne : ∀ g, lv.ownBlock = some g → hv.ownBlock ≠ some g
theorem SOwn.next {base : Nat} {t : List CP} {k : Nat} {lv hv : Value} {W W' : World} (M : SOwn base t k lv hv W) (hb : Below W.heap.size W W') : SOwn base t k lv hv W' :=
  ⟨M.lo.below_ hb (Nat.le_refl _), M.hi.below_ hb (Nat.le_refl _), M.ne⟩
set_option maxRecDepth 100000 in
set_option maxHeartbeats 4000000 in
theorem salted_law (A0 : Option Addr) (c0 : Nat) (t : List CP) (L : Sa.HL) (h : Sa.House) (hok : Sa.HLOK L h) (A2 : Option Addr) (c2 : Nat) (x : List Int) (w : World)
    (hT : TableAt w w.heap.size A0 t) (hH : Sa.HouseAt w w.heap.size L h) (hI : IntsAt w w.heap.size A2 x) :
    Calls Try.prog 3 #[.slice A0 t.length c0, L.enc h, .slice A2 x.length c2] w fun e w' => e = .returned (.bool true) ∧ Below w.heap.size w w' := by
  have hb := al_below w (.cells #[.slice L.Ak h.ks.length L.ck, .int .i64 h.fl, .slice L.Ap h.ps.length L.cp, .slice L.Ab h.bs.length L.cb] 27)
  have hx := Sa.HBox.new w L h
  obtain ⟨W0, hW0⟩ : ∃ W0, w.alloc (.cells #[.slice L.Ak h.ks.length L.ck, .int .i64 h.fl, .slice L.Ap h.ps.length L.cp, .slice L.Ab h.bs.length L.cb] 27) = W0 := ⟨_, rfl⟩
  rw [hW0] at hb hx
  have HBW := Lib.hid hb
  have HX := Lib.hid hx
  have HT := Lib.hid (hT.lt hb)
  have HH := Lib.hid (hH.below hb)
  have HI := Lib.hid (ints_lt7 hI hb)
  have B := Lib.hid (Below.refl W0.heap.size W0)
  have HW0 := Lib.hid hW0
  have HKO := Lib.hid hok
  obtain ⟨r0, r1, r2, r3⟩ := (HX.out.of (B.out.block _ HX.out.lt)).cells
  clear hb hx hW0 hT hH hI hok
  by_cases h40 : 40 < t.length
  · have hd : decide ((40 : Int) < (t.length : Int)) = true := decide_eq_true (by omega)
    have hd' : (40 : Int) < (t.length : Int) := by omega
    go_enter Try.func3, Try.ntmps3
    go_upto_region 1 with (fail)
    have e := HW0.out
    rw [e]
    clear e HW0
    go_wp2_with (first
      | (go_at_call 13; refine (salted_any _).mono ?_; rintro e w9 ⟨rfl, hb⟩; have BN := Lib.hid (hb0to B.out hb); clear B hb r0 r1 r2 r3; have B := BN; clear BN; obtain ⟨r0, r1, r2, r3⟩ := (HX.out.of (B.out.block _ HX.out.lt)).cells))
    go_ret
    exact ⟨rfl, hb0to HBW.out B.out⟩
  have hd1 : decide ((40 : Int) < (t.length : Int)) = false := decide_eq_false (by omega)
  have hd1' : ¬ (40 : Int) < (t.length : Int) := by omega
  have H8 := Lib.hid (fun W hT => check7_any A0 c0 t (by omega) W hT)
  by_cases hck : chkT t = true
  rotate_left
  · rw [errT_no (Bool.eq_false_iff.2 hck)] at H8
    go_enter Try.func3, Try.ntmps3
    go_upto_region 1 with (fail)
    have e := HW0.out
    rw [e]
    clear e HW0
    go_wp2_with (first
      | (go_at_call 8; refine (H8.out _ (HT.out.lt B.out)).mono ?_; clear H8; rintro e w1 ⟨rfl, hb⟩; have BN := Lib.hid (hb0to B.out hb); clear B hb r0 r1 r2 r3; have B := BN; clear BN; obtain ⟨r0, r1, r2, r3⟩ := (HX.out.of (B.out.block _ HX.out.lt)).cells)
      | (go_at_call 13; refine (salted_any _).mono ?_; rintro e w9 ⟨rfl, hb⟩; have BN := Lib.hid (hb0to B.out hb); clear B hb r0 r1 r2 r3; have B := BN; clear BN; obtain ⟨r0, r1, r2, r3⟩ := (HX.out.of (B.out.block _ HX.out.lt)).cells))
    go_ret
    exact ⟨rfl, hb0to HBW.out B.out⟩
  rw [errT_yes hck] at H8
  have hOK := chkT_ok hck
  by_cases hx40 : 40 < x.length
  · have hd : decide ((40 : Int) < (x.length : Int)) = true := decide_eq_true (by omega)
    have hd' : (40 : Int) < (x.length : Int) := by omega
    go_enter Try.func3, Try.ntmps3
    go_upto_region 1 with (fail)
    have e := HW0.out
    rw [e]
    clear e HW0
    go_wp2_with (first
      | (go_at_call 8; refine (H8.out _ (HT.out.lt B.out)).mono ?_; clear H8; rintro e w1 ⟨rfl, hb⟩; have BN := Lib.hid (hb0to B.out hb); clear B hb r0 r1 r2 r3; have B := BN; clear BN; obtain ⟨r0, r1, r2, r3⟩ := (HX.out.of (B.out.block _ HX.out.lt)).cells)
      | (go_at_call 13; refine (salted_any _).mono ?_; rintro e w9 ⟨rfl, hb⟩; have BN := Lib.hid (hb0to B.out hb); clear B hb r0 r1 r2 r3; have B := BN; clear BN; obtain ⟨r0, r1, r2, r3⟩ := (HX.out.of (B.out.block _ HX.out.lt)).cells))
    go_ret
    exact ⟨rfl, hb0to HBW.out B.out⟩
  have hd2 : decide ((40 : Int) < (x.length : Int)) = false := decide_eq_false (by omega)
  have hd2' : ¬ (40 : Int) < (x.length : Int) := by omega
  have H9 := Lib.hid (fun W hT hI => isTruth_any A0 c0 t hOK A2 c2 x (by omega) W hT hI)
  by_cases htr : Truth t x
  rotate_left
  · have HTR := Lib.hid htr
    go_enter Try.func3, Try.ntmps3
    go_upto_region 1 with (fail)
    have e := HW0.out
    rw [e]
    clear e HW0
    go_wp2_with (first
      | (go_at_call 8; refine (H8.out _ (HT.out.lt B.out)).mono ?_; clear H8; rintro e w1 ⟨rfl, hb⟩; have BN := Lib.hid (hb0to B.out hb); clear B hb r0 r1 r2 r3; have B := BN; clear BN; obtain ⟨r0, r1, r2, r3⟩ := (HX.out.of (B.out.block _ HX.out.lt)).cells)
      | (go_at_call 9; refine (H9.out _ (HT.out.lt B.out) (ints_lt7 HI.out B.out)).mono ?_; clear H9; rintro e w4 ⟨bt, rfl, hbt, hb⟩; have BN := Lib.hid (hb0to B.out hb); clear B hb r0 r1 r2 r3; have B := BN; clear BN; obtain ⟨r0, r1, r2, r3⟩ := (HX.out.of (B.out.block _ HX.out.lt)).cells; obtain rfl : bt = false := Bool.eq_false_iff.2 (fun h => HTR.out (hbt.1 h)); clear hbt)
      | (go_at_call 13; refine (salted_any _).mono ?_; rintro e w9 ⟨rfl, hb⟩; have BN := Lib.hid (hb0to B.out hb); clear B hb r0 r1 r2 r3; have B := BN; clear BN; obtain ⟨r0, r1, r2, r3⟩ := (HX.out.of (B.out.block _ HX.out.lt)).cells))
    go_ret
    exact ⟨rfl, hb0to HBW.out B.out⟩
  have HTR := Lib.hid htr
  have H10 := Lib.hid (fun W => Sa.huge_any L h W)
  cases hg : Sa.hugeB h
  rotate_left
  · rw [hg] at H10
    go_enter Try.func3, Try.ntmps3
    go_upto_region 1 with (fail)
    have e := HW0.out
    rw [e]
    clear e HW0
    go_wp2_with (first
      | (go_at_call 8; refine (H8.out _ (HT.out.lt B.out)).mono ?_; clear H8; rintro e w1 ⟨rfl, hb⟩; have BN := Lib.hid (hb0to B.out hb); clear B hb r0 r1 r2 r3; have B := BN; clear BN; obtain ⟨r0, r1, r2, r3⟩ := (HX.out.of (B.out.block _ HX.out.lt)).cells)
      | (go_at_call 9; refine (H9.out _ (HT.out.lt B.out) (ints_lt7 HI.out B.out)).mono ?_; clear H9; rintro e w4 ⟨bt, rfl, hbt, hb⟩; have BN := Lib.hid (hb0to B.out hb); clear B hb r0 r1 r2 r3; have B := BN; clear BN; obtain ⟨r0, r1, r2, r3⟩ := (HX.out.of (B.out.block _ HX.out.lt)).cells; obtain rfl := hbt.2 HTR.out; clear hbt)
      | (go_at_call 10; refine (H10.out _).mono ?_; clear H10; rintro e w2 ⟨rfl, hb⟩; have BN := Lib.hid (hb0to B.out hb); clear B hb r0 r1 r2 r3; have B := BN; clear BN; obtain ⟨r0, r1, r2, r3⟩ := (HX.out.of (B.out.block _ HX.out.lt)).cells)
      | (go_at_call 13; refine (salted_any _).mono ?_; rintro e w9 ⟨rfl, hb⟩; have BN := Lib.hid (hb0to B.out hb); clear B hb r0 r1 r2 r3; have B := BN; clear BN; obtain ⟨r0, r1, r2, r3⟩ := (HX.out.of (B.out.block _ HX.out.lt)).cells))
    go_ret
    exact ⟨rfl, hb0to HBW.out B.out⟩
  rw [hg] at H10
  have hn := Sa.huge_no hg
  have hn2 : h.ks.length ≤ 1000 ∧ h.ps.length ≤ 1000 ∧ h.bs.length ≤ 1000 := by omega
  have H11 := Lib.hid (fun W hW => Sa.rcheck_any L h hn2 W hW)
  cases hv : Sa.validH h
  · rw [show Sa.ckH h = 80 by unfold Sa.ckH; rw [hv]; rfl] at H11
    go_enter Try.func3, Try.ntmps3
    go_upto_region 1 with (fail)
    have e := HW0.out
    rw [e]
    clear e HW0
    go_wp2_with (first
      | (go_at_call 8; refine (H8.out _ (HT.out.lt B.out)).mono ?_; clear H8; rintro e w1 ⟨rfl, hb⟩; have BN := Lib.hid (hb0to B.out hb); clear B hb r0 r1 r2 r3; have B := BN; clear BN; obtain ⟨r0, r1, r2, r3⟩ := (HX.out.of (B.out.block _ HX.out.lt)).cells)
      | (go_at_call 9; refine (H9.out _ (HT.out.lt B.out) (ints_lt7 HI.out B.out)).mono ?_; clear H9; rintro e w4 ⟨bt, rfl, hbt, hb⟩; have BN := Lib.hid (hb0to B.out hb); clear B hb r0 r1 r2 r3; have B := BN; clear BN; obtain ⟨r0, r1, r2, r3⟩ := (HX.out.of (B.out.block _ HX.out.lt)).cells; obtain rfl := hbt.2 HTR.out; clear hbt)
      | (go_at_call 10; refine (H10.out _).mono ?_; clear H10; rintro e w2 ⟨rfl, hb⟩; have BN := Lib.hid (hb0to B.out hb); clear B hb r0 r1 r2 r3; have B := BN; clear BN; obtain ⟨r0, r1, r2, r3⟩ := (HX.out.of (B.out.block _ HX.out.lt)).cells)
      | (go_at_call 11; refine (H11.out _ (HH.out.below B.out)).mono ?_; clear H11; rintro e w3 ⟨rfl, hb⟩; have BN := Lib.hid (hb0to B.out hb); clear B hb r0 r1 r2 r3; have B := BN; clear BN; obtain ⟨r0, r1, r2, r3⟩ := (HX.out.of (B.out.block _ HX.out.lt)).cells)
      | (go_at_call 13; refine (salted_any _).mono ?_; rintro e w9 ⟨rfl, hb⟩; have BN := Lib.hid (hb0to B.out hb); clear B hb r0 r1 r2 r3; have B := BN; clear BN; obtain ⟨r0, r1, r2, r3⟩ := (HX.out.of (B.out.block _ HX.out.lt)).cells))
    go_ret
    exact ⟨rfl, hb0to HBW.out B.out⟩
  rw [show Sa.ckH h = 0 by unfold Sa.ckH; rw [hv]; rfl] at H11
  have H12 := Lib.hid (fun W hW => Sa.far_any L h W hW)
  cases hf : Sa.farB h
  rotate_left
  · rw [hf] at H12
    go_enter Try.func3, Try.ntmps3
    go_upto_region 1 with (fail)
    have e := HW0.out
    rw [e]
    clear e HW0
    go_wp2_with (first
      | (go_at_call 8; refine (H8.out _ (HT.out.lt B.out)).mono ?_; clear H8; rintro e w1 ⟨rfl, hb⟩; have BN := Lib.hid (hb0to B.out hb); clear B hb r0 r1 r2 r3; have B := BN; clear BN; obtain ⟨r0, r1, r2, r3⟩ := (HX.out.of (B.out.block _ HX.out.lt)).cells)
      | (go_at_call 9; refine (H9.out _ (HT.out.lt B.out) (ints_lt7 HI.out B.out)).mono ?_; clear H9; rintro e w4 ⟨bt, rfl, hbt, hb⟩; have BN := Lib.hid (hb0to B.out hb); clear B hb r0 r1 r2 r3; have B := BN; clear BN; obtain ⟨r0, r1, r2, r3⟩ := (HX.out.of (B.out.block _ HX.out.lt)).cells; obtain rfl := hbt.2 HTR.out; clear hbt)
      | (go_at_call 10; refine (H10.out _).mono ?_; clear H10; rintro e w2 ⟨rfl, hb⟩; have BN := Lib.hid (hb0to B.out hb); clear B hb r0 r1 r2 r3; have B := BN; clear BN; obtain ⟨r0, r1, r2, r3⟩ := (HX.out.of (B.out.block _ HX.out.lt)).cells)
      | (go_at_call 11; refine (H11.out _ (HH.out.below B.out)).mono ?_; clear H11; rintro e w3 ⟨rfl, hb⟩; have BN := Lib.hid (hb0to B.out hb); clear B hb r0 r1 r2 r3; have B := BN; clear BN; obtain ⟨r0, r1, r2, r3⟩ := (HX.out.of (B.out.block _ HX.out.lt)).cells)
      | (go_at_call 12; refine (H12.out _ (HH.out.below B.out)).mono ?_; clear H12; rintro e w3 ⟨rfl, hb⟩; have BN := Lib.hid (hb0to B.out hb); clear B hb r0 r1 r2 r3; have B := BN; clear BN; obtain ⟨r0, r1, r2, r3⟩ := (HX.out.of (B.out.block _ HX.out.lt)).cells)
      | (go_at_call 13; refine (salted_any _).mono ?_; rintro e w9 ⟨rfl, hb⟩; have BN := Lib.hid (hb0to B.out hb); clear B hb r0 r1 r2 r3; have B := BN; clear BN; obtain ⟨r0, r1, r2, r3⟩ := (HX.out.of (B.out.block _ HX.out.lt)).cells))
    go_ret
    exact ⟨rfl, hb0to HBW.out B.out⟩
  rw [hf] at H12
  have HOK := Lib.hid hOK
  have HXL := Lib.hid htr.p.n
  have HSW := Lib.hid (salt_weights hOK htr)
  have HN2 := Lib.hid hn2
  have HV := Lib.hid hv
  clear h40 hx40 hck htr hOK hg hn hf hn2 hv
  go_enter Try.func3, Try.ntmps3
  go_upto_region 1 with (fail)
  have e := HW0.out
  rw [e]
  clear e HW0
  go_upto_region 3 with (first
    | (go_at_call 8; refine (H8.out _ (HT.out.lt B.out)).mono ?_; clear H8; rintro e w1 ⟨rfl, hb⟩; have BN := Lib.hid (hb0to B.out hb); clear B hb r0 r1 r2 r3; have B := BN; clear BN; obtain ⟨r0, r1, r2, r3⟩ := (HX.out.of (B.out.block _ HX.out.lt)).cells)
    | (go_at_call 9; refine (H9.out _ (HT.out.lt B.out) (ints_lt7 HI.out B.out)).mono ?_; clear H9; rintro e w4 ⟨bt, rfl, hbt, hb⟩; have BN := Lib.hid (hb0to B.out hb); clear B hb r0 r1 r2 r3; have B := BN; clear BN; obtain ⟨r0, r1, r2, r3⟩ := (HX.out.of (B.out.block _ HX.out.lt)).cells; obtain rfl := hbt.2 HTR.out; clear hbt)
    | (go_at_call 10; refine (H10.out _).mono ?_; clear H10; rintro e w2 ⟨rfl, hb⟩; have BN := Lib.hid (hb0to B.out hb); clear B hb r0 r1 r2 r3; have B := BN; clear BN; obtain ⟨r0, r1, r2, r3⟩ := (HX.out.of (B.out.block _ HX.out.lt)).cells)
    | (go_at_call 11; refine (H11.out _ (HH.out.below B.out)).mono ?_; clear H11; rintro e w3 ⟨rfl, hb⟩; have BN := Lib.hid (hb0to B.out hb); clear B hb r0 r1 r2 r3; have B := BN; clear BN; obtain ⟨r0, r1, r2, r3⟩ := (HX.out.of (B.out.block _ HX.out.lt)).cells)
    | (go_at_call 12; refine (H12.out _ (HH.out.below B.out)).mono ?_; clear H12; rintro e w3 ⟨rfl, hb⟩; have BN := Lib.hid (hb0to B.out hb); clear B hb r0 r1 r2 r3; have B := BN; clear BN; obtain ⟨r0, r1, r2, r3⟩ := (HX.out.of (B.out.block _ HX.out.lt)).cells))
  go_wp2_with (fail)
  clear r0 r1 r2 r3
  go_loopw [7, 8, 9] (fun lv hv iv wr => ∃ k : Nat, k ≤ t.length ∧ iv = .int .i64 k ∧ Hid (Below W0.heap.size W0 wr) ∧ Hid (SOwn W0.heap.size t k lv hv wr)) (fun _ _ iv _ => t.length - (intOf iv).toNat)
  case atStart => exact ⟨0, Nat.zero_le _, rfl, B, Lib.hid ⟨ints_nil _ _, ints_nil _ _, fun g e => by cases e⟩⟩
  case round =>
    clear B
    obtain ⟨k, hk, rfl, B, O⟩ := hrel
    obtain ⟨r0, r1, r2, r3⟩ := (HX.out.of (B.out.block _ HX.out.lt)).cells
    by_cases hlt : k < t.length
    · have hwf := weight_facts HOK.out HTR.out hlt
      obtain ⟨y, hy⟩ : ∃ y, x[k]? = some y := ⟨_, List.getElem?_eq_getElem (by rw [HXL.out]; exact hlt)⟩
      rw [show x.getD k 0 = y by rw [List.getD_eq_getElem?_getD, hy]; rfl] at hwf
      have H14 := Lib.hid (fun W hT => weight_any A0 c0 t HOK.out k hlt W hT hwf.2.2.1)
      have HS1 := Lib.hid (lowL_succ t k)
      have HS2 := Lib.hid (highL_succ t k)
      obtain ⟨a0, ha0⟩ : ∃ a, lowF t (eachW k) = a := ⟨_, rfl⟩
      obtain ⟨b0, hb0⟩ : ∃ a, highF t (eachW k) = a := ⟨_, rfl⟩
      rw [ha0, hb0] at hwf H14
      rw [ha0] at HS1
      rw [hb0] at HS2
      clear ha0 hb0
      go_upto_region 8 with (go_at_call 14; refine (H14.out _ (HT.out.lt B.out)).mono ?_; clear H14; rintro e w5 ⟨rfl, hb⟩; have O5 := Lib.hid (O.out.next hb); clear O; have BN := Lib.hid (hb0to B.out hb); clear B hb r0 r1 r2 r3; have B := BN; clear BN; obtain ⟨r0, r1, r2, r3⟩ := (HX.out.of (B.out.block _ HX.out.lt)).cells)
      have hq := heap_new1 w5 (.cells #[.int .i64 a0, .int .i64 b0] 35)
      have hbq := al_below w5 (.cells #[.int .i64 a0, .int .i64 b0] 35)
      have hwz := B.out.size
      have M6 := Lib.hid (show TwoI W0.heap.size w5.heap.size u7 u8 (lowL t k) (highL t k) a0 b0 W0 (w5.alloc (.cells #[.int .i64 a0, .int .i64 b0] 35)) from
        ⟨hb0to B.out hbq, O5.out.lo.below_ hbq (Nat.le_refl _), O5.out.hi.below_ hbq (Nat.le_refl _), O5.out.ne, hq, fun g e => by have := ints_blk O5.out.lo g e; omega, fun g e => by have := ints_blk O5.out.hi g e; omega⟩)
      have LB := Lib.hid (show ∀ g, u7.ownBlock = some g → g < (w5.alloc (.cells #[.int .i64 a0, .int .i64 b0] 35)).heap.size from fun g e => by have := ints_blk O5.out.lo g e; simp; omega)
      have HZB := Lib.hid (show W0.heap.size ≤ (w5.alloc (.cells #[.int .i64 a0, .int .i64 b0] 35)).heap.size by simp; omega)
      have i6 := (ints_lt7 HI.out (hb0to B.out hbq))
      obtain ⟨W6, hW6⟩ : ∃ W6, w5.alloc (.cells #[.int .i64 a0, .int .i64 b0] 35) = W6 := ⟨_, rfl⟩
      obtain ⟨q, hqe⟩ : ∃ q, w5.heap.size = q := ⟨_, rfl⟩
      rw [hW6] at M6 LB HZB i6 ⊢
      rw [hqe] at M6 ⊢
      clear hq hbq hwz hW6 hqe O5 B r0 r1 r2 r3
      obtain ⟨bi, oi, hA, _, e6⟩ := IntsAt.at_ i6 hy
      subst hA
      clear i6 hy
      obtain ⟨f0, f1⟩ := M6.out.cells
      have kx : k < x.length := by rw [HXL.out]; exact hlt
      have kx' : (k : Int) < (x.length : Int) := by omega
      have q1 : decide (a0 < 0) = false := decide_eq_false (by omega)
      have q2 : decide ((30 : Int) < b0) = false := decide_eq_false (by omega)
      have q3 : decide (y < a0) = false := decide_eq_false (by omega)
      have q4 : decide (b0 < y) = false := decide_eq_false (by omega)
      have HLL := Lib.hid (show (lowL t k).length ≤ 1000 by rw [lowL_len]; have := HOK.out.n; omega)
      have HLH := Lib.hid (show (highL t k).length ≤ 1000 by rw [highL_len]; have := HOK.out.n; omega)
      go_region_held3 (fun w' => w'.cell? ⟨q, 0, none⟩ = some (.int .i64 a0) ∧ w'.cell? ⟨q, 1, none⟩ = some (.int .i64 b0) ∧ w'.cell? ⟨bi, oi + k, none⟩ = some (.int .i64 y)) (first | go_keep) (fail)
      go_upto_region 10 with (fail)
      have HSO := Lib.hid (fun (w' : World) (M : TwoI W0.heap.size q u7 u8 (lowL t k) (highL t k) a0 b0 W0 w') => M.cells)
      have MD := (M6.out.next (drew_belowS _) HZB.out).next (drew_belowS _) HZB.out
      have HZD : W0.heap.size ≤ W6.drew.drew.heap.size := HZB.out
      refine wp_region_held_drew (S := fun w' => w'.cell? ⟨q, 0, none⟩ = some (.int .i64 a0) ∧ w'.cell? ⟨q, 1, none⟩ = some (.int .i64 b0)) (by kernel_rfl) MD.cells (fun hHeld => ?_)
      change wpAnyH _ _ _ _ _ 12 #[false, false, false, false, false, false, false, false, false, false, false, false] _ _
      refine wpAnyH_take (i := 0) (oi := ⟨some 87, _, _, _, _, _⟩) (v := ?_) rfl (by kernel_rfl) (by kernel_rfl) (by kernel_rfl) (fun _ _ _ h => h) (Or.inl ⟨by rfl, ?_⟩) hHeld ?_
      rotate_left
      · intro w1 hSw; (try dsimp only at hSw); go_simp; (try with_reducible rfl)
      simp only [Act.put, List.setIfInBounds_toArray, List.set_cons_zero, List.set_cons_succ]
      change wpAnyH _ _ _ _ _ 11 #[true, false, false, false, false, false, false, false, false, false, false, false] _ _
      refine wpAnyH_take (i := 1) (oi := ⟨some 88, _, _, _, _, _⟩) (v := ?_) rfl (by kernel_rfl) (by kernel_rfl) (by kernel_rfl) (fun _ _ _ h => h) (Or.inl ⟨by rfl, ?_⟩) hHeld ?_
      rotate_left
      · intro w1 hSw; (try dsimp only at hSw); go_simp; (try with_reducible rfl)
      simp only [Act.put, List.setIfInBounds_toArray, List.set_cons_zero, List.set_cons_succ]
      change wpAnyH _ _ _ _ _ 10 #[true, true, false, false, false, false, false, false, false, false, false, false] _ _
      refine wpAnyH_take (i := 2) (oi := ⟨some 89, _, _, _, _, _⟩) (v := ?_) rfl (by kernel_rfl) (by kernel_rfl) (by kernel_rfl) (fun _ _ _ h => h) (Or.inl ⟨by rfl, ?_⟩) hHeld ?_
      rotate_left
      · intro w1 hSw; (try dsimp only at hSw); go_simp; (try with_reducible rfl)
      simp only [Act.put, List.setIfInBounds_toArray, List.set_cons_zero, List.set_cons_succ]
      change wpAnyH _ _ _ _ _ 9 #[true, true, true, false, false, false, false, false, false, false, false, false] _ _
      refine wpAnyH_take (i := 5) (oi := ⟨some 92, _, _, _, _, _⟩) (v := ?_) rfl (by kernel_rfl) (by kernel_rfl) (by kernel_rfl) (fun _ _ _ h => h) (Or.inl ⟨by rfl, ?_⟩) hHeld ?_
      rotate_left
      · intro w1 hSw; (try dsimp only at hSw); go_simp; (try with_reducible rfl)
      simp only [Act.put, List.setIfInBounds_toArray, List.set_cons_zero, List.set_cons_succ]
      change wpAnyH _ _ _ _ _ 8 #[true, true, true, false, false, true, false, false, false, false, false, false] _ _
      refine wpAnyH_take (i := 6) (oi := ⟨some 93, _, _, _, _, _⟩) (v := ?_) rfl (by kernel_rfl) (by kernel_rfl) (by kernel_rfl) (fun _ _ _ h => h) (Or.inl ⟨by rfl, ?_⟩) hHeld ?_
      rotate_left
      · intro w1 hSw; (try dsimp only at hSw); go_simp; (try with_reducible rfl)
      simp only [Act.put, List.setIfInBounds_toArray, List.set_cons_zero, List.set_cons_succ]
      change wpAnyH _ _ _ _ _ 7 #[true, true, true, false, false, true, true, false, false, false, false, false] _ _
      refine wpAnyH_take (i := 7) (oi := ⟨some 94, _, _, _, _, _⟩) (v := ?_) rfl (by kernel_rfl) (by kernel_rfl) (by kernel_rfl) (fun _ _ _ h => h) (Or.inl ⟨by rfl, ?_⟩) hHeld ?_
      rotate_left
      · intro w1 hSw; (try dsimp only at hSw); go_simp; (try with_reducible rfl)
      simp only [Act.put, List.setIfInBounds_toArray, List.set_cons_zero, List.set_cons_succ]
      change wpAnyH _ _ _ _ _ 6 #[true, true, true, false, false, true, true, true, false, false, false, false] _ _
      refine wpAnyH_fourR (i1 := 3) (i2 := 4) (i3 := 8) (i4 := 9) (n := 2) (J10 W0.heap.size q u7 u8 (lowL t k) (highL t k) a0 b0 W0) (fun b1 b2 b3 b4 => #[true, true, true, b1, b2, true, true, true, b3, b4, false, false]) (fun a0 x1 x2 x3 x4 => (((a0.put (some 90) x1).put (some 91) x2).put (some 95) x3).put (some 96) x4) rfl
        (fun _ _ _ _ => ⟨rfl, rfl, rfl, rfl⟩) (fun b1 b2 b3 b4 => (!b2 || b1) && (!b4 || (b3 && b2))) (fun b1 b2 b3 b4 _ _ _ _ _ hJ => by have h2 := hJ.o2; have h4 := hJ.o4; cases b1 <;> cases b2 <;> cases b3 <;> cases b4 <;> simp_all) (fun b1 b2 b3 b4 hV => ?_) ⟨u90, u91, u95, u96, rfl, ?_⟩ ?_ ?_ ?_ ?_ ?_ hHeld
      · cases b1 <;> cases b2 <;> cases b3 <;> cases b4 <;> first | exact .inl rfl | exact absurd hV (by decide) | exact .inr ⟨by kernel_rfl, by kernel_rfl⟩
      · exact ⟨MD, HZD, fun e => (by cases e), fun e => (by cases e), fun e => (by cases e), fun e => (by cases e)⟩
      · intro b2 b3 b4 x1 x2 x3 x4 w1 _ hS1 hJ
        simp only [Act.put, List.setIfInBounds_toArray, List.set_cons_zero, List.set_cons_succ]
        refine wpOp_step (o := ⟨some 90, _, _, _, _, _⟩) rfl (fun K hK => ?_)
        have HJ := Lib.hid hJ
        have HK := Lib.hid hK
        clear hJ hK
        go_simp
        exact HK.out _ _ ⟨HJ.out.one.M.cells, _, rfl, HJ.out.one⟩
      · intro b1 b3 b4 x1 x2 x3 x4 w1 hrd hS1 hJ
        obtain rfl : b1 = true := by
          cases b1
          · exact (not_ready (by cases b3 <;> cases b4 <;> kernel_rfl) hrd).elim
          · rfl
        simp only [Act.put, List.setIfInBounds_toArray, List.set_cons_zero, List.set_cons_succ]
        refine wpOp_step (o := ⟨some 91, _, _, _, _, _⟩) rfl (fun K hK => ?_)
        have HJ := Lib.hid hJ
        have HK := Lib.hid hK
        clear hJ hK hrd
        obtain ⟨z, rfl, hc⟩ := HJ.out.c rfl rfl
        refine step_appD (by rfl) (.tmp 87) (.tmp 90) (by rfl) W0.heap.size W0.heap.size u7 (lowL t k) a0 (by rfl) HJ.out.M.lo ⟨z, 0, none⟩ 1 (by rfl) hc HLL.out HJ.out.z (Nat.le_refl _) ?_
        intro v7 w7 h1 hb hg hw
        exact HK.out _ _ ⟨(HJ.out.two h1 hb hg hw).M.cells, v7, rfl, HJ.out.two h1 hb hg hw⟩
      · intro b1 b2 b4 x1 x2 x3 x4 w1 _ hS1 hJ
        simp only [Act.put, List.setIfInBounds_toArray, List.set_cons_zero, List.set_cons_succ]
        refine wpOp_step (o := ⟨some 95, _, _, _, _, _⟩) rfl (fun K hK => ?_)
        have HJ := Lib.hid hJ
        have HK := Lib.hid hK
        clear hJ hK
        go_simp
        exact HK.out _ _ ⟨HJ.out.three.M.cells, _, rfl, HJ.out.three⟩
      · intro b1 b2 b3 x1 x2 x3 x4 w1 hrd hS1 hJ
        obtain rfl : b3 = true := by
          cases b3
          · exact (not_ready (by cases b1 <;> cases b2 <;> kernel_rfl) hrd).elim
          · rfl
        obtain rfl : b2 = true := by
          cases b2
          · exact (not_ready (by cases b1 <;> kernel_rfl) hrd).elim
          · rfl
        simp only [Act.put, List.setIfInBounds_toArray, List.set_cons_zero, List.set_cons_succ]
        refine wpOp_step (o := ⟨some 96, _, _, _, _, _⟩) rfl (fun K hK => ?_)
        have HJ := Lib.hid hJ
        have HK := Lib.hid hK
        clear hJ hK hrd
        obtain ⟨z, rfl, hc, -⟩ := HJ.out.d rfl rfl
        refine step_appD (by rfl) (.tmp 92) (.tmp 95) (by rfl) W0.heap.size W0.heap.size u8 (highL t k) b0 (by rfl) HJ.out.M.hi ⟨z, 0, none⟩ 1 (by rfl) hc HLH.out HJ.out.z (Nat.le_refl _) ?_
        intro v7 w7 h1 hb hg hw
        exact HK.out _ _ ⟨(HJ.out.four h1 hb hg hw).M.cells, v7, rfl, HJ.out.four h1 hb hg hw⟩
      · intro x1 x2 x3 x4 w1 hS1 hJ
        have M8 := Lib.hid hJ.M
        clear hJ
        simp only [Act.put, List.setIfInBounds_toArray, List.set_cons_zero, List.set_cons_succ]
        refine wpAnyH_ready (rs := [10]) (by kernel_rfl) (by simp) (AllReadyH.cons (o := ⟨some 7, _, _, _, _, _⟩) rfl (fun K hK => ?_) AllReadyH.nil)
        have HK := Lib.hid hK
        clear hK
        go_simp
        refine HK.out.out _ _ M8.out.cells (fun hHeld2 => ?_)
        simp only [Act.put, List.setIfInBounds_toArray, List.set_cons_zero, List.set_cons_succ]
        change wpAnyH _ _ _ _ _ 1 #[true, true, true, true, true, true, true, true, true, true, true, false] _ _
        refine wpAnyH_ready (rs := [11]) (by kernel_rfl) (by simp) (AllReadyH.cons (o := ⟨some 8, _, _, _, _, _⟩) rfl (fun K hK => ?_) AllReadyH.nil)
        have HK2 := Lib.hid hK
        clear HK hK
        go_simp
        refine HK2.out.out _ _ M8.out.cells (fun hHeld3 => wpAnyH_done (by kernel_rfl) ?_ _)
        clear HK2
        go_wp2_with (fail)
        go_roundw
        case rel => exact ⟨k + 1, by omega, by go_num, Lib.hid M8.out.B, Lib.hid ⟨by rw [HS1.out]; exact M8.out.lo, by rw [HS2.out]; exact M8.out.hi, M8.out.ne⟩⟩
        case measure => simp [intOf]; omega
    · obtain rfl : k = t.length := by omega
      obtain ⟨Al, cl, rfl, -, -, hil⟩ := ints_slice O.out.lo
      obtain ⟨Au, cu, rfl, -, -, hiu⟩ := ints_slice O.out.hi
      clear O
      obtain ⟨ls, hls⟩ : ∃ l, lowL t t.length = l := ⟨_, rfl⟩
      obtain ⟨us, hus⟩ : ∃ l, highL t t.length = l := ⟨_, rfl⟩
      rw [hls, hus] at HSW
      rw [hls] at hil ⊢
      rw [hus] at hiu ⊢
      clear hls hus
      have IL := Lib.hid hil
      have IU := Lib.hid hiu
      clear hil hiu
      obtain ⟨s1, s2, s3, s4, s5, s6, s7⟩ := HSW.out
      have tl := HOK.out.n
      have hxl := HXL.out
      have v1 := Sa.valid_laid HV.out s5
      have v2 := Sa.valid_laid HV.out s6
      have v3 := Sa.valid_laid HV.out s7
      have g12 := Sa.laid_light (h := h) s1 s3
      have g23 := Sa.laid_light (h := h) s2 s4
      have HL1 := Lib.hid (fun W hW hI => Sa.laid_any L h HN2.out HKO.out Al cl ls (by omega) W hW hI)
      have HL2 := Lib.hid (fun W hW hI => Sa.laid_any L h HN2.out HKO.out A2 c2 x (by omega) W hW hI)
      have HL3 := Lib.hid (fun W hW hI => Sa.laid_any L h HN2.out HKO.out Au cu us (by omega) W hW hI)
      obtain ⟨o1, ho1⟩ : ∃ o, Sa.laidH h ls = o := ⟨_, rfl⟩
      obtain ⟨o2, ho2⟩ : ∃ o, Sa.laidH h x = o := ⟨_, rfl⟩
      obtain ⟨o3, ho3⟩ : ∃ o, Sa.laidH h us = o := ⟨_, rfl⟩
      rw [ho1] at v1 g12 HL1
      rw [ho2] at v2 g12 g23 HL2
      rw [ho3] at v3 g23 HL3
      have HLA := Lib.hid (fun L1 L2 k1 k2 W h1 h2 => Sa.lighter_any g12 v2 v1 L1 L2 k1 k2 W h1 h2)
      have HLB := Lib.hid (fun L1 L2 k1 k2 W h1 h2 => Sa.lighter_any g23 v3 v2 L1 L2 k1 k2 W h1 h2)
      clear s1 s2 s3 s4 s5 s6 s7 tl hxl v1 v2 v3 g12 g23 ho1 ho2 ho3 HSW
      have B0 := B
      have D0 := Lib.hid (Below.refl wr.heap.size wr)
      clear B
      have T1 := Lib.hid True.intro
      go_upto_region 11 with (fail)
      go_region_held3 (fun w' => w'.cell? ⟨w.heap.size, 0, none⟩ = some (.slice L.Ak h.ks.length L.ck) ∧ w'.cell? ⟨w.heap.size, 1, none⟩ = some (.int .i64 h.fl) ∧ w'.cell? ⟨w.heap.size, 2, none⟩ = some (.slice L.Ap h.ps.length L.cp) ∧ w'.cell? ⟨w.heap.size, 3, none⟩ = some (.slice L.Ab h.bs.length L.cb)) (first | go_keep)
        (first
          | (have t9 := T7.out; clear T7 t9; go_at_call 13; refine (salted_any _).mono ?_; rintro e w7 ⟨rfl, hb⟩; have B7 := Lib.hid (hb0to (hb0to B6.out (by first | exact Below.refl _ _ | exact drew_belowS _)) hb); have D7 := Lib.hid (hb0to (hb0to D6.out (by first | exact Below.refl _ _ | exact drew_belowS _)) hb); skip; have T8 := Lib.hid True.intro; obtain ⟨r0, r1, r2, r3⟩ := (HX.out.of (B7.out.block _ HX.out.lt)).cells; clear hb)
          | (have t9 := T6.out; clear T6 t9; go_at_call 15; refine (HLB.out L4 L5 C4.out C5.out _ (X4.out.below (by first | exact Below.refl _ _ | exact drew_belowS _)) (X5.out.below (by first | exact Below.refl _ _ | exact drew_belowS _))).mono ?_; rintro e w6 ⟨rfl, hb⟩; have B6 := Lib.hid (hb0to (hb0to B5.out (by first | exact Below.refl _ _ | exact drew_belowS _)) hb); have D6 := Lib.hid (hb0to (hb0to D5.out (by first | exact Below.refl _ _ | exact drew_belowS _)) hb); skip; have T7 := Lib.hid True.intro; obtain ⟨r0, r1, r2, r3⟩ := (HX.out.of (B6.out.block _ HX.out.lt)).cells; clear hb)
          | (have t9 := T5.out; clear T5 t9; go_at_call 16; refine (HL3.out _ (HH.out.below (hb0to B4.out (by first | exact Below.refl _ _ | exact drew_belowS _))) (toSa (ints_lt7 IU.out (hb0to D4.out (by first | exact Below.refl _ _ | exact drew_belowS _))))).mono ?_; rintro e w5 ⟨⟨L5, rfl, hx, hc⟩, hb⟩; have B5 := Lib.hid (hb0to (hb0to B4.out (by first | exact Below.refl _ _ | exact drew_belowS _)) hb); have D5 := Lib.hid (hb0to (hb0to D4.out (by first | exact Below.refl _ _ | exact drew_belowS _)) hb); have X5 := Lib.hid hx; have C5 := Lib.hid hc; clear hx hc; have Y4 := Lib.hid (X4.out.below (hb0to (by first | exact Below.refl _ _ | exact drew_belowS _) hb)); clear X4; have X4 := Y4; clear Y4; have T6 := Lib.hid True.intro; obtain ⟨r0, r1, r2, r3⟩ := (HX.out.of (B5.out.block _ HX.out.lt)).cells; clear hb)
          | (have t9 := T4.out; clear T4 t9; go_at_call 16; refine (HL2.out _ (HH.out.below (hb0to B3.out (by first | exact Below.refl _ _ | exact drew_belowS _))) (toSa (ints_lt7 HI.out (hb0to B3.out (by first | exact Below.refl _ _ | exact drew_belowS _))))).mono ?_; rintro e w4 ⟨⟨L4, rfl, hx, hc⟩, hb⟩; have B4 := Lib.hid (hb0to (hb0to B3.out (by first | exact Below.refl _ _ | exact drew_belowS _)) hb); have D4 := Lib.hid (hb0to (hb0to D3.out (by first | exact Below.refl _ _ | exact drew_belowS _)) hb); have X4 := Lib.hid hx; have C4 := Lib.hid hc; clear hx hc; have T5 := Lib.hid True.intro; obtain ⟨r0, r1, r2, r3⟩ := (HX.out.of (B4.out.block _ HX.out.lt)).cells; clear hb)
          | (have t9 := T3.out; clear T3 t9; go_at_call 15; refine (HLA.out L1 L2 C1.out C2.out _ (X1.out.below (by first | exact Below.refl _ _ | exact drew_belowS _)) (X2.out.below (by first | exact Below.refl _ _ | exact drew_belowS _))).mono ?_; rintro e w3 ⟨rfl, hb⟩; have B3 := Lib.hid (hb0to (hb0to B2.out (by first | exact Below.refl _ _ | exact drew_belowS _)) hb); have D3 := Lib.hid (hb0to (hb0to D2.out (by first | exact Below.refl _ _ | exact drew_belowS _)) hb); skip; have T4 := Lib.hid True.intro; obtain ⟨r0, r1, r2, r3⟩ := (HX.out.of (B3.out.block _ HX.out.lt)).cells; clear hb)
          | (have t9 := T2.out; clear T2 t9; go_at_call 16; refine (HL2.out _ (HH.out.below (hb0to B1.out (by first | exact Below.refl _ _ | exact drew_belowS _))) (toSa (ints_lt7 HI.out (hb0to B1.out (by first | exact Below.refl _ _ | exact drew_belowS _))))).mono ?_; rintro e w2 ⟨⟨L2, rfl, hx, hc⟩, hb⟩; have B2 := Lib.hid (hb0to (hb0to B1.out (by first | exact Below.refl _ _ | exact drew_belowS _)) hb); have D2 := Lib.hid (hb0to (hb0to D1.out (by first | exact Below.refl _ _ | exact drew_belowS _)) hb); have X2 := Lib.hid hx; have C2 := Lib.hid hc; clear hx hc; have Y1 := Lib.hid (X1.out.below (hb0to (by first | exact Below.refl _ _ | exact drew_belowS _) hb)); clear X1; have X1 := Y1; clear Y1; have T3 := Lib.hid True.intro; obtain ⟨r0, r1, r2, r3⟩ := (HX.out.of (B2.out.block _ HX.out.lt)).cells; clear hb)
          | (have t9 := T1.out; clear T1 t9; go_at_call 16; refine (HL1.out _ (HH.out.below (hb0to B0.out (by first | exact Below.refl _ _ | exact drew_belowS _))) (toSa (ints_lt7 IL.out (by first | exact Below.refl _ _ | exact drew_belowS _)))).mono ?_; rintro e w1 ⟨⟨L1, rfl, hx, hc⟩, hb⟩; have B1 := Lib.hid (hb0to (hb0to B0.out (by first | exact Below.refl _ _ | exact drew_belowS _)) hb); have D1 := Lib.hid (hb0to (hb0to D0.out (by first | exact Below.refl _ _ | exact drew_belowS _)) hb); have X1 := Lib.hid hx; have C1 := Lib.hid hc; clear hx hc; have T2 := Lib.hid True.intro; obtain ⟨r0, r1, r2, r3⟩ := (HX.out.of (B1.out.block _ HX.out.lt)).cells; clear hb))
      go_wp2_with (fail)
      go_ret
      exact ⟨rfl, hb0to HBW.out B7.out⟩
end Go.Proofs.Ytmbcpmnigggbaaa.Cu
namespace Go.Proofs.Ytmbcpmnigggbaaa.Cu
open Go.Joins Go.ChangeShapes Go.WideShapes Go.ChangeAt Go.RowKit Go.Deep
section
variable {H : Type} {enc : TypeId × Value → H} {P : Program} {w : World} {base : Nat} {spare : Nat → Bool} {held : Bool}
theorem list_of {α : Type} {Q : Nat → α → Prop} : ∀ (n : Nat), (∀ i, i < n → ∃ x, Q i x) → ∃ l : List α, l.length = n ∧ ∀ i x, l[i]? = some x → Q i x
  | 0, _ => ⟨[], rfl, fun i x h => by simp at h⟩
  | n + 1, h => by
    obtain ⟨l, hl, hq⟩ := list_of n (fun i hi => h i (by omega))
    obtain ⟨x, hx⟩ := h n (by omega)
    refine ⟨l ++ [x], by simp [hl], fun i y hy => ?_⟩
    by_cases hi : i < n
    · rw [List.getElem?_append_left (by omega)] at hy; exact hq i y hy
    · have hil := (List.getElem?_eq_some_iff.1 hy).1
      rw [List.length_append, List.length_singleton] at hil
      obtain rfl : i = n := by omega
      rw [List.getElem?_append_right (by omega), hl] at hy
      simp at hy
      subst hy
      exact hx
theorem spot_none {W : World} {a : Addr} {v : Value} (h : W.cell? a = some v) : a.spot = none := by
  unfold World.cell? at h
  split at h
  · cases hs : a.spot with
    | none => rfl
    | some s => simp [hs] at h
  · cases h
/-- A struct of two numbers, by its cells. -/
theorem open_two {P : Program} {w : World} {base : Nat} {t : TypeId} {f0 f1 : Field} {u0 u1 : Value} {n : Nat} {y : DataW H × List MemPlace} (hs : P.underlying t = some (.struct #[f0, f1])) (hone : oneCellFields P #[f0, f1] = true) (h3 : f0.type = 3 ∧ f1.type = 3) (hu : P.underlying 3 = some (.int .i64))
    (h : DataW.trod enc P w base spare held n t [u0, u1] = some y) : ∃ a b : Int, u0 = .int .i64 a ∧ u1 = .int .i64 b := by
  obtain ⟨xs, n', _, _, _, hlen, hg⟩ := DataW.trod_struct hs h
  obtain ⟨o0, k0⟩ := hone_of hone 0 f0 rfl
  obtain ⟨o1, k1⟩ := hone_of hone 1 f1 rfl
  match xs, hlen with
  | [y0, y1], _ =>
    have h0 := hg 0 f0 rfl
    have h1 := hg 1 f1 rfl
    rw [h3.1] at h0
    rw [h3.2] at h1
    rw [h3.1] at k0
    rw [h3.2] at k1
    rw [o0, k0] at h0
    rw [o1, k1] at h1
    obtain ⟨i0, e0, _⟩ := DataW.trod_int hu (show DataW.trod enc P w base spare held n' 3 [u0] = some y0 from h0)
    obtain ⟨i1, e1, _⟩ := DataW.trod_int hu (show DataW.trod enc P w base spare held n' 3 [u1] = some y1 from h1)
    simp only [List.cons.injEq, and_true] at e0 e1
    exact ⟨i0, i1, e0, e1⟩
/-- The cells of a part. -/
theorem open_part {e n : Nat} {f0 f1 f2 f3 : Field} {y : DataW H × List MemPlace} {cs : List Value} (he : Try.prog.underlying e = some (.struct #[f0, f1, f2, f3]))
    (ho : f0.offset = 0 ∧ Try.prog.cellsOf f0.type = 1 ∧ f1.offset = 1 ∧ Try.prog.cellsOf f1.type = 2 ∧ f2.offset = 3 ∧ Try.prog.cellsOf f2.type = 2 ∧ f3.offset = 5 ∧ Try.prog.cellsOf f3.type = 1) (ht : f0.type = 3 ∧ f1.type = 35 ∧ f2.type = 35 ∧ f3.type = 3)
    (hl : cs.length = 6) (h : DataW.trod enc Try.prog w base spare held n e cs = some y) : ∃ p : CP, cs = [.int .i64 p.of, .int .i64 p.wl, .int .i64 p.wh, .int .i64 p.sl, .int .i64 p.sh, .int .i64 p.pe] := by
  match cs, hl with
  | [c0, c1, c2, c3, c4, c5], _ =>
    obtain ⟨xs, n', _, hx, _, hlen, hg⟩ := DataW.trod_struct he h
    obtain ⟨a0, k0, a1, k1, a2, k2, a3, k3⟩ := ho
    obtain ⟨t0, t1, t2, t3⟩ := ht
    match xs, hlen with
    | [y0, y1, y2, y3], _ =>
      have h0 : DataW.trod enc Try.prog w base spare held n' f0.type [c0] = some y0 := by simpa [a0, k0] using hg 0 f0 rfl
      have h1 : DataW.trod enc Try.prog w base spare held n' f1.type [c1, c2] = some y1 := by simpa [a1, k1] using hg 1 f1 rfl
      have h2 : DataW.trod enc Try.prog w base spare held n' f2.type [c3, c4] = some y2 := by simpa [a2, k2] using hg 2 f2 rfl
      have h3 : DataW.trod enc Try.prog w base spare held n' f3.type [c5] = some y3 := by simpa [a3, k3] using hg 3 f3 rfl
      rw [t0] at h0
      rw [t1] at h1
      rw [t2] at h2
      rw [t3] at h3
      obtain ⟨i0, e0, _⟩ := DataW.trod_int Try.underlying3 h0
      obtain ⟨i3, e3, _⟩ := DataW.trod_int Try.underlying3 h3
      obtain ⟨wl, wh, rfl, rfl⟩ := open_two Try.underlying35 (by kernel_rfl) ⟨rfl, rfl⟩ Try.underlying3 h1
      obtain ⟨sl, sh, rfl, rfl⟩ := open_two Try.underlying35 (by kernel_rfl) ⟨rfl, rfl⟩ Try.underlying3 h2
      simp only [List.cons.injEq, and_true] at e0 e3
      subst e0 e3
      exact ⟨⟨i0, wl, wh, sl, sh, i3⟩, rfl⟩
end
section
variable {H : Type} {enc : TypeId × Value → H} {W : World} {spare : Nat → Bool} {held : Bool}
set_option maxRecDepth 100000 in
/-- A table that came in. -/
theorem open_table {r : Reach} {b0 : Nat} {v : Value} {d : DataW H} {p : List MemPlace} (hsp : ∀ b, spare b = true) (hv : Value.okWide Try.prog W r b0 22 v) (h : DataW.Trod enc Try.prog W 0 spare held 22 v d p) :
    ∃ (A : Option Addr) (c : Nat) (t : List CP), v = .slice A t.length c ∧ (A = none → c = 0 ∧ t = []) ∧ t.length ≤ 9223372036854775807 ∧ TableAt W W.heap.size A t := by
  obtain ⟨a0, len, cap, rfl⟩ := okWide_slice Try.underlying22 hv
  obtain ⟨fuel, hf⟩ := h
  have hC : Try.prog.cellsOf 51 = 6 := by kernel_rfl
  rcases open_slice Try.underlying22 hf with ⟨hcs, _⟩ | ⟨a, len', cap', m, n, D, Pl, hcs, hb, hl, hm, hmm, hx, hi⟩
  · simp [Value.cells] at hcs
    obtain ⟨rfl, rfl, rfl⟩ := hcs
    exact ⟨none, 0, [], rfl, fun _ => ⟨rfl, rfl⟩, by simp, .inl rfl⟩
  · simp [Value.cells] at hcs
    obtain ⟨rfl, rfl, rfl⟩ := hcs
    rw [hsp, if_pos rfl] at hmm
    subst hmm
    obtain ⟨t, htl, hq⟩ := list_of (Q := fun i (x : CP) => W.cell? (a.add (i * 6)) = some (.int .i64 x.of) ∧ W.cell? (a.add (i * 6 + 1)) = some (.int .i64 x.wl) ∧ W.cell? (a.add (i * 6 + 2)) = some (.int .i64 x.wh) ∧ W.cell? (a.add (i * 6 + 3)) = some (.int .i64 x.sl) ∧ W.cell? (a.add (i * 6 + 4)) = some (.int .i64 x.sh) ∧ W.cell? (a.add (i * 6 + 5)) = some (.int .i64 x.pe)) len (fun i hil => by
      obtain ⟨cs', hc, ht'⟩ := hi i (by omega)
      rw [hC] at hc
      obtain ⟨_, hcl, hat⟩ := World.cells?_some hc
      obtain ⟨x, rfl⟩ := open_part Try.underlying51 ⟨rfl, by kernel_rfl, rfl, by kernel_rfl, rfl, by kernel_rfl, rfl, by kernel_rfl⟩ ⟨rfl, rfl, rfl, rfl⟩ hcl ht'
      have g0 := hat 0 (by omega)
      have g1 := hat 1 (by omega)
      have g2 := hat 2 (by omega)
      have g3 := hat 3 (by omega)
      have g4 := hat 4 (by omega)
      have g5 := hat 5 (by omega)
      rw [Go.Deep.add_add] at g0 g1 g2 g3 g4 g5
      exact ⟨x, g0, g1, g2, g3, g4, g5⟩)
    refine ⟨some a, _, t, by rw [htl], (fun h => by cases h), by unfold maxLen at hm; omega, ?_⟩
    by_cases h0 : t = []
    · exact .inl h0
    · have hlen : 0 < t.length := List.length_pos_iff.2 h0
      have hx0 : t[0]? = some t[0] := List.getElem?_eq_getElem hlen
      have hs := (hq 0 _ hx0).1
      have hs1 := spot_none hs
      have hlt := cell_lt hs
      obtain ⟨b, off, sp⟩ := a
      have hb2 : ((⟨b, off, sp⟩ : Addr).add (0 * 6)) = ⟨b, off, sp⟩ := by simp [Addr.add]
      rw [hb2] at hs1 hlt
      simp only at hs1 hlt
      subst hs1
      refine .inr ⟨b, off, rfl, hlt, fun i x hx => ?_⟩
      have := hq i x hx
      rw [addr_add, addr_add, addr_add, addr_add, addr_add, addr_add] at this
      exact this
/-- Numbers within a struct. -/
theorem open_ints_in {n : Nat} {v0 : Value} {y0 : DataW H × List MemPlace} (hsp : ∀ b, spare b = true) (h : DataW.trod enc Try.prog W 0 spare held n 25 [v0] = some y0) :
    ∃ (A : Option Addr) (c : Nat) (l : List Int), v0 = .slice A l.length c ∧ (A = none → c = 0 ∧ l = []) ∧ l.length ≤ 9223372036854775807 ∧ IntsAt W W.heap.size A l ∧ l.length ≤ c ∧ c ≤ 9223372036854775807 := by
  rcases Go.ChangeShapes.open_ints Try.underlying25 Try.underlying3 (by kernel_rfl) h with ⟨hcs, _⟩ | ⟨a, len', cap', zs, hcs, _, hl, hm, hz, _, hcell, _⟩
  · simp at hcs
    subst hcs
    exact ⟨none, 0, [], rfl, fun _ => ⟨rfl, rfl⟩, by simp, .inl rfl, by simp, by simp⟩
  · simp at hcs
    subst hcs
    rw [hsp, if_pos rfl] at hz
    have hlen : (zs.take len').length = len' := by rw [List.length_take]; omega
    refine ⟨some a, cap', zs.take len', by rw [hlen], (fun h => by cases h), by rw [hlen]; unfold maxLen at hm; omega, ?_, by omega, by unfold maxLen at hm; omega⟩
    by_cases h0 : zs.take len' = []
    · exact .inl h0
    · have hpos : 0 < zs.length := by
        have := List.length_pos_iff.2 h0
        omega
      obtain ⟨b, off, rfl, hc⟩ := Go.ints_at hcell hpos
      refine .inr ⟨b, off, rfl, ?_, fun i x hx => ?_⟩
      · have := cell_lt (hc 0 hpos)
        exact this
      · have hi := (List.getElem?_eq_some_iff.1 hx).1
        rw [hlen] at hi
        rw [List.getElem?_take_of_lt hi] at hx
        have := hc i (by omega)
        rw [List.getD_eq_getElem?_getD, hx] at this
        exact this
set_option maxRecDepth 100000 in
/-- Two lists of numbers that came in. -/
theorem open_hauled {r : Reach} {b0 : Nat} {v : Value} {d : DataW H} {p : List MemPlace} (hsp : ∀ b, spare b = true) (hv : Value.okWide Try.prog W r b0 46 v) (h : DataW.Trod enc Try.prog W 0 spare held 46 v d p) :
    ∃ (A2 : Option Addr) (c2 : Nat) (x : List Int) (A3 : Option Addr) (c3 : Nat) (c : List Int), v = .agg #[.slice A2 x.length c2, .slice A3 c.length c3] ∧ (A3 = none → c3 = 0 ∧ c = []) ∧ c.length ≤ c3 ∧ IntsAt W W.heap.size A2 x ∧ IntsAt W W.heap.size A3 c := by
  obtain ⟨cs, rfl, hsz⟩ := okWide_struct Try.underlying46 hv
  obtain ⟨l⟩ := cs
  match l, hsz.trans (show Try.prog.cellsOf 46 = 2 by kernel_rfl) with
  | [c0, c1], _ =>
    obtain ⟨fuel, hf⟩ := h
    obtain ⟨xs, n, _, hx, _, hlen, hg⟩ := DataW.trod_struct Try.underlying46 hf
    have hC : Try.prog.cellsOf 25 = 1 := by kernel_rfl
    match xs, hlen with
    | [y0, y1], _ =>
      have h0 : DataW.trod enc Try.prog W 0 spare held n 25 [c0] = some y0 := by simpa [Value.cells, hC] using hg 0 _ rfl
      have h1 : DataW.trod enc Try.prog W 0 spare held n 25 [c1] = some y1 := by simpa [Value.cells, hC] using hg 1 _ rfl
      obtain ⟨A2, c2, x, rfl, a2, b2, m2, _, _⟩ := open_ints_in hsp h0
      obtain ⟨A3, c3, c, rfl, a3, b3, m3, k3, _⟩ := open_ints_in hsp h1
      exact ⟨A2, c2, x, A3, c3, c, rfl, a3, k3, m2, m3⟩
end
end Go.Proofs.Ytmbcpmnigggbaaa.Cu
namespace Go.Proofs.Ytmbcpmnigggbaaa
open Go.RowKit

/-- What is known: a map of the call's own, from what is ready to what the best sales bring. -/
def KnownM (W : World) (b n : Nat) (g : Nat → Int) : Prop :=
  ∃ D : DataW Unit, W.ownsMap Try.prog 133 (plainElem Try.prog 3) b n D ∧ Maps.IsMap D ∧ ∀ u : Nat, u < 16 → Maps.has D (.int .i64 (u : Int)) = true → D.atKey (.int .i64 (u : Int)) (.lit (.int .i64 0)) = .lit (.int .i64 (g u))
theorem KnownM.grown {W W' : World} {b n : Nat} {g : Nat → Int} {row : Option Nat} (h : KnownM W b n g) (hg : W.grownBy W' row) (hr : some b ≠ row) : KnownM W' b n g := by
  obtain ⟨D, h1, h2, h3⟩ := h
  exact ⟨D, h1.kept hg hr, h2, h3⟩
theorem KnownM.lt {W : World} {b n : Nat} {g : Nat → Int} (h : KnownM W b n g) : b < W.heap.size := by obtain ⟨D, h1, _⟩ := h; exact h1.lt
theorem KnownM.below {W W' : World} {b n : Nat} {g : Nat → Int} (h : KnownM W b n g) (hb : Below W.heap.size W W') : KnownM W' b n g :=
  h.grown (row := none) ⟨hb.os, hb.tape, hb.output, hb.size, fun i hi _ => hb.block i hi⟩ (by simp)
theorem KnownM.set {W : World} {b n k : Nat} {g : Nat → Int} (h : KnownM W b n g) (hne : b ≠ k) (o : Nat) (v : Value) : KnownM (W.setCell ⟨k, o, none⟩ v) b n g := by
  obtain ⟨D, h1, h2, h3⟩ := h
  exact ⟨D, h1.setCell hne v, h2, h3⟩
theorem OBox.notMap {W : World} {b : Nat} {F : FL} {f : Fair} {v : Value} {u mb : Nat} (h : OBox W b F f v u) (hm : ∃ es ck, W.heap[mb]? = some (.map es ck)) : b ≠ mb := fun e => by
  obtain ⟨es, ck, hm⟩ := hm
  subst e
  rw [show W.heap[b]? = _ from h] at hm
  cases hm
theorem LotsAt.kept {W W' : World} {B B' : Nat} {A : Option Addr} {q : List Bid} (h : LotsAt W B A q) (hB : B ≤ B') (hk : ∀ g o v, A = some g → W.cell? ⟨g.block, o, none⟩ = some v → W'.cell? ⟨g.block, o, none⟩ = some v) : LotsAt W' B' A q := by
  rcases h with h | ⟨b, off, e, hb, h⟩
  · exact .inl h
  · refine .inr ⟨b, off, e, by omega, fun i x hx => ?_⟩
    obtain ⟨m, hm, h1, h2, h3⟩ := h i x hx
    exact ⟨m, hm, hk _ _ _ e h1, hk _ _ _ e h2, hk _ _ _ e h3⟩
/-- What is ready is written anew. -/
theorem OpenAt.set {W : World} {b : Nat} {F : FL} {f : Fair} {rd rd' : List Int} (h : OpenAt W b F f rd) {u : Nat} (hu : MaskOf rd' u) : OpenAt (W.setCell ⟨b, 9, none⟩ (.int .i64 (u : Int))) b F f rd' := by
  obtain ⟨A, c, u0, h1, h2, h3⟩ := h.ex
  have hz : (W.setCell ⟨b, 9, none⟩ (.int .i64 (u : Int))).heap.size = W.heap.size := by simp [World.setCell]
  have hne := h.ne A c u0 h1
  refine ⟨⟨A, c, u, h1.set9 u, h2.kept (Nat.le_of_eq hz.symm) fun g o v e hc => ?_, hu⟩, fun A' c' u' hO g e => ?_⟩
  · rw [World.cell?_of_block (set_other_heap (cell_lt hc) (hne g e))]; exact hc
  · have e2 := (h1.set9 u).uniq hO
    cases e2
    exact hne g e
theorem OpenAt.grown {W W' : World} {b mb : Nat} {F : FL} {f : Fair} {rd : List Int} (h : OpenAt W b F f rd) (hg : W.grownBy W' (some mb)) (hm : ∃ es ck, W.heap[mb]? = some (.map es ck)) : OpenAt W' b F f rd := by
  obtain ⟨A, c, u0, h1, h2, h3⟩ := h.ex
  have hb := h1.notMap hm
  have hO : W'.heap[b]? = W.heap[b]? := hg.block b h1.lt (fun e => hb (Option.some.inj e))
  refine ⟨⟨A, c, u0, h1.of hO, h2.kept hg.size fun g o v e hc => ?_, h3⟩, fun A' c' u' hO' => h.ne A' c' u' (hO'.of hO.symm)⟩
  have hgm : g.block ≠ mb := fun e2 => by
    obtain ⟨es, ck, hm⟩ := hm
    rw [← e2] at hm
    unfold World.cell? at hc
    simp only [hm] at hc
    cases hc
  exact (World.cell?_of_block (a := ⟨g.block, o, none⟩) (hg.block g.block (cell_lt (a := ⟨g.block, o, none⟩) hc) (fun e => hgm (Option.some.inj e)))).trans hc
section
variable {w : World} {ops : Array Oper} {rest : List Oper} {o : Oper} {a : Act} {Q : Exit → Act → World → Prop}
end
open Go.RowKit

end Go.Proofs.Ytmbcpmnigggbaaa
namespace Go.Proofs.Ytmbcpmnigggbaaa
open Go.RowKit

/-! Example 65. -/
def exH : House := ⟨[(3, 10), (5, 4)], 2, [(0, 10), (0, 15), (1, 8)], [40, 20]⟩
def exF : Fair := ⟨exH, [0, 0, 1], 10, 3, [⟨0, [0], 30⟩, ⟨1, [0, 1], 45⟩, ⟨2, [1], 12⟩, ⟨0, [1], 20⟩]⟩
theorem pairs_lay {W : World} {g : Nat} {t : TypeId} {ns : List (Int × Int)} (h : W.heap[g]? = some (.cells (pairCells ns).toArray t (0, 0))) : PairsAt W W.heap.size (some ⟨g, 0, none⟩) ns := by
  refine .inr ⟨g, 0, rfl, heap_lt h, fun i x hx => ?_⟩
  obtain ⟨d1, d2⟩ := pairCells_at ns i x hx
  have hk : ∀ j v, (pairCells ns)[j]? = some v → W.cell? ⟨g, j, none⟩ = some v := fun j v hj => by simp [World.cell?, h, hj]
  rw [Nat.zero_add]
  exact ⟨hk _ _ d1, hk _ _ d2⟩
theorem ints_lay {W : World} {g : Nat} {t : TypeId} {l : List Int} (h : W.heap[g]? = some (.cells (l.map (Value.int .i64)).toArray t (0, 0))) : IntsAt W W.heap.size (some ⟨g, 0, none⟩) l := by
  refine .inr ⟨g, 0, rfl, heap_lt h, fun i x hx => ?_⟩
  rw [Nat.zero_add]
  simp [World.cell?, h, hx]
/-- The example's slices. -/
structure ExHeap (W : World) (n : Nat) : Prop where
  a2 : W.heap[n + 1 + 1]? = some (.cells #[.int .i64 3, .int .i64 10, .int .i64 5, .int .i64 4] 95)
  a3 : W.heap[n + 1 + 1 + 1]? = some (.cells #[.int .i64 0, .int .i64 10, .int .i64 0, .int .i64 15, .int .i64 1, .int .i64 8] 97)
  a4 : W.heap[n + 1 + 1 + 1 + 1]? = some (.cells #[.int .i64 40, .int .i64 20] 3)
  a6 : W.heap[n + 1 + 1 + 1 + 1 + 1 + 1]? = some (.cells #[.int .i64 0, .int .i64 0, .int .i64 1] 3)
  a7 : W.heap[n + 1 + 1 + 1 + 1 + 1 + 1 + 1]? = some (.cells #[.int .i64 0] 3)
  a8 : W.heap[n + 1 + 1 + 1 + 1 + 1 + 1 + 1 + 1]? = some (.cells #[.int .i64 0, .int .i64 1] 3)
  a9 : W.heap[n + 1 + 1 + 1 + 1 + 1 + 1 + 1 + 1 + 1]? = some (.cells #[.int .i64 1] 3)
  a10 : W.heap[n + 1 + 1 + 1 + 1 + 1 + 1 + 1 + 1 + 1 + 1]? = some (.cells #[.int .i64 1] 3)
  a11 : W.heap[n + 1 + 1 + 1 + 1 + 1 + 1 + 1 + 1 + 1 + 1 + 1]? = some (.cells #[.int .i64 0, .slice (some ⟨n + 1 + 1 + 1 + 1 + 1 + 1 + 1, 0, none⟩) 1 1, .int .i64 30, .int .i64 1, .slice (some ⟨n + 1 + 1 + 1 + 1 + 1 + 1 + 1 + 1, 0, none⟩) 2 2, .int .i64 45, .int .i64 2, .slice (some ⟨n + 1 + 1 + 1 + 1 + 1 + 1 + 1 + 1 + 1, 0, none⟩) 1 1, .int .i64 12, .int .i64 0, .slice (some ⟨n + 1 + 1 + 1 + 1 + 1 + 1 + 1 + 1 + 1 + 1, 0, none⟩) 1 1, .int .i64 20] 68)
theorem ExHeap.keep {W W' : World} {n : Nat} (h : ExHeap W n) (hk : ∀ k, n + 2 ≤ k → k < W.heap.size → W'.heap[k]? = W.heap[k]?) : ExHeap W' n :=
  ⟨(hk _ (by omega) (heap_lt h.a2)).trans h.a2, (hk _ (by omega) (heap_lt h.a3)).trans h.a3, (hk _ (by omega) (heap_lt h.a4)).trans h.a4, (hk _ (by omega) (heap_lt h.a6)).trans h.a6, (hk _ (by omega) (heap_lt h.a7)).trans h.a7, (hk _ (by omega) (heap_lt h.a8)).trans h.a8, (hk _ (by omega) (heap_lt h.a9)).trans h.a9, (hk _ (by omega) (heap_lt h.a10)).trans h.a10, (hk _ (by omega) (heap_lt h.a11)).trans h.a11⟩
theorem ExHeap.fair {W : World} {n : Nat} (h : ExHeap W n) : FairAt W W.heap.size ⟨⟨some ⟨n + 1 + 1, 0, none⟩, 2, some ⟨n + 1 + 1 + 1, 0, none⟩, 3, some ⟨n + 1 + 1 + 1 + 1, 0, none⟩, 2⟩, some ⟨n + 1 + 1 + 1 + 1 + 1 + 1, 0, none⟩, 3, some ⟨n + 1 + 1 + 1 + 1 + 1 + 1 + 1 + 1 + 1 + 1 + 1, 0, none⟩, 4⟩ exF := by
  refine ⟨⟨pairs_lay (ns := exH.ks) h.a2, pairs_lay (ns := exH.ps) h.a3, ints_lay (l := exH.bs) h.a4⟩, ints_lay (l := exF.pk) h.a6, .inr ⟨_, 0, rfl, heap_lt h.a11, fun i x hx => ?_⟩⟩
  match i, hx with
  | 0, hx =>
    simp only [exF, List.getElem?_cons_succ, List.getElem?_cons_zero, Option.some.injEq] at hx
    subst hx
    exact ⟨cell_of_heap h.a11 rfl, cell_of_heap h.a11 rfl, _, _, cell_of_heap h.a11 rfl, (fun e => by cases e), ints_lay h.a7⟩
  | 1, hx =>
    simp only [exF, List.getElem?_cons_succ, List.getElem?_cons_zero, Option.some.injEq] at hx
    subst hx
    exact ⟨cell_of_heap h.a11 rfl, cell_of_heap h.a11 rfl, _, _, cell_of_heap h.a11 rfl, (fun e => by cases e), ints_lay h.a8⟩
  | 2, hx =>
    simp only [exF, List.getElem?_cons_succ, List.getElem?_cons_zero, Option.some.injEq] at hx
    subst hx
    exact ⟨cell_of_heap h.a11 rfl, cell_of_heap h.a11 rfl, _, _, cell_of_heap h.a11 rfl, (fun e => by cases e), ints_lay h.a9⟩
  | 3, hx =>
    simp only [exF, List.getElem?_cons_succ, List.getElem?_cons_zero, Option.some.injEq] at hx
    subst hx
    exact ⟨cell_of_heap h.a11 rfl, cell_of_heap h.a11 rfl, _, _, cell_of_heap h.a11 rfl, (fun e => by cases e), ints_lay h.a10⟩
  | i + 4, hx => simp [exF] at hx
theorem ex_fn : FN exF := ⟨by decide, by decide, by decide, by decide⟩
theorem twelve (w : World) (o0 o1 o2 o3 o4 o5 o6 o7 o8 o9 o10 o11 : Obj) : ∃ W, W = ((((((((((((w.alloc o0).alloc o1).alloc o2).alloc o3).alloc o4).alloc o5).alloc o6).alloc o7).alloc o8).alloc o9).alloc o10).alloc o11) ∧ W.heap[w.heap.size]? = some o0 ∧ W.heap[w.heap.size + 1]? = some o1 ∧ W.heap[w.heap.size + 1 + 1]? = some o2 ∧ W.heap[w.heap.size + 1 + 1 + 1]? = some o3 ∧ W.heap[w.heap.size + 1 + 1 + 1 + 1]? = some o4 ∧ W.heap[w.heap.size + 1 + 1 + 1 + 1 + 1]? = some o5 ∧ W.heap[w.heap.size + 1 + 1 + 1 + 1 + 1 + 1]? = some o6 ∧ W.heap[w.heap.size + 1 + 1 + 1 + 1 + 1 + 1 + 1]? = some o7 ∧ W.heap[w.heap.size + 1 + 1 + 1 + 1 + 1 + 1 + 1 + 1]? = some o8 ∧ W.heap[w.heap.size + 1 + 1 + 1 + 1 + 1 + 1 + 1 + 1 + 1]? = some o9 ∧ W.heap[w.heap.size + 1 + 1 + 1 + 1 + 1 + 1 + 1 + 1 + 1 + 1]? = some o10 ∧ W.heap[w.heap.size + 1 + 1 + 1 + 1 + 1 + 1 + 1 + 1 + 1 + 1 + 1]? = some o11 ∧ Below w.heap.size w W := by
  have a0 := World.alloc_heap_new w o0
  have a1 := World.alloc_heap_new (w.alloc o0) o1
  have a2 := World.alloc_heap_new ((w.alloc o0).alloc o1) o2
  have a3 := World.alloc_heap_new (((w.alloc o0).alloc o1).alloc o2) o3
  have a4 := World.alloc_heap_new ((((w.alloc o0).alloc o1).alloc o2).alloc o3) o4
  have a5 := World.alloc_heap_new (((((w.alloc o0).alloc o1).alloc o2).alloc o3).alloc o4) o5
  have a6 := World.alloc_heap_new ((((((w.alloc o0).alloc o1).alloc o2).alloc o3).alloc o4).alloc o5) o6
  have a7 := World.alloc_heap_new (((((((w.alloc o0).alloc o1).alloc o2).alloc o3).alloc o4).alloc o5).alloc o6) o7
  have a8 := World.alloc_heap_new ((((((((w.alloc o0).alloc o1).alloc o2).alloc o3).alloc o4).alloc o5).alloc o6).alloc o7) o8
  have a9 := World.alloc_heap_new (((((((((w.alloc o0).alloc o1).alloc o2).alloc o3).alloc o4).alloc o5).alloc o6).alloc o7).alloc o8) o9
  have a10 := World.alloc_heap_new ((((((((((w.alloc o0).alloc o1).alloc o2).alloc o3).alloc o4).alloc o5).alloc o6).alloc o7).alloc o8).alloc o9) o10
  have a11 := World.alloc_heap_new (((((((((((w.alloc o0).alloc o1).alloc o2).alloc o3).alloc o4).alloc o5).alloc o6).alloc o7).alloc o8).alloc o9).alloc o10) o11
  have up : ∀ {W : World} {k : Nat} {o o' : Obj}, W.heap[k]? = some o → (W.alloc o').heap[k]? = some o := fun h => (Below.heap_alloc _ _ _ (Array.getElem?_eq_some_iff.1 h).1).trans h
  simp only [World.size_alloc] at a1 a2 a3 a4 a5 a6 a7 a8 a9 a10 a11
  refine ⟨_, rfl, up (up (up (up (up (up (up (up (up (up (up (a0))))))))))), up (up (up (up (up (up (up (up (up (up (a1)))))))))), up (up (up (up (up (up (up (up (up (a2))))))))), up (up (up (up (up (up (up (up (a3)))))))), up (up (up (up (up (up (up (a4))))))), up (up (up (up (up (up (a5)))))), up (up (up (up (up (a6))))), up (up (up (up (a7)))), up (up (up (a8))), up (up (a9)), up (a10), a11, ?_⟩
  have hb := fun (W : World) (o : Obj) (h : Below w.heap.size w W) => h.alloc h.size o
  exact hb _ _ (hb _ _ (hb _ _ (hb _ _ (hb _ _ (hb _ _ (hb _ _ (hb _ _ (hb _ _ (hb _ _ (hb _ _ (hb _ _ (Below.refl _ w))))))))))))
theorem set8_block {W : World} {b k : Nat} {t : TypeId} {arr : Array Value} (h : W.heap[b]? = some (.cells arr t (0, 0))) (x0 x1 x2 x3 x4 x5 x6 x7 : Value) (hk : k < W.heap.size) (hne : k ≠ b) : ((((((((W.setCell ⟨b, 0, none⟩ x0).setCell ⟨b, 1, none⟩ x1).setCell ⟨b, 2, none⟩ x2).setCell ⟨b, 3, none⟩ x3).setCell ⟨b, 4, none⟩ x4).setCell ⟨b, 5, none⟩ x5).setCell ⟨b, 6, none⟩ x6).setCell ⟨b, 7, none⟩ x7).heap[k]? = W.heap[k]? :=
  (((KpB.refl (fun j => j = b) W.heap.size W).set 0 x0 (.inl rfl)).block k hk hne) |> fun e => by
    have s : ∀ (V : World) (o : Nat) (u : Value), k < V.heap.size → (V.setCell ⟨b, o, none⟩ u).heap[k]? = V.heap[k]? := fun V o u hv => set_other_heap hv hne
    simp only [s, World.size_setCell, hk]
theorem results_two {P : Program} {fn : Func} {t1 t2 : Tmp} {ty1 ty2 : TypeId} (h : fn.results = #[.cell t1 ty1, .cell t2 ty2]) {tmps : Array Value} {w : World} {v1 v2 : Value} {p1 p2 : Addr} (ht1 : tmps.getD t1 undef = .pointer (some p1)) (ht2 : tmps.getD t2 undef = .pointer (some p2))
    (hl1 : (Instr.loadAt ty1 (.pointer (some p1))).run P w = .ok v1 w) (hl2 : (Instr.loadAt ty2 (.pointer (some p2))).run P w = .ok v2 w) : (results fn tmps).run P w = .ok (.tuple #[v1, v2]) w := by
  have a1 : tmps[t1]?.getD undef = .pointer (some p1) := by simpa using ht1
  have a2 : tmps[t2]?.getD undef = .pointer (some p2) := by simpa using ht2
  simp [Instr.loadAt, Instr.sureAddr, asAddr] at hl1 hl2
  simp [results, h, a1, a2, Instr.loadAt, Instr.sureAddr, asAddr, hl1, hl2]
set_option maxRecDepth 100000 in
set_option maxHeartbeats 4000000 in
theorem example_any (w : World) : Calls Try.prog 81 #[] w fun e w' => (∃ F G, e = .returned (.tuple #[F.enc exF, G.enc (dayF exF 5)]) ∧ (FairAt w' w'.heap.size F exF ∧ FairAt w' w'.heap.size G (dayF exF 5))) ∧ Below w.heap.size w w' := by
  go_enter Try.func81, Try.ntmps81
  go_upto_region 3 with (fail)
  obtain ⟨W, hW, a0, a1, a2, a3, a4, a5, a6, a7, a8, a9, a10, a11, hb⟩ := twelve w (.cells #[.slice (some ⟨w.heap.size + 1 + 1, 0, none⟩) 2 2, .int .i64 2, .slice (some ⟨w.heap.size + 1 + 1 + 1, 0, none⟩) 3 3, .slice (some ⟨w.heap.size + 1 + 1 + 1 + 1, 0, none⟩) 2 2, .slice (some ⟨w.heap.size + 1 + 1 + 1 + 1 + 1 + 1, 0, none⟩) 3 3, .int .i64 10, .int .i64 3, .slice (some ⟨w.heap.size + 1 + 1 + 1 + 1 + 1 + 1 + 1 + 1 + 1 + 1 + 1, 0, none⟩) 4 4] 62) (.cells #[.slice none 0 0, .int .i64 0, .slice none 0 0, .slice none 0 0, .slice none 0 0, .int .i64 0, .int .i64 0, .slice none 0 0] 62) (.cells #[.int .i64 3, .int .i64 10, .int .i64 5, .int .i64 4] 95) (.cells #[.int .i64 0, .int .i64 10, .int .i64 0, .int .i64 15, .int .i64 1, .int .i64 8] 97) (.cells #[.int .i64 40, .int .i64 20] 3) (.cells #[.slice (some ⟨w.heap.size + 1 + 1, 0, none⟩) 2 2, .int .i64 2, .slice (some ⟨w.heap.size + 1 + 1 + 1, 0, none⟩) 3 3, .slice (some ⟨w.heap.size + 1 + 1 + 1 + 1, 0, none⟩) 2 2] 27) (.cells #[.int .i64 0, .int .i64 0, .int .i64 1] 3) (.cells #[.int .i64 0] 3) (.cells #[.int .i64 0, .int .i64 1] 3) (.cells #[.int .i64 1] 3) (.cells #[.int .i64 1] 3) (.cells #[.int .i64 0, .slice (some ⟨w.heap.size + 1 + 1 + 1 + 1 + 1 + 1 + 1, 0, none⟩) 1 1, .int .i64 30, .int .i64 1, .slice (some ⟨w.heap.size + 1 + 1 + 1 + 1 + 1 + 1 + 1 + 1, 0, none⟩) 2 2, .int .i64 45, .int .i64 2, .slice (some ⟨w.heap.size + 1 + 1 + 1 + 1 + 1 + 1 + 1 + 1 + 1, 0, none⟩) 1 1, .int .i64 12, .int .i64 0, .slice (some ⟨w.heap.size + 1 + 1 + 1 + 1 + 1 + 1 + 1 + 1 + 1 + 1, 0, none⟩) 1 1, .int .i64 20] 68)
  rw [← hW]
  clear hW
  have HX : Hid (ExHeap W w.heap.size) := Lib.hid ⟨a2, a3, a4, a6, a7, a8, a9, a10, a11⟩
  have HB := Lib.hid hb
  have H0 := Lib.hid a0
  have H1 := Lib.hid a1
  have hsz : w.heap.size + 12 ≤ W.heap.size := heap_lt a11
  have hok : FLOK ⟨⟨some ⟨w.heap.size + 1 + 1, 0, none⟩, 2, some ⟨w.heap.size + 1 + 1 + 1, 0, none⟩, 3, some ⟨w.heap.size + 1 + 1 + 1 + 1, 0, none⟩, 2⟩, some ⟨w.heap.size + 1 + 1 + 1 + 1 + 1 + 1, 0, none⟩, 3, some ⟨w.heap.size + 1 + 1 + 1 + 1 + 1 + 1 + 1 + 1 + 1 + 1 + 1, 0, none⟩, 4⟩ exF := ⟨⟨(fun e => by cases e), (fun e => by cases e), (fun e => by cases e)⟩, (fun e => by cases e), (fun e => by cases e)⟩
  have H28 := Lib.hid (fun W' (hb' : Below W.heap.size W W') => onDay_any _ exF ex_fn hok 5 W' (HX.out.fair.below hb'))
  have y0 := cell_of_heap (o := 0) a0 rfl
  have y1 := cell_of_heap (o := 1) a0 rfl
  have y2 := cell_of_heap (o := 2) a0 rfl
  have y3 := cell_of_heap (o := 3) a0 rfl
  have y4 := cell_of_heap (o := 4) a0 rfl
  have y5 := cell_of_heap (o := 5) a0 rfl
  have y6 := cell_of_heap (o := 6) a0 rfl
  have y7 := cell_of_heap (o := 7) a0 rfl
  clear hok hb a0 a1 a2 a3 a4 a5 a6 a7 a8 a9 a10 a11
  go_region_law
    (go_simp; go_at_call 134; refine (H28.out _ (by first | exact Below.refl _ _ | exact drew_below _)).mono ?_; rintro e w1 ⟨⟨⟨⟨Ak, ck, Ap, cp, Ab, cb⟩, A', c', A9, c9⟩, rfl, hcf, hq⟩, hb1⟩; have B1 : Hid (Below W.heap.size W w1) := Lib.hid (by first | exact hb1 | exact hb0to (drew_below _) hb1); have HCF := Lib.hid hcf; have HQ := Lib.hid hq; have k0 := (B1.out.block _ (heap_lt H0.out)).trans H0.out; have k1 := (B1.out.block _ (heap_lt H1.out)).trans H1.out; have K0 := Lib.hid k0; have K1 := Lib.hid k1; have y0 := cell_of_heap (o := 0) k0 rfl; have v0 := cell_of_heap (o := 0) k1 rfl; have y1 := cell_of_heap (o := 1) k0 rfl; have v1 := cell_of_heap (o := 1) k1 rfl; have y2 := cell_of_heap (o := 2) k0 rfl; have v2 := cell_of_heap (o := 2) k1 rfl; have y3 := cell_of_heap (o := 3) k0 rfl; have v3 := cell_of_heap (o := 3) k1 rfl; have y4 := cell_of_heap (o := 4) k0 rfl; have v4 := cell_of_heap (o := 4) k1 rfl; have y5 := cell_of_heap (o := 5) k0 rfl; have v5 := cell_of_heap (o := 5) k1 rfl; have y6 := cell_of_heap (o := 6) k0 rfl; have v6 := cell_of_heap (o := 6) k1 rfl; have y7 := cell_of_heap (o := 7) k0 rfl; have v7 := cell_of_heap (o := 7) k1 rfl; have yf := frozen_of_heap k0; have vf := frozen_of_heap k1; clear hcf hq hb1 k0 k1)
  all_goals
    go_wp2_with (fail)
    have hs1 := B1.out.size
    have e0 := set8_heap K0.out (.slice (some ⟨w.heap.size + 1 + 1, 0, none⟩) 2 2) (.int .i64 2) (.slice (some ⟨w.heap.size + 1 + 1 + 1, 0, none⟩) 3 3) (.slice (some ⟨w.heap.size + 1 + 1 + 1 + 1, 0, none⟩) 2 2) (.slice (some ⟨w.heap.size + 1 + 1 + 1 + 1 + 1 + 1, 0, none⟩) 3 3) (.int .i64 10) (.int .i64 3) (.slice (some ⟨w.heap.size + 1 + 1 + 1 + 1 + 1 + 1 + 1 + 1 + 1 + 1 + 1, 0, none⟩) 4 4)
    have e1 := (set8_block K0.out (.slice (some ⟨w.heap.size + 1 + 1, 0, none⟩) 2 2) (.int .i64 2) (.slice (some ⟨w.heap.size + 1 + 1 + 1, 0, none⟩) 3 3) (.slice (some ⟨w.heap.size + 1 + 1 + 1 + 1, 0, none⟩) 2 2) (.slice (some ⟨w.heap.size + 1 + 1 + 1 + 1 + 1 + 1, 0, none⟩) 3 3) (.int .i64 10) (.int .i64 3) (.slice (some ⟨w.heap.size + 1 + 1 + 1 + 1 + 1 + 1 + 1 + 1 + 1 + 1 + 1, 0, none⟩) 4 4) (heap_lt K1.out) (by omega)).trans K1.out
    have g1 := set8_heap e1 (.slice Ak (dayF exF 5).h.ks.length ck) (.int .i64 (dayF exF 5).h.fl) (.slice Ap (dayF exF 5).h.ps.length cp) (.slice Ab (dayF exF 5).h.bs.length cb) (.slice A' (dayF exF 5).pk.length c') (.int .i64 (dayF exF 5).day) (.int .i64 (dayF exF 5).nb) (.slice A9 (dayF exF 5).q.length c9)
    have g0 := (set8_block e1 (.slice Ak (dayF exF 5).h.ks.length ck) (.int .i64 (dayF exF 5).h.fl) (.slice Ap (dayF exF 5).h.ps.length cp) (.slice Ab (dayF exF 5).h.bs.length cb) (.slice A' (dayF exF 5).pk.length c') (.int .i64 (dayF exF 5).day) (.int .i64 (dayF exF 5).nb) (.slice A9 (dayF exF 5).q.length c9) (heap_lt e0) (by omega)).trans e0
    refine bodyPost_ret (results_two rfl rfl rfl (load29 (cell_of_heap (o := 0) g0 rfl) (cell_of_heap (o := 1) g0 rfl) (cell_of_heap (o := 2) g0 rfl) (cell_of_heap (o := 3) g0 rfl) (cell_of_heap (o := 4) g0 rfl) (cell_of_heap (o := 5) g0 rfl) (cell_of_heap (o := 6) g0 rfl) (cell_of_heap (o := 7) g0 rfl)) (load29 (cell_of_heap (o := 0) g1 rfl) (cell_of_heap (o := 1) g1 rfl) (cell_of_heap (o := 2) g1 rfl) (cell_of_heap (o := 3) g1 rfl) (cell_of_heap (o := 4) g1 rfl) (cell_of_heap (o := 5) g1 rfl) (cell_of_heap (o := 6) g1 rfl) (cell_of_heap (o := 7) g1 rfl))) rfl ⟨⟨⟨⟨some ⟨w.heap.size + 1 + 1, 0, none⟩, 2, some ⟨w.heap.size + 1 + 1 + 1, 0, none⟩, 3, some ⟨w.heap.size + 1 + 1 + 1 + 1, 0, none⟩, 2⟩, some ⟨w.heap.size + 1 + 1 + 1 + 1 + 1 + 1, 0, none⟩, 3, some ⟨w.heap.size + 1 + 1 + 1 + 1 + 1 + 1 + 1 + 1 + 1 + 1 + 1, 0, none⟩, 4⟩, ⟨⟨Ak, ck, Ap, cp, Ab, cb⟩, A', c', A9, c9⟩, rfl, ExHeap.fair ?_, (CopRet.fair (n := W.heap.size) ?_ ?_).1⟩, ?_⟩
    · refine HX.out.keep fun k h1 h2 => ?_
      rw [set8_block e1 _ _ _ _ _ _ _ _ (by simp only [World.size_setCell]; omega) (by omega), set8_block K0.out _ _ _ _ _ _ _ _ (by omega) (by omega)]
      exact B1.out.block k h2
    · exact (HCF.out.keepT (keepT_set8 K0.out (by decide) _ _ _ _ _ _ _ _) (keepT_set8 K0.out (by decide) _ _ _ _ _ _ _ _) (keepT_set8 K0.out (by decide) _ _ _ _ _ _ _ _)).keepT (keepT_set8 e1 (by decide) _ _ _ _ _ _ _ _) (keepT_set8 e1 (by decide) _ _ _ _ _ _ _ _) (keepT_set8 e1 (by decide) _ _ _ _ _ _ _ _)
    · exact (HQ.out.keepO (keepT_set8 K0.out (by decide) _ _ _ _ _ _ _ _) (keepT_set8 K0.out (by decide) _ _ _ _ _ _ _ _)).keepO (keepT_set8 e1 (by decide) _ _ _ _ _ _ _ _) (keepT_set8 e1 (by decide) _ _ _ _ _ _ _ _)
    · exact below_set8 (below_set8 (hb0to HB.out B1.out) (Nat.le_refl _) _ _ _ _ _ _ _ _) (by omega) _ _ _ _ _ _ _ _

open Go.RowKit

structure ExW (W : World) (s : Nat) (F G : FL) : Prop where
  f : FairAt W W.heap.size F exF
  g : FairAt W W.heap.size G (dayF exF 5)
  x : FBox W s F exF
  y : FBox W (s + 1) G (dayF exF 5)
theorem ExW.next {W W' : World} {s : Nat} {F G : FL} (H : ExW W s F G) (hb : Below W.heap.size W W') : ExW W' s F G := ⟨H.f.below hb, H.g.below hb, H.x.of (hb.block _ H.x.lt), H.y.of (hb.block _ H.y.lt)⟩
theorem ExW.c {W : World} {s : Nat} {F G : FL} (H : ExW W s F G) : (W.cell? ⟨s, 0, none⟩ = some (.slice F.L.Ak exF.h.ks.length F.L.ck) ∧ W.cell? ⟨s, 1, none⟩ = some (.int .i64 exF.h.fl) ∧ W.cell? ⟨s, 2, none⟩ = some (.slice F.L.Ap exF.h.ps.length F.L.cp) ∧ W.cell? ⟨s, 3, none⟩ = some (.slice F.L.Ab exF.h.bs.length F.L.cb) ∧ W.cell? ⟨s, 4, none⟩ = some (.slice F.Ap exF.pk.length F.cp) ∧ W.cell? ⟨s, 5, none⟩ = some (.int .i64 exF.day) ∧ W.cell? ⟨s, 6, none⟩ = some (.int .i64 exF.nb) ∧ W.cell? ⟨s, 7, none⟩ = some (.slice F.Aq exF.q.length F.cq)) ∧ W.cell? ⟨s + 1, 0, none⟩ = some (.slice G.L.Ak (dayF exF 5).h.ks.length G.L.ck) ∧ W.cell? ⟨s + 1, 1, none⟩ = some (.int .i64 (dayF exF 5).h.fl) ∧ W.cell? ⟨s + 1, 2, none⟩ = some (.slice G.L.Ap (dayF exF 5).h.ps.length G.L.cp) ∧ W.cell? ⟨s + 1, 3, none⟩ = some (.slice G.L.Ab (dayF exF 5).h.bs.length G.L.cb) ∧ W.cell? ⟨s + 1, 4, none⟩ = some (.slice G.Ap (dayF exF 5).pk.length G.cp) ∧ W.cell? ⟨s + 1, 5, none⟩ = some (.int .i64 (dayF exF 5).day) ∧ W.cell? ⟨s + 1, 6, none⟩ = some (.int .i64 (dayF exF 5).nb) ∧ W.cell? ⟨s + 1, 7, none⟩ = some (.slice G.Aq (dayF exF 5).q.length G.cq) := ⟨H.x.cells, H.y.cells⟩
theorem ExW.new {W : World} {F G : FL} (hF : FairAt W W.heap.size F exF) (hG : FairAt W W.heap.size G (dayF exF 5)) : ExW ((W.alloc (.cells (F.cells exF) 62)).alloc (.cells (G.cells (dayF exF 5)) 62)) W.heap.size F G := by
  have hb := hb0to (al_below W (.cells (F.cells exF) 62)) (al_below _ (.cells (G.cells (dayF exF 5)) 62))
  exact ⟨hF.below hb, hG.below hb, (FBox.new W F exF).of (Below.heap_alloc _ _ _ (by simp)), heap_new2 W _ _⟩
end Go.Proofs.Ytmbcpmnigggbaaa
