import Derived.Test.YtmbcpmnigggbaaaPL
import Derived.Test.YtmbcpmnigggbaaaRS
import Derived.Test.YtmbcpmnigggbaaaLD
import Derived.Test.YtmbcpmnigggbaaaSG
namespace Go.Proofs.Ytmbcpmnigggbaaa
/-! Places that are barrels, boats that are buyers: a sale with a bid for each place is a crew. -/
def hireRow (ok : Nat → Nat → Bool) (pay : Nat → Int) (B k : Nat) : List Bid := ((List.range B).filter (ok k)).map fun b : Nat => ⟨(b : Int), [(k : Int)], pay b⟩
def hireQ (ok : Nat → Nat → Bool) (pay : Nat → Int) (B : Nat) : Nat → List Bid
  | 0 => []
  | k + 1 => hireQ ok pay B k ++ hireRow ok pay B k
theorem row_zero (ok : Nat → Nat → Bool) (pay : Nat → Int) (k : Nat) : hireRow ok pay 0 k = [] := rfl
theorem row_yes {ok : Nat → Nat → Bool} {pay : Nat → Int} {j k : Nat} (h : ok k j = true) : hireRow ok pay (j + 1) k = hireRow ok pay j k ++ [⟨(j : Int), [(k : Int)], pay j⟩] := by
  simp [hireRow, List.range_succ, h]
theorem row_no {ok : Nat → Nat → Bool} {pay : Nat → Int} {j k : Nat} (h : ok k j = false) : hireRow ok pay (j + 1) k = hireRow ok pay j k := by
  simp [hireRow, List.range_succ, h]
theorem mem_row {ok : Nat → Nat → Bool} {pay : Nat → Int} {B k : Nat} {x : Bid} : x ∈ hireRow ok pay B k ↔ ∃ b, b < B ∧ ok k b = true ∧ x = ⟨(b : Int), [(k : Int)], pay b⟩ := by
  unfold hireRow
  rw [List.mem_map]
  constructor
  · rintro ⟨b, hb, rfl⟩
    rw [List.mem_filter, List.mem_range] at hb
    exact ⟨b, hb.1, hb.2, rfl⟩
  · rintro ⟨b, h1, h2, rfl⟩
    exact ⟨b, by rw [List.mem_filter, List.mem_range]; exact ⟨h1, h2⟩, rfl⟩
theorem mem_hire {ok : Nat → Nat → Bool} {pay : Nat → Int} {B : Nat} : ∀ {P : Nat} {x : Bid}, x ∈ hireQ ok pay B P ↔ ∃ k b, k < P ∧ b < B ∧ ok k b = true ∧ x = ⟨(b : Int), [(k : Int)], pay b⟩
  | 0, x => by simp [hireQ]
  | P + 1, x => by
    rw [hireQ, List.mem_append, mem_hire, mem_row]
    constructor
    · rintro (⟨k, b, h1, h2⟩ | ⟨b, h2⟩)
      · exact ⟨k, b, by omega, h2⟩
      · exact ⟨P, b, by omega, h2⟩
    · rintro ⟨k, b, h1, h2⟩
      by_cases e : k = P
      · subst e
        exact .inr ⟨b, h2⟩
      · exact .inl ⟨k, b, by omega, h2⟩
theorem row_len (ok : Nat → Nat → Bool) (pay : Nat → Int) (B k : Nat) : (hireRow ok pay B k).length ≤ B := by
  unfold hireRow
  rw [List.length_map]
  exact Nat.le_trans (List.length_filter_le _ _) (by simp)
theorem hire_len (ok : Nat → Nat → Bool) (pay : Nat → Int) (B : Nat) : ∀ P, (hireQ ok pay B P).length ≤ P * B
  | 0 => by simp [hireQ]
  | P + 1 => by
    have h1 := hire_len ok pay B P
    have h2 := row_len ok pay B P
    rw [hireQ, List.length_append, Nat.succ_mul]
    omega
/-- The barrel of a bid for one. -/
def barOf (x : Bid) : Int := x.bar.headD 0
theorem hire_sorted (ok : Nat → Nat → Bool) (pay : Nat → Int) (B : Nat) : ∀ P, (hireQ ok pay B P).Pairwise fun x y => barOf x ≤ barOf y
  | 0 => .nil
  | P + 1 => by
    rw [hireQ, List.pairwise_append]
    refine ⟨hire_sorted ok pay B P, ?_, fun x hx y hy => ?_⟩
    · unfold hireRow
      rw [List.pairwise_map]
      exact List.pairwise_of_forall (fun _ _ => Int.le_refl _)
    · obtain ⟨k, b, h1, _, _, rfl⟩ := mem_hire.1 hx
      obtain ⟨b', _, _, rfl⟩ := mem_row.1 hy
      show (k : Int) ≤ (P : Int)
      omega
/-- A list of numbers that grow, from lo on and below P: not longer than it can be; and if it is as long, it is all of them. -/
theorem up_len {P : Nat} : ∀ {l : List Nat} {lo : Nat}, lo ≤ P → l.Pairwise (· < ·) → (∀ x ∈ l, lo ≤ x ∧ x < P) → l.length + lo ≤ P ∧ (l.length + lo = P → ∀ k, k < l.length → l[k]? = some (lo + k))
  | [], lo, h, _, _ => ⟨by simpa using h, fun _ k hk => by simp at hk⟩
  | x :: t, lo, h, hp, hb => by
    rw [List.pairwise_cons] at hp
    have hx := hb x (by simp)
    have ih := up_len (l := t) (lo := x + 1) (by omega) hp.2 fun y hy => ⟨hp.1 y hy, (hb y (by simp [hy])).2⟩
    refine ⟨by simp only [List.length_cons]; omega, fun e k hk => ?_⟩
    simp only [List.length_cons] at e hk
    have ex : x = lo := by omega
    subst ex
    cases k with
    | zero => simp
    | succ k =>
      rw [List.getElem?_cons_succ, ih.2 (by omega) k (by omega)]
      congr 1
      omega
/-- The bids of a crew, one for each place. -/
theorem crew_bids {ok : Nat → Nat → Bool} {pay : Nat → Int} {B : Nat} {cs : List Nat} (hB : ∀ b ∈ cs, b < B) (hok : ∀ k b, cs[k]? = some b → ok k b = true) : ∀ P, P ≤ cs.length →
    ∃ l : List Nat, l.length = P ∧ l.Pairwise (· < ·) ∧ ∀ k b : Nat, cs[k]? = some b → k < P → ∃ i : Nat, l[k]? = some i ∧ (hireQ ok pay B P)[i]? = some ⟨(b : Int), [(k : Int)], pay b⟩
  | 0, _ => ⟨[], rfl, .nil, fun k b _ h => by omega⟩
  | P + 1, h => by
    obtain ⟨l, h1, h2, h3⟩ := crew_bids (pay := pay) hB hok P (by omega)
    obtain ⟨b, hb⟩ : ∃ b, cs[P]? = some b := ⟨_, List.getElem?_eq_getElem (by omega)⟩
    obtain ⟨j, hj⟩ := List.mem_iff_getElem?.1 (mem_row (pay := pay).2 ⟨b, hB b (List.mem_of_getElem? hb), hok P b hb, rfl⟩)
    have hlt : ∀ i ∈ l, i < (hireQ ok pay B P).length := fun i hi => by
      obtain ⟨k, hk⟩ := List.mem_iff_getElem?.1 hi
      have hkl := (List.getElem?_eq_some_iff.1 hk).1
      obtain ⟨c, hc⟩ : ∃ c, cs[k]? = some c := ⟨_, List.getElem?_eq_getElem (by omega)⟩
      obtain ⟨i', e1, e2⟩ := h3 k c hc (by omega)
      rw [hk] at e1
      cases e1
      exact (List.getElem?_eq_some_iff.1 e2).1
    refine ⟨l ++ [(hireQ ok pay B P).length + j], by simp [h1], ?_, fun k c hc hk => ?_⟩
    · rw [List.pairwise_append]
      refine ⟨h2, by simp, fun x hx y hy => ?_⟩
      simp at hy
      have := hlt x hx
      omega
    · by_cases e : k = P
      · subst e
        rw [hc] at hb
        cases hb
        refine ⟨(hireQ ok pay B k).length + j, by rw [List.getElem?_append_right (by omega)]; simp [h1], ?_⟩
        rw [hireQ, List.getElem?_append_right (by omega)]
        simpa using hj
      · obtain ⟨i, e1, e2⟩ := h3 k c hc (by omega)
        have hi := (List.getElem?_eq_some_iff.1 e2).1
        exact ⟨i, by rw [List.getElem?_append_left (by omega)]; exact e1, by rw [hireQ, List.getElem?_append_left hi]; exact e2⟩
theorem crew_sale {ok : Nat → Nat → Bool} {pay : Nat → Int} {B P : Nat} {rd : List Int} (hr : ∀ k : Nat, k < P → (k : Int) ∈ rd) {cs : List Nat} (hl : cs.length = P) (hB : ∀ b ∈ cs, b < B) (hn : cs.Nodup) (hok : ∀ k b, cs[k]? = some b → ok k b = true) :
    ∃ l, SaleL (hireQ ok pay B P) rd l ∧ l.length = P ∧ bringsL (hireQ ok pay B P) l = (cs.map pay).sum := by
  obtain ⟨l, h1, h2, h3⟩ := crew_bids (pay := pay) hB hok P (by omega)
  have hat : ∀ i ∈ l, ∃ (k b : Nat), cs[k]? = some b ∧ k < P ∧ l[k]? = some i ∧ (hireQ ok pay B P)[i]? = some ⟨(b : Int), [(k : Int)], pay b⟩ := fun i hi => by
    obtain ⟨k, hk⟩ := List.mem_iff_getElem?.1 hi
    have hkl := (List.getElem?_eq_some_iff.1 hk).1
    obtain ⟨b, hb⟩ : ∃ b, cs[k]? = some b := ⟨_, List.getElem?_eq_getElem (by omega)⟩
    obtain ⟨i', e1, e2⟩ := h3 k b hb (by omega)
    rw [hk] at e1
    cases e1
    exact ⟨k, b, hb, by omega, hk, e2⟩
  refine ⟨l, ⟨h2, fun i hi => ?_, fun i hi j hj hij a b ha hb => ?_⟩, h1, ?_⟩
  · obtain ⟨k, b, _, h4, _, h5⟩ := hat i hi
    refine ⟨_, h5, ready_iff.2 fun n hn => ?_⟩
    simp at hn
    subst hn
    exact hr k h4
  · obtain ⟨k, x, g1, g2, g3, g4⟩ := hat i hi
    obtain ⟨m, y, f1, f2, f3, f4⟩ := hat j hj
    rw [ha] at g4
    rw [hb] at f4
    cases g4
    cases f4
    have hkm : k ≠ m := fun e => by
      subst e
      rw [g3] at f3
      cases f3
      exact hij rfl
    have hxy : x ≠ y := fun e => by
      subst e
      have h6 := (List.getElem?_eq_some_iff.1 g1)
      have h7 := (List.getElem?_eq_some_iff.1 f1)
      rcases Nat.lt_or_gt_of_ne hkm with h | h
      · exact (List.pairwise_iff_getElem.1 hn) k m h6.1 h7.1 h (h6.2.trans h7.2.symm)
      · exact (List.pairwise_iff_getElem.1 hn) m k h7.1 h6.1 h (h7.2.trans h6.2.symm)
    refine apart_iff.2 ⟨fun e => hxy (by have e' : (x : Int) = (y : Int) := e; omega), fun n hn1 hn2 => ?_⟩
    simp at hn1 hn2
    omega
  · unfold bringsL
    congr 1
    apply List.ext_getElem?
    intro k
    rw [List.getElem?_map, List.getElem?_map]
    by_cases hk : k < P
    · obtain ⟨b, hb⟩ : ∃ b, cs[k]? = some b := ⟨_, List.getElem?_eq_getElem (by omega)⟩
      obtain ⟨i, e1, e2⟩ := h3 k b hb hk
      rw [e1, hb]
      simp [payAt_some e2]
    · rw [List.getElem?_eq_none (by omega), List.getElem?_eq_none (by omega)]
      rfl
theorem sale_crew {ok : Nat → Nat → Bool} {pay : Nat → Int} {B P : Nat} {rd : List Int} {l : List Nat} (h : SaleL (hireQ ok pay B P) rd l) :
    l.length ≤ P ∧ (l.length = P → ∃ cs : List Nat, cs.length = P ∧ (∀ b ∈ cs, b < B) ∧ cs.Nodup ∧ (∀ k b, cs[k]? = some b → ok k b = true) ∧ bringsL (hireQ ok pay B P) l = (cs.map pay).sum) := by
  have hx : ∀ i : Nat, ∃ k b : Nat, i ∈ l → k < P ∧ b < B ∧ ok k b = true ∧ (hireQ ok pay B P)[i]? = some ⟨(b : Int), [(k : Int)], pay b⟩ := fun i => by
    by_cases hi : i ∈ l
    · obtain ⟨x, hx, _⟩ := h.rdy i hi
      obtain ⟨k, b, h1, h2, h3, rfl⟩ := mem_hire.1 (List.mem_of_getElem? hx)
      exact ⟨k, b, fun _ => ⟨h1, h2, h3, hx⟩⟩
    · exact ⟨0, 0, fun e => absurd e hi⟩
  obtain ⟨kf, hx⟩ : ∃ kf : Nat → Nat, ∀ i, ∃ b : Nat, i ∈ l → kf i < P ∧ b < B ∧ ok (kf i) b = true ∧ (hireQ ok pay B P)[i]? = some ⟨(b : Int), [(kf i : Int)], pay b⟩ := ⟨fun i => Classical.choose (hx i), fun i => Classical.choose_spec (hx i)⟩
  obtain ⟨bf, hx⟩ : ∃ bf : Nat → Nat, ∀ i, i ∈ l → kf i < P ∧ bf i < B ∧ ok (kf i) (bf i) = true ∧ (hireQ ok pay B P)[i]? = some ⟨(bf i : Int), [(kf i : Int)], pay (bf i)⟩ := ⟨fun i => Classical.choose (hx i), fun i => Classical.choose_spec (hx i)⟩
  have hap : ∀ i ∈ l, ∀ j ∈ l, i ≠ j → bf i ≠ bf j ∧ kf i ≠ kf j := fun i hi j hj hij => by
    have h1 := apart_iff.1 (h.ap i hi j hj hij _ _ (hx i hi).2.2.2 (hx j hj).2.2.2)
    refine ⟨fun e => h1.1 (by simp [e]), fun e => ?_⟩
    have := h1.2 (kf i : Int) (by simp)
    simp [e] at this
  have hup : (l.map kf).Pairwise (· < ·) := by
    rw [List.pairwise_map]
    refine List.Pairwise.imp_of_mem (R := (· < ·)) (fun {i j} hi hj hij => ?_) h.up
    have h1 := (hap i hi j hj (by omega)).2
    obtain ⟨hil, h2⟩ := List.getElem?_eq_some_iff.1 (hx i hi).2.2.2
    obtain ⟨hjl, h3⟩ := List.getElem?_eq_some_iff.1 (hx j hj).2.2.2
    have h4 := (List.pairwise_iff_getElem.1 (hire_sorted ok pay B P)) i j hil hjl hij
    rw [h2, h3] at h4
    have h5 : (kf i : Int) ≤ (kf j : Int) := h4
    omega
  have hu := up_len (P := P) (l := l.map kf) (lo := 0) (Nat.zero_le _) hup fun x hx' => by
    obtain ⟨i, hi, rfl⟩ := List.mem_map.1 hx'
    exact ⟨Nat.zero_le _, (hx i hi).1⟩
  rw [List.length_map] at hu
  refine ⟨by omega, fun e => ⟨l.map bf, by simp [e], fun b hb => ?_, ?_, fun k b hk => ?_, ?_⟩⟩
  · obtain ⟨i, hi, rfl⟩ := List.mem_map.1 hb
    exact (hx i hi).2.1
  · rw [List.nodup_iff_pairwise_ne, List.pairwise_map]
    exact List.Pairwise.imp_of_mem (R := (· < ·)) (fun {i j} hi hj hij => (hap i hi j hj (by omega)).1) h.up
  · rw [List.getElem?_map] at hk
    cases hi : l[k]? with
    | none => rw [hi] at hk; simp at hk
    | some i =>
      rw [hi] at hk
      simp at hk
      subst hk
      have hkl := (List.getElem?_eq_some_iff.1 hi).1
      have h2 := hu.2 (by omega) k hkl
      rw [List.getElem?_map, hi] at h2
      simp at h2
      have h3 := (hx i (List.mem_of_getElem? hi)).2.2.1
      rwa [h2] at h3
  · unfold bringsL
    rw [List.map_map]
    congr 1
    exact List.map_congr_left fun i hi => payAt_some (hx i hi).2.2.2
/-- What a sale of such bids brings. -/
theorem sale_bd {ok : Nat → Nat → Bool} {pay : Nat → Int} {B P : Nat} (hp : ∀ b, b < B → 75 ≤ pay b ∧ pay b ≤ 99) {l : List Nat} (h : ∀ i ∈ l, i < (hireQ ok pay B P).length) :
    75 * (l.length : Int) ≤ bringsL (hireQ ok pay B P) l ∧ bringsL (hireQ ok pay B P) l ≤ 99 * (l.length : Int) := by
  induction l with
  | nil => simp [brings_nil]
  | cons i l ih =>
    have h1 := ih fun j hj => h j (by simp [hj])
    have hi := h i (by simp)
    have hx := List.getElem?_eq_getElem hi
    obtain ⟨k, b, _, h2, _, h3⟩ := mem_hire.1 (List.mem_of_getElem? hx)
    have h4 := hp b h2
    have h5 : payAt (hireQ ok pay B P) i = pay b := by rw [payAt_some hx, h3]
    rw [brings_cons, h5, List.length_cons]
    omega
end Go.Proofs.Ytmbcpmnigggbaaa
namespace Go.Proofs.Ytmbcpmnigggbaaa
open Go.RowKit
theorem run_app_where {w : World} {i : TypeInfo} (hi : Try.prog.info? 3 = some i) (hz : i.zero = some (.int .i64 0)) (hsize : i.size = 1) (hby : i.bytes = 8) (base ty : Nat) (v : Value) (n : Nat) (xs : List Value) (hown : w.ownsRow base 3 1 v n xs)
    (a : Addr) (c : Nat) (u : Value) (hu : w.cell? a = some u) (h1 : u.oneCell' = true) (h63 : n + 1 ≤ 1001) {v' : Value} {w' : World} (hr : (Builtin.append_ #[25, 25] ty #[v, .slice (some a) 1 c]).run Try.prog w = .ok v' w') :
    ∀ g, v'.ownBlock = some g → v.ownBlock = some g ∨ w.heap.size ≤ g := by
  have hnews : ∀ (j : Nat) x, ([u] : List Value)[j]? = some x → w.cell? (a.add j) = some x := fun j x hj => by
    match j, hj with
    | 0, hj => simp at hj; subst hj; simpa [Addr.add] using hu
  have hone : ∀ x ∈ ([u] : List Value), x.oneCell' = true := fun x hx => by simp at hx; subst hx; exact h1
  rcases hown.2 with ⟨rfl, rfl⟩ | ⟨g, cap, cur, rfl, hbg, hg, hnc, hcm, hcs, htake⟩
  · have hx : xs = [] := List.eq_nil_of_length_eq_zero (by simpa using hown.1)
    subst hx
    obtain ⟨v2, w2, hr2, h2, _, _⟩ := run_append_own (P := Try.prog) w w.heap.size 25 ty 3 i _ 1 8 Try.underlying25 hi hz hsize hby rfl (by decide) _ 0 [] (World.ownsRow_nil w w.heap.size 3 1) a 1 c [u] rfl hnews hone (by unfold maxLen; omega) (by omega) (Nat.le_refl _)
    rw [hr] at hr2
    cases hr2
    intro g hg
    rcases h2.2 with ⟨rfl, _⟩ | ⟨g', cap, cur, rfl, hb, _⟩
    · simp [Value.ownBlock] at hg
    · right
      simp only [Value.ownBlock, Option.some.injEq] at hg
      omega
  · by_cases hroom : n + 1 ≤ cap
    · have hr2 := run_append_room (P := Try.prog) w 25 ty 3 i Try.underlying25 hi g n cap cur hg a 1 c [u] (by rw [hsize]; rfl) hnews hone hroom (by rw [hsize, hcs]; simp; omega)
      rw [hr] at hr2
      cases hr2
      intro g' hg'
      exact .inl hg'
    · have holds : ∀ j u, xs[j]? = some u → w.cell? ((⟨g, 0, none⟩ : Addr).add j) = some u := hown.cells (g := g) rfl
      have hr2 := run_append_grow (P := Try.prog) w 25 ty 3 i _ Try.underlying25 hi hz ⟨g, 0, none⟩ n cap xs (by rw [hown.1, hsize]) holds a 1 c [u] (by rw [hsize]; rfl) hnews (by omega) (by omega) (growslice_fits (by omega) (by rw [hby]; omega))
      rw [hr] at hr2
      cases hr2
      intro g' hg'
      right
      simp only [Value.ownBlock, Option.some.injEq] at hg'
      omega
/-- 'out = append(out, x)', out the call's own; what grows, and where it lies then, is told. -/
theorem wpl_appD {ops : Array Oper} {rest : List Oper} {o : Oper} {a : Act} {w : World} {Q : Exit → Act → World → Prop} (hgd : o.guard = none) (s x : Operand)
    (ho : o.op = .call { callee := .builtin .append, args := #[s, x], argTypes := #[25, 25] }) (n₀ base : Nat) (v : Value) (l : List Int) (k : Int) (hs : a.eval s = v) (hown : Ints w base v l)
    (ad : Addr) (c : Nat) (hx : a.eval x = .slice (some ad) 1 c) (hc : w.cell? ad = some (.int .i64 k)) (hl : l.length ≤ 1000) (hbase : base ≤ w.heap.size) (hn : n₀ ≤ base)
    (h : ∀ v' w', Ints w' base v' (l ++ [k]) → Below n₀ w w' → w.grownBy w' v.ownBlock → (∀ g, v'.ownBlock = some g → v.ownBlock = some g ∨ w.heap.size ≤ g) → wpList Try.prog ops Q rest (a.put o.dst v') w') : wpList Try.prog ops Q (o :: rest) a w := by
  obtain ⟨i0, hi, hz0, hz1, hz2⟩ := info_parts info3'
  refine wpList_plain hgd fun K hK => ?_
  obtain ⟨v', w', hr, h2, h3, _⟩ := run_append_own (P := Try.prog) w base 25 o.type 3 i0 (.int .i64 0) 1 8 Try.underlying25 hi hz0 hz1 hz2 rfl (by decide) v l.length (l.map (.int .i64)) hown ad 1 c [.int .i64 k] rfl
    (fun j u hj => by
      match j, hj with
      | 0, hj => simp at hj; subst hj; simpa [Addr.add] using hc) (fun u hu => by simp at hu; subst hu; rfl) (by unfold maxLen; omega) (by omega) hbase
  have h5 := run_app_where hi hz0 hz1 hz2 base o.type v l.length _ hown ad c _ hc rfl (by omega) hr
  unfold Oper.wp execOp
  simp only [ho, resolve, invoke, builtin, Sem.run_bind, Sem.run_pure, Result.andThen_ok, List.map_toArray, List.map_cons, List.map_nil, hs, hx, hr]
  refine hK _ _ (h v' w' ?_ (own_below hown h3 (by omega) hn) h3 h5)
  unfold Ints
  rw [List.length_append, List.map_append]
  exact h2
theorem Ints.keepG {W W' : World} {base : Nat} {v u : Value} {l : List Int} (h : Ints W base v l) (hg : W.grownBy W' u.ownBlock) (hne : ∀ g, v.ownBlock = some g → u.ownBlock ≠ some g) : Ints W' base v l := by
  refine ⟨h.1, ?_⟩
  rcases h.2 with h2 | ⟨g, cap, cur, e, hb2, hgg, h4⟩
  · exact .inl h2
  · refine .inr ⟨g, cap, cur, e, hb2, (hg.block g (Array.getElem?_eq_some_iff.1 hgg).1 fun e2 => hne g (by rw [e]; rfl) e2.symm).trans hgg, h4⟩
theorem info97' : (Try.prog.info? 97).map (fun i => (i.zero, i.size, i.bytes)) = some (some (.agg #[.int .i64 0, .int .i64 0]), 2, 16) := by kernel_rfl
/-- 'out = append(out, pair)', out the call's own. -/
theorem wpl_appP {ops : Array Oper} {rest : List Oper} {o : Oper} {a : Act} {w : World} {Q : Exit → Act → World → Prop} (hgd : o.guard = none) (s x : Operand)
    (ho : o.op = .call { callee := .builtin .append, args := #[s, x], argTypes := #[24, 24] }) (n₀ : Nat) (v : Value) (l : List (Int × Int)) (y : Int × Int) (hs : a.eval s = v) (hown : OwnsP w 97 n₀ v l)
    (g c : Nat) (hx : a.eval x = .slice (some ⟨g, 0, none⟩) 1 c) (h0 : w.cell? ⟨g, 0, none⟩ = some (.int .i64 y.1)) (h1 : w.cell? ⟨g, 1, none⟩ = some (.int .i64 y.2)) (hl : l.length ≤ 1000) (hn : n₀ ≤ w.heap.size)
    (h : ∀ v' w', OwnsP w' 97 n₀ v' (l ++ [y]) → Below n₀ w w' → (∀ t, t ≠ 97 → KeepT t w w') → wpList Try.prog ops Q rest (a.put o.dst v') w') : wpList Try.prog ops Q (o :: rest) a w := by
  obtain ⟨i0, hi, hz0, hz1, hz2⟩ := info_parts info97'
  refine wpList_append_own w hgd s x 24 ho n₀ 97 i0 _ 2 16 Try.underlying24 hi hz0 hz1 hz2 rfl (by decide) v l.length _ hs hown ⟨g, 0, none⟩ 1 c [.int .i64 y.1, .int .i64 y.2] hx rfl ?_ ?_ ?_ ?_ hn ?_
  · intro j u hj
    match j, hj with
    | 0, hj => simp at hj; subst hj; exact h0
    | 1, hj => simp at hj; subst hj; exact h1
  · intro u hu
    simp at hu
    rcases hu with rfl | rfl <;> rfl
  · unfold maxLen; omega
  · omega
  · intro v' w' g2 g3 _
    refine h v' w' ?_ (own_below hown g3 hn (Nat.le_refl _)) fun t ht => KeepT.grown hown g3 (Ne.symm ht)
    unfold OwnsP
    rw [List.length_append, pairCells_app]
    exact g2
/-- A fair that is being laid: its box, and its three rows, which grow by turns. -/
structure EIn (w : World) (nb : Int) (Ap : Option Addr) (cp : Nat) (Ab : Option Addr) (cb : Nat) (Aq : Option Addr) (cq : Nat) (lp : List (Int × Int)) (lb lk : List Int) (W : World) : Prop where
  r : W.heap[w.heap.size]? = some (.cells #[.slice none 0 0, .int .i64 0, .slice none 0 0, .slice none 0 0, .slice none 0 0, .int .i64 0, .int .i64 0, .slice none 0 0] 62)
  x : W.heap[w.heap.size + 2]? = some (.cells #[.slice (some ⟨w.heap.size + 1, 0, none⟩) 1 1, .int .i64 0, .slice Ap lp.length cp, .slice Ab lb.length cb, .slice Aq lk.length cq, .int .i64 0, .int .i64 nb, .slice none 0 0] 62)
  ks : OwnsP W 95 w.heap.size (.slice (some ⟨w.heap.size + 1, 0, none⟩) 1 1) [(0, 0)]
  ps : OwnsP W 97 w.heap.size (.slice Ap lp.length cp) lp
  bs : Ints W w.heap.size (.slice Ab lb.length cb) lb
  pk : Ints W w.heap.size (.slice Aq lk.length cq) lk
  ne : ∀ g, (Value.slice Ab lb.length cb).ownBlock = some g → (Value.slice Aq lk.length cq).ownBlock ≠ some g
  B : Below w.heap.size w W
theorem ints_blk {W : World} {base : Nat} {v : Value} {l : List Int} (h : Ints W base v l) : ∀ g, v.ownBlock = some g → g < W.heap.size := fun g e => by
  rcases h.2 with ⟨rfl, _⟩ | ⟨g', cap, cur, rfl, _, hg, _⟩
  · simp [Value.ownBlock] at e
  · obtain rfl : g' = g := by simpa [Value.ownBlock] using e
    exact heap_lt hg
theorem EIn.alloc {w W : World} {nb : Int} {Ap : Option Addr} {cp : Nat} {Ab : Option Addr} {cb : Nat} {Aq : Option Addr} {cq : Nat} {lp : List (Int × Int)} {lb lk : List Int} (M : EIn w nb Ap cp Ab cb Aq cq lp lb lk W) (o : Obj) : EIn w nb Ap cp Ab cb Aq cq lp lb lk (W.alloc o) :=
  have k := fun t => KeepT.below (t := t) (al_below W o)
  ⟨heap_keep M.r, heap_keep M.x, M.ks.keepT (k _), M.ps.keepT (k _), M.bs.keepT (k _), M.pk.keepT (k _), M.ne, hb0to M.B (al_below W o)⟩
theorem EIn.drew {w W : World} {nb : Int} {Ap : Option Addr} {cp : Nat} {Ab : Option Addr} {cb : Nat} {Aq : Option Addr} {cq : Nat} {lp : List (Int × Int)} {lb lk : List Int} (M : EIn w nb Ap cp Ab cb Aq cq lp lb lk W) : EIn w nb Ap cp Ab cb Aq cq lp lb lk W.drew := ⟨M.r, M.x, M.ks, M.ps, M.bs, M.pk, M.ne, M.B.drew⟩
theorem EIn.new (w : World) (nb : Int) : EIn w nb none 0 none 0 none 0 [] [] [] (((w.alloc (.cells #[.slice none 0 0, .int .i64 0, .slice none 0 0, .slice none 0 0, .slice none 0 0, .int .i64 0, .int .i64 0, .slice none 0 0] 62)).alloc (.cells #[.int .i64 0, .int .i64 0] 95)).alloc (.cells #[.slice (some ⟨w.heap.size + 1, 0, none⟩) 1 1, .int .i64 0, .slice none 0 0, .slice none 0 0, .slice none 0 0, .int .i64 0, .int .i64 nb, .slice none 0 0] 62)) where
  r := heap_keep (heap_keep (heap_new1 _ _))
  x := by
    have := heap_new1 ((w.alloc (.cells #[.slice none 0 0, .int .i64 0, .slice none 0 0, .slice none 0 0, .slice none 0 0, .int .i64 0, .int .i64 0, .slice none 0 0] 62)).alloc (.cells #[.int .i64 0, .int .i64 0] 95)) (.cells #[.slice (some ⟨w.heap.size + 1, 0, none⟩) 1 1, .int .i64 0, .slice none 0 0, .slice none 0 0, .slice none 0 0, .int .i64 0, .int .i64 nb, .slice none 0 0] 62)
    simpa using this
  ks := by
    refine ⟨rfl, .inr ⟨w.heap.size + 1, 1, #[.int .i64 0, .int .i64 0], rfl, by omega, ?_, by simp, by unfold maxLen; omega, by simp, by simp [pairCells]⟩⟩
    have := heap_keep (o' := (.cells #[.slice (some ⟨w.heap.size + 1, 0, none⟩) 1 1, .int .i64 0, .slice none 0 0, .slice none 0 0, .slice none 0 0, .int .i64 0, .int .i64 nb, .slice none 0 0] 62)) (heap_new1 (w.alloc (.cells #[.slice none 0 0, .int .i64 0, .slice none 0 0, .slice none 0 0, .slice none 0 0, .int .i64 0, .int .i64 0, .slice none 0 0] 62)) (.cells #[.int .i64 0, .int .i64 0] 95))
    simpa using this
  ps := World.ownsRow_nil _ _ 97 2
  bs := ints_nil _ _
  pk := ints_nil _ _
  ne := fun g e => by simp [Value.ownBlock] at e
  B := hb0to (hb0to (al_below _ _) (al_below _ _)) (al_below _ _)
/-- One more barrel. -/
theorem EIn.addB {w W : World} {nb : Int} {Ap : Option Addr} {cp : Nat} {Ab : Option Addr} {cb : Nat} {Aq : Option Addr} {cq : Nat} {lp : List (Int × Int)} {lb lk : List Int} {w1 : World} {v' : Value} {y : Int} (M : EIn w nb Ap cp Ab cb Aq cq lp lb lk W) (h1 : Ints w1 w.heap.size v' (lb ++ [y])) (hb : Below w.heap.size W w1) (hg : W.grownBy w1 (Value.slice Ab lb.length cb).ownBlock) (hw : ∀ g, v'.ownBlock = some g → (Value.slice Ab lb.length cb).ownBlock = some g ∨ W.heap.size ≤ g) :
    w1.heap[w.heap.size + 2]? = some (.cells #[.slice (some ⟨w.heap.size + 1, 0, none⟩) 1 1, .int .i64 0, .slice Ap lp.length cp, .slice Ab lb.length cb, .slice Aq lk.length cq, .int .i64 0, .int .i64 nb, .slice none 0 0] 62) ∧ ∃ A' c', v' = .slice A' (lb.length + 1) c' ∧ EIn w nb Ap cp A' c' Aq cq lp (lb ++ [y]) lk (w1.setCell ⟨w.heap.size + 2, 3, none⟩ (.slice A' (lb.length + 1) c')) := by
  have hk : ∀ t, t ≠ 3 → KeepT t W w1 := fun t ht => KeepT.grown M.bs hg (Ne.symm ht)
  have hx := hk 62 (by decide) _ _ M.x
  have hs : ∀ t (u : Value), t ≠ 62 → KeepT t w1 (w1.setCell ⟨w.heap.size + 2, 3, none⟩ u) := fun t u ht => KeepT.set hx (Ne.symm ht)
  obtain ⟨A', c', rfl, -⟩ := h1.lay
  have e : (lb ++ [y]).length = lb.length + 1 := by simp
  rw [e] at h1 hw ⊢
  refine ⟨hx, A', c', rfl, ?_, ?_, ?_, ?_, ?_, ?_, ?_, ?_⟩
  · exact (set_other_heap (heap_lt (hk 62 (by decide) _ _ M.r)) (by omega)).trans (hk 62 (by decide) _ _ M.r)
  · rw [heap_set (o := 3) _ hx, e]
    rfl
  · exact (M.ks.keepT (hk _ (by decide))).keepT (hs _ _ (by decide))
  · exact (M.ps.keepT (hk _ (by decide))).keepT (hs _ _ (by decide))
  · rw [e]; exact h1.keepT (hs _ _ (by decide))
  · exact (M.pk.keepG hg (fun g eg eb => M.ne g eb eg)).keepT (hs _ _ (by decide))
  · intro g hg' hp
    rw [e] at hg'
    rcases hw g hg' with h | h
    · exact M.ne g h hp
    · have := ints_blk M.pk g hp
      omega
  · exact (M.B.trans hb).setCell (p := ⟨w.heap.size + 2, 3, none⟩) (by show w.heap.size ≤ w.heap.size + 2; omega) _
/-- One more barrel is in the packing. -/
theorem EIn.addK {w W : World} {nb : Int} {Ap : Option Addr} {cp : Nat} {Ab : Option Addr} {cb : Nat} {Aq : Option Addr} {cq : Nat} {lp : List (Int × Int)} {lb lk : List Int} {w1 : World} {v' : Value} {y : Int} (M : EIn w nb Ap cp Ab cb Aq cq lp lb lk W) (h1 : Ints w1 w.heap.size v' (lk ++ [y])) (hb : Below w.heap.size W w1) (hg : W.grownBy w1 (Value.slice Aq lk.length cq).ownBlock) (hw : ∀ g, v'.ownBlock = some g → (Value.slice Aq lk.length cq).ownBlock = some g ∨ W.heap.size ≤ g) :
    w1.heap[w.heap.size + 2]? = some (.cells #[.slice (some ⟨w.heap.size + 1, 0, none⟩) 1 1, .int .i64 0, .slice Ap lp.length cp, .slice Ab lb.length cb, .slice Aq lk.length cq, .int .i64 0, .int .i64 nb, .slice none 0 0] 62) ∧ ∃ A' c', v' = .slice A' (lk.length + 1) c' ∧ EIn w nb Ap cp Ab cb A' c' lp lb (lk ++ [y]) (w1.setCell ⟨w.heap.size + 2, 4, none⟩ (.slice A' (lk.length + 1) c')) := by
  have hk : ∀ t, t ≠ 3 → KeepT t W w1 := fun t ht => KeepT.grown M.pk hg (Ne.symm ht)
  have hx := hk 62 (by decide) _ _ M.x
  have hs : ∀ t (u : Value), t ≠ 62 → KeepT t w1 (w1.setCell ⟨w.heap.size + 2, 4, none⟩ u) := fun t u ht => KeepT.set hx (Ne.symm ht)
  obtain ⟨A', c', rfl, -⟩ := h1.lay
  have e : (lk ++ [y]).length = lk.length + 1 := by simp
  rw [e] at h1 hw ⊢
  refine ⟨hx, A', c', rfl, ?_, ?_, ?_, ?_, ?_, ?_, ?_, ?_⟩
  · exact (set_other_heap (heap_lt (hk 62 (by decide) _ _ M.r)) (by omega)).trans (hk 62 (by decide) _ _ M.r)
  · rw [heap_set (o := 4) _ hx, e]
    rfl
  · exact (M.ks.keepT (hk _ (by decide))).keepT (hs _ _ (by decide))
  · exact (M.ps.keepT (hk _ (by decide))).keepT (hs _ _ (by decide))
  · exact (M.bs.keepG hg (fun g eg eb => M.ne g eg eb)).keepT (hs _ _ (by decide))
  · rw [e]; exact h1.keepT (hs _ _ (by decide))
  · intro g hg' hp
    rw [e] at hp
    rcases hw g hp with h | h
    · exact M.ne g hg' h
    · have := ints_blk M.bs g hg'
      omega
  · exact (M.B.trans hb).setCell (p := ⟨w.heap.size + 2, 4, none⟩) (by show w.heap.size ≤ w.heap.size + 2; omega) _
/-- One more part. -/
theorem EIn.addP {w W : World} {nb : Int} {Ap : Option Addr} {cp : Nat} {Ab : Option Addr} {cb : Nat} {Aq : Option Addr} {cq : Nat} {lp : List (Int × Int)} {lb lk : List Int} {w1 : World} {v' : Value} {y : Int × Int} (M : EIn w nb Ap cp Ab cb Aq cq lp lb lk W) (h1 : OwnsP w1 97 w.heap.size v' (lp ++ [y])) (hb : Below w.heap.size W w1) (hk : ∀ t, t ≠ 97 → KeepT t W w1) :
    w1.heap[w.heap.size + 2]? = some (.cells #[.slice (some ⟨w.heap.size + 1, 0, none⟩) 1 1, .int .i64 0, .slice Ap lp.length cp, .slice Ab lb.length cb, .slice Aq lk.length cq, .int .i64 0, .int .i64 nb, .slice none 0 0] 62) ∧ ∃ A' c', v' = .slice A' (lp.length + 1) c' ∧ EIn w nb A' c' Ab cb Aq cq (lp ++ [y]) lb lk (w1.setCell ⟨w.heap.size + 2, 2, none⟩ (.slice A' (lp.length + 1) c')) := by
  have hx := hk 62 (by decide) _ _ M.x
  have hs : ∀ t (u : Value), t ≠ 62 → KeepT t w1 (w1.setCell ⟨w.heap.size + 2, 2, none⟩ u) := fun t u ht => KeepT.set hx (Ne.symm ht)
  obtain ⟨A', c', rfl, -⟩ := h1.lay
  have e : (lp ++ [y]).length = lp.length + 1 := by simp
  rw [e] at h1 ⊢
  refine ⟨hx, A', c', rfl, ?_, ?_, ?_, ?_, ?_, ?_, M.ne, ?_⟩
  · exact (set_other_heap (heap_lt (hk 62 (by decide) _ _ M.r)) (by omega)).trans (hk 62 (by decide) _ _ M.r)
  · rw [heap_set (o := 2) _ hx, e]
    rfl
  · exact (M.ks.keepT (hk _ (by decide))).keepT (hs _ _ (by decide))
  · rw [e]; exact h1.keepT (hs _ _ (by decide))
  · exact (M.bs.keepT (hk _ (by decide))).keepT (hs _ _ (by decide))
  · exact (M.pk.keepT (hk _ (by decide))).keepT (hs _ _ (by decide))
  · exact (M.B.trans hb).setCell (p := ⟨w.heap.size + 2, 2, none⟩) (by show w.heap.size ≤ w.heap.size + 2; omega) _

end Go.Proofs.Ytmbcpmnigggbaaa
