import Derived.Test.YtmbcpmnigggbaaaSaE2
import Derived.Outline
import Derived.Laws.CopyOwn
import Derived.Laws.OwnMore
import Derived.OwnWalk
import Derived.IntWalk
import Derived.Deep.LoopGhost
import Derived.Deep.QuietTactic
namespace Go.Proofs.Ytmbcpmnigggbaaa.Sa
open Go.RowKit

/-! Plain lists: the parts of a barrel, its cask, and all lists with a barrel for each part. -/
def layAt (h : House) (c : Cask) (i : Int) : Cask := layC c (kindOf h (partOf h i.toNat)) (partOf h i.toNat)
/-- The cask with some parts. -/
def caskIn (h : House) (l : List Int) : Cask := l.foldl (layAt h) c0
theorem caskIn_snoc (h : House) (l : List Int) (i : Int) : caskIn h (l ++ [i]) = layAt h (caskIn h l) i := by simp [caskIn]
/-- The parts among the first k that are in a barrel. -/
def inTo (pack : List Int) (b : Int) : Nat → List Int
  | 0 => []
  | k + 1 => if barrelOf pack k = b then inTo pack b k ++ [(k : Int)] else inTo pack b k
def inOf (pack : List Int) (b : Int) : List Int := inTo pack b pack.length
theorem inTo_len (pack : List Int) (b : Int) : ∀ k, (inTo pack b k).length ≤ k
  | 0 => Nat.le_refl _
  | k + 1 => by
    have := inTo_len pack b k
    unfold inTo
    split
    · simp; omega
    · omega
theorem mem_inTo {pack : List Int} {b : Int} : ∀ {k : Nat} {i : Int}, i ∈ inTo pack b k ↔ ∃ j : Nat, i = (j : Int) ∧ j < k ∧ barrelOf pack j = b
  | 0, i => by simp [inTo]
  | k + 1, i => by
    unfold inTo
    split
    · rename_i hb
      rw [List.mem_append, mem_inTo]
      constructor
      · rintro (⟨j, h1, h2, h3⟩ | h)
        · exact ⟨j, h1, by omega, h3⟩
        · exact ⟨k, by simpa using h, by omega, hb⟩
      · rintro ⟨j, h1, h2, h3⟩
        by_cases e : j = k
        · right; subst e; simpa using h1
        · exact .inl ⟨j, h1, by omega, h3⟩
    · rename_i hb
      rw [mem_inTo]
      constructor
      · rintro ⟨j, h1, h2, h3⟩; exact ⟨j, h1, by omega, h3⟩
      · rintro ⟨j, h1, h2, h3⟩
        by_cases e : j = k
        · subst e; exact (hb h3).elim
        · exact ⟨j, h1, by omega, h3⟩

theorem casksTo_at (h : House) (pack : List Int) (b : Nat) (hb : b < 5) : ∀ k, (∀ j, j < k → -1 ≤ barrelOf pack j ∧ barrelOf pack j ≤ 4) → (casksTo h pack k).getD b c0 = caskIn h (inTo pack b k)
  | 0, _ => by
    simp only [casksTo, inTo, caskIn, List.foldl_nil]
    match b, hb with
    | 0, _ => rfl
    | 1, _ => rfl
    | 2, _ => rfl
    | 3, _ => rfl
    | 4, _ => rfl
  | k + 1, hr => by
    have ih := casksTo_at h pack b hb k (fun j hj => hr j (by omega))
    obtain ⟨r1, r2⟩ := hr k (by omega)
    unfold casksTo inTo
    by_cases hm : barrelOf pack k = -1
    · rw [if_pos hm, if_neg (by omega), ih]
    · rw [if_neg hm]
      by_cases hbb : barrelOf pack k = (b : Int)
      · rw [if_pos hbb, hbb, caskIn_snoc, ← ih]
        simp only [Int.toNat_natCast, List.getD]
        rw [List.getElem?_set_self (by rw [casksTo_len]; omega)]
        simp [layAt]
      · rw [if_neg hbb, ← ih]
        simp only [List.getD]
        rw [List.getElem?_set_ne (by omega)]

/-- All parts are parts of the house. -/
def PartsOK (h : House) (l : List Int) : Prop := ∀ i ∈ l, 0 ≤ i ∧ i < h.ps.length
theorem layAt_upto {h : House} (hv : HOK h) {c : Cask} {k : Nat} (hc : c.upto k) {i : Int} (hi : 0 ≤ i ∧ i < h.ps.length) : (layAt h c i).upto (k + 1) := by
  obtain ⟨kk, -, -, -, ⟨p2, p3⟩, k0, k1, k2, k3⟩ := hv.part (k := i.toNat) (by omega)
  obtain ⟨n0, n1, p0, p1, s0, s1, d0, d1⟩ := hc
  exact ⟨by simp only [layAt, layC]; omega, by simp only [layAt, layC]; omega, by simp only [layAt, layC]; omega, by simp only [layAt, layC]; omega, by simp only [layAt, layC]; omega, by simp only [layAt, layC]; omega, by simp only [layAt, layC]; omega, by simp only [layAt, layC]; omega⟩
theorem snoc_ind {α : Type} {P : List α → Prop} (h0 : P []) (h1 : ∀ l x, P l → P (l ++ [x])) (l : List α) : P l := by
  suffices h : ∀ l : List α, P l.reverse by simpa using h l.reverse
  intro l
  induction l with
  | nil => simpa using h0
  | cons x l ih => rw [List.reverse_cons]; exact h1 _ _ ih
theorem caskIn_upto {h : House} (hv : HOK h) (l : List Int) : PartsOK h l → (caskIn h l).upto l.length := by
  refine snoc_ind (P := fun l => PartsOK h l → (caskIn h l).upto l.length) ?_ ?_ l
  · intro _; exact ⟨by simp [caskIn, c0], by simp [caskIn, c0], by simp [caskIn, c0], by simp [caskIn, c0], by simp [caskIn, c0], by simp [caskIn, c0], by simp [caskIn, c0], by simp [caskIn, c0]⟩
  · intro l x ih hp
    rw [caskIn_snoc, List.length_append]
    exact layAt_upto hv (ih fun i hi => hp i (by simp [hi])) (hp x (by simp))
theorem inTo_parts {h : House} {pack : List Int} {b : Int} {k : Nat} (hk : k ≤ h.ps.length) : PartsOK h (inTo pack b k) := fun i hi => by
  obtain ⟨j, rfl, hj, -⟩ := mem_inTo.1 hi
  omega

/-- Pounds and salt of a barrel. -/
def needC (h : House) (l : List Int) : Int := (caskIn h l).p + saltC h.fl (caskIn h l)
/-- No barrel is over, with a list that may be too short. -/
def fitsR (h : House) (pack : List Int) : Bool := (List.range h.bs.length).all fun b => decide (needC h (inOf pack b) ≤ h.bs.getD b 0)
theorem fitsR_true {h : House} {pack : List Int} : fitsR h pack = true ↔ ∀ b, b < h.bs.length → needC h (inOf pack b) ≤ h.bs.getD b 0 := by
  simp [fitsR]

/-- All lists of n numbers from lo up to nb - 1, the first one first. -/
def numsFrom (lo : Int) (nb : Nat) : List Int := (List.range ((nb : Int) - lo).toNat).map fun j : Nat => lo + (j : Int)
def allS (lo : Int) (nb : Nat) : Nat → List (List Int)
  | 0 => [[]]
  | n + 1 => (numsFrom lo nb).flatMap fun b => (allS lo nb n).map (b :: ·)
theorem mem_numsFrom {lo : Int} {nb : Nat} {x : Int} : x ∈ numsFrom lo nb ↔ lo ≤ x ∧ x < nb := by
  simp only [numsFrom, List.mem_map, List.mem_range]
  constructor
  · rintro ⟨j, hj, rfl⟩; omega
  · rintro ⟨h1, h2⟩; exact ⟨(x - lo).toNat, by omega, by omega⟩
theorem mem_allS {lo : Int} {nb : Nat} : ∀ {n : Nat} {l : List Int}, l ∈ allS lo nb n ↔ l.length = n ∧ ∀ x ∈ l, lo ≤ x ∧ x < nb
  | 0, l => by
    simp only [allS, List.mem_singleton]
    constructor
    · rintro rfl; simp
    · rintro ⟨h, -⟩; exact List.length_eq_zero_iff.1 h
  | n + 1, l => by
    simp only [allS, List.mem_flatMap, List.mem_map]
    constructor
    · rintro ⟨b, hb, t, ht, rfl⟩
      obtain ⟨h1, h2⟩ := mem_allS.1 ht
      refine ⟨by simp [h1], fun x hx => ?_⟩
      rcases List.mem_cons.1 hx with rfl | hx
      · exact mem_numsFrom.1 hb
      · exact h2 x hx
    · rintro ⟨h1, h2⟩
      match l, h1, h2 with
      | b :: t, h1, h2 => exact ⟨b, mem_numsFrom.2 (h2 b (by simp)), t, mem_allS.2 ⟨by simpa using h1, fun x hx => h2 x (by simp [hx])⟩, rfl⟩
open Go.RowKit

theorem cask_n (h : House) (l : List Int) : (caskIn h l).n = l.length :=
  snoc_ind (P := fun l => (caskIn h l).n = l.length) rfl (fun l x ih => by rw [caskIn_snoc, List.length_append]; simp only [layAt, layC, ih]; simp) l
/-- All lists that fit. -/
def fitting (h : House) (lo : Int) : List (List Int) := (allS lo h.bs.length h.ps.length).filter (fitsR h)
open Go.RowKit

/-! The lists in their order: which one follows. -/
theorem flatMap_len {α β : Type} {f : α → List β} {M : Nat} : ∀ (xs : List α), (∀ x ∈ xs, (f x).length = M) → (xs.flatMap f).length = xs.length * M
  | [], _ => by simp
  | x :: xs, h => by
    rw [List.flatMap_cons, List.length_append, h x (by simp), flatMap_len xs (fun y hy => h y (by simp [hy])), List.length_cons, Nat.succ_mul]; omega
theorem flatMap_at {α β : Type} {f : α → List β} {M : Nat} : ∀ (xs : List α) (q r : Nat), (∀ x ∈ xs, (f x).length = M) → r < M → (xs.flatMap f)[q * M + r]? = (xs[q]?).bind fun x => (f x)[r]?
  | [], q, r, _, _ => by simp
  | x :: xs, 0, r, h, hr => by
    rw [List.flatMap_cons, List.getElem?_append_left (by rw [h x (by simp)]; omega)]; simp
  | x :: xs, q + 1, r, h, hr => by
    have hx := h x (by simp)
    rw [List.flatMap_cons, List.getElem?_append_right (by rw [hx, Nat.succ_mul]; omega), hx, show (q + 1) * M + r - M = q * M + r by rw [Nat.succ_mul]; omega, flatMap_at xs q r (fun y hy => h y (by simp [hy])) hr]; simp
theorem numsFrom_len (lo : Int) (nb : Nat) : (numsFrom lo nb).length = ((nb : Int) - lo).toNat := by simp [numsFrom]
theorem numsFrom_at {lo : Int} {nb q : Nat} {x : Int} : (numsFrom lo nb)[q]? = some x ↔ lo + (q : Int) < nb ∧ x = lo + q := by
  simp only [numsFrom, List.getElem?_map]
  by_cases h : q < ((nb : Int) - lo).toNat
  · rw [List.getElem?_range h]
    simp only [Option.map_some, Option.some.injEq]
    constructor
    · intro e; exact ⟨by omega, e.symm⟩
    · intro e; exact e.2.symm
  · rw [List.getElem?_eq_none (by simpa using h)]
    simp only [Option.map_none]
    constructor
    · intro e; cases e
    · intro e; omega
theorem allS_len (lo : Int) (nb n : Nat) : ∀ b ∈ numsFrom lo nb, ((allS lo nb n).map (b :: ·)).length = (allS lo nb n).length := fun b _ => by simp
/-- Where a list stands. -/
theorem allS_cons {lo : Int} {nb n k : Nat} {b : Int} {t : List Int} (h : (allS lo nb (n + 1))[k]? = some (b :: t)) : ∃ q r : Nat, k = q * (allS lo nb n).length + r ∧ lo + (q : Int) < nb ∧ b = lo + q ∧ (allS lo nb n)[r]? = some t := by
  have hk : k < (allS lo nb (n + 1)).length := (List.getElem?_eq_some_iff.1 h).1
  have hM : 0 < (allS lo nb n).length := by
    rcases Nat.eq_zero_or_pos (allS lo nb n).length with e | e
    · rw [allS, flatMap_len _ (allS_len lo nb n), e] at hk; omega
    · exact e
  have hd : k = (k / (allS lo nb n).length) * (allS lo nb n).length + k % (allS lo nb n).length := by
    have := Nat.div_add_mod k (allS lo nb n).length
    rw [Nat.mul_comm] at this; exact this.symm
  have hr : k % (allS lo nb n).length < (allS lo nb n).length := Nat.mod_lt _ hM
  refine ⟨k / (allS lo nb n).length, k % (allS lo nb n).length, hd, ?_⟩
  rw [hd] at h
  rw [allS, flatMap_at _ _ _ (allS_len lo nb n) hr] at h
  obtain ⟨x, hx, h2⟩ := Option.bind_eq_some_iff.1 h
  obtain ⟨h3, rfl⟩ := numsFrom_at.1 hx
  rw [List.getElem?_map] at h2
  obtain ⟨t', ht, h4⟩ := Option.map_eq_some_iff.1 h2
  injection h4 with h5 h6
  subst h5 h6
  exact ⟨h3, rfl, ht⟩
theorem allS_at {lo : Int} {nb n q r : Nat} {t : List Int} (hq : lo + (q : Int) < nb) (h : (allS lo nb n)[r]? = some t) : (allS lo nb (n + 1))[q * (allS lo nb n).length + r]? = some ((lo + q) :: t) := by
  rw [allS, flatMap_at _ _ _ (allS_len lo nb n) (List.getElem?_eq_some_iff.1 h).1, numsFrom_at.2 ⟨hq, rfl⟩]
  simp [h]
theorem allS_size (lo : Int) (nb n : Nat) : (allS lo nb (n + 1)).length = ((nb : Int) - lo).toNat * (allS lo nb n).length := by
  rw [allS, flatMap_len _ (allS_len lo nb n), numsFrom_len]
theorem allS_none {lo : Int} {nb n : Nat} (h : (nb : Int) ≤ lo) (hn : 0 < n) : allS lo nb n = [] := by
  obtain ⟨m, rfl⟩ : ∃ m, n = m + 1 := ⟨n - 1, by omega⟩
  have := allS_size lo nb m
  rw [show ((nb : Int) - lo).toNat = 0 by omega, Nat.zero_mul] at this
  exact List.length_eq_zero_iff.1 this
theorem allS_first {lo : Int} {nb : Nat} : ∀ {n : Nat}, (0 < n → lo < nb) → (allS lo nb n)[0]? = some (List.replicate n lo)
  | 0, _ => rfl
  | n + 1, h => by
    have := allS_at (lo := lo) (nb := nb) (q := 0) (by have := h (by omega); omega) (allS_first (n := n) (fun _ => h (by omega)))
    simpa [List.replicate_succ] using this
/-- The last one has all greatest numbers. -/
theorem allS_last {lo : Int} {nb : Nat} : ∀ {n k : Nat} {p : List Int}, (allS lo nb n)[k]? = some p → (∀ x ∈ p, x = (nb : Int) - 1) → k + 1 = (allS lo nb n).length
  | 0, k, p, h, _ => by
    have := (List.getElem?_eq_some_iff.1 h).1
    simp [allS] at this ⊢; exact this
  | n + 1, k, p, h, hp => by
    match p, h, hp with
    | [], h, _ => have := (mem_allS.1 (List.mem_of_getElem? h)).1; simp at this
    | b :: t, h, hp =>
      obtain ⟨q, r, hk, hq, hb, ht⟩ := allS_cons h
      have h1 := allS_last ht (fun x hx => hp x (by simp [hx]))
      have h2 := hp b (by simp)
      rw [allS_size, show ((nb : Int) - lo).toNat = q + 1 by omega, Nat.succ_mul]
      omega
/-- The one behind a list: its last number that is not the greatest is one more, and the least ones follow. -/
theorem allS_next {lo : Int} {nb : Nat} : ∀ {n k : Nat} {p : List Int} (i : Nat) (x : Int), (allS lo nb n)[k]? = some p → p[i]? = some x → x ≠ (nb : Int) - 1 → (∀ j y, i < j → p[j]? = some y → y = (nb : Int) - 1) →
    (allS lo nb n)[k + 1]? = some (p.take i ++ (x + 1) :: List.replicate (n - 1 - i) lo)
  | 0, k, p, i, x, h, hx, _, _ => by
    have := (mem_allS.1 (List.mem_of_getElem? h)).1
    have h2 := (List.getElem?_eq_some_iff.1 hx).1
    omega
  | n + 1, k, p, i, x, h, hx, hne, hj => by
    match p, h, hx, hj with
    | [], h, _, _ => have := (mem_allS.1 (List.mem_of_getElem? h)).1; simp at this
    | b :: t, h, hx, hj =>
      obtain ⟨q, r, hk, hq, hb, ht⟩ := allS_cons h
      have hlo : lo < nb := by omega
      match i, hx, hj with
      | 0, hx, hj =>
        have hx : b = x := by simpa using hx
        have h1 := allS_last ht (fun y hy => by
          obtain ⟨j, hy⟩ := List.getElem?_of_mem hy
          exact hj (j + 1) y (by omega) (by simpa using hy))
        have h3 := allS_at (lo := lo) (nb := nb) (q := q + 1) (by omega) (allS_first (n := n) (fun _ => hlo))
        have e : k + 1 = (q + 1) * (allS lo nb n).length + 0 := by rw [Nat.succ_mul]; omega
        rw [e, h3]
        simp
        omega
      | i + 1, hx, hj =>
        have h1 := allS_next i x ht (by simpa using hx) hne (fun j y hij hy => hj (j + 1) y (by omega) (by simpa using hy))
        have h3 := allS_at (lo := lo) (nb := nb) (q := q) hq h1
        rw [show k + 1 = q * (allS lo nb n).length + (r + 1) by omega, h3, hb]
        simp
        omega
end Go.Proofs.Ytmbcpmnigggbaaa.Sa
namespace Go.Proofs.Ytmbcpmnigggbaaa.Sa
open Go.RowKit

def caskOf (l : List Cask) (b : Nat) : Cask := l.getD b c0
def roomOK (h : House) (l : List Cask) (b : Nat) : Bool := decide ((caskOf l b).p + saltC h.fl (caskOf l b) ≤ h.bs.getD b 0)
/-- No barrel is over. -/
def fitsC (h : House) (l : List Cask) : Bool := (List.range h.bs.length).all (roomOK h l)

theorem saltC_bd {c : Cask} {fl : Int} (hc : c.ok) (hf : 0 ≤ fl ∧ fl ≤ 9) : 0 ≤ saltC fl c ∧ saltC fl c ≤ 10000 := by
  obtain ⟨hn0, hn1, hp0, hp1, hs0, hs1, hd0, hd1⟩ := hc
  have hps : 0 ≤ c.p * c.s := Int.mul_nonneg hp0 hs0
  have hps2 : c.p * c.s ≤ 10000 * 9 := Int.mul_le_mul hp1 hs1 hs0 (by omega)
  unfold saltC
  split <;> omega

set_option maxRecDepth 100000 in
set_option maxHeartbeats 4000000 in
theorem fits_any (L : HL) (h : House) (hv : HOK h) (l : List Cask) (hl : l.length = 5) (hok : ∀ (j : Nat) (c : Cask), l[j]? = some c → c.ok) (w : World) (hH : HouseAt w w.heap.size L h) :
    Calls Try.prog 128 #[encCs l, L.enc h] w fun e w' => e = .returned (.bool (fitsC h l)) ∧ Below w.heap.size w w' := by
  have hbl := hv.bl
  have hf0 := hv.f0
  have hf1 := hv.f1
  have HH := Lib.hid hH
  have HV := Lib.hid hv
  have HO := Lib.hid hok
  clear hH hv hok
  obtain ⟨Ak, ck, Ap, cp, Ab, cb⟩ := L
  unfold encCs
  go_enter Try.func128, Try.ntmps128
  go_wp2
  go_loopw [10] (fun i wr => ∃ k : Nat, k ≤ h.bs.length ∧ i = .int .i64 k ∧ Below w.heap.size w wr ∧ HBox wr (w.heap.size + 1) ⟨Ak, ck, Ap, cp, Ab, cb⟩ h ∧ CasksAt wr w.heap.size l ∧ ∀ j, j < k → roomOK h l j = true) (fun i _ => h.bs.length - (intOf i).toNat)
  case atStart =>
    have hb2 : Below w.heap.size w ((w.alloc (.cells (flatC l).toArray 169)).alloc (.cells #[.slice Ak h.ks.length ck, .int .i64 h.fl, .slice Ap h.ps.length cp, .slice Ab h.bs.length cb] 27)) := ((Below.refl _ _).alloc (Nat.le_refl _) _).alloc (by simp) _
    have hB2 := HBox.new (w.alloc (.cells (flatC l).toArray 169)) ⟨Ak, ck, Ap, cp, Ab, cb⟩ h
    rw [World.size_alloc] at hB2
    exact ⟨0, Nat.zero_le _, rfl, hb2, hB2, (Below.heap_alloc _ _ _ (by simp)).trans (World.alloc_heap_new w _), fun j hj => by omega⟩
  case round =>
    obtain ⟨k, hk, rfl, hb, hB, hC, hall⟩ := hrel
    have HA := Lib.hid hall
    clear hall
    by_cases hlt : k < h.bs.length
    · obtain ⟨x, hx⟩ : ∃ x, h.bs[k]? = some x := ⟨_, List.getElem?_eq_getElem hlt⟩
      obtain ⟨b1, o1, rfl, b1lt, d1⟩ := IntsAt.at_ (HH.out.b.keep hb.size fun _ _ hlt => hb.cell (p := ⟨_, _, none⟩) hlt) hx
      have hkl : k < l.length := by omega
      obtain ⟨cc, hcc⟩ : ∃ cc, l[k]? = some cc := ⟨_, List.getElem?_eq_getElem hkl⟩
      have hcok := HO.out k cc hcc
      have hsb := saltC_bd hcok ⟨hf0, hf1⟩
      have hp0 := hcok.p0
      have hp1 := hcok.p1
      obtain ⟨f0, f1, f2, f3⟩ := hC.at_ hcc
      have e0 := extB_cell f0
      have e1 := extB_cell f1
      have e2 := extB_cell f2
      have e3 := extB_cell f3
      obtain ⟨_, g1, _, _⟩ := hB.cells
      have e4 := extB_cell g1
      have hro : roomOK h l k = decide (cc.p + saltC h.fl cc ≤ x) := by simp [roomOK, caskOf, List.getD, hcc, hx]
      have RO := Lib.hid hro
      have CK := Lib.hid hcok
      clear hro hcok hx hcc
      by_cases hov : x < cc.p + saltC h.fl cc
      · as_aux_lemma =>
        go_wp2
        refine wp_region_ext (by kernel_rfl) (by kernel_rfl) ?_
        repeat (go_big_quiet_step ((go_at_call 129; exact ext_call (saltC_any cc h.fl CK.out ⟨hf0, hf1⟩ _))))
        refine wpQuiet_nil ?_
        rintro _ ⟨x1, rfl⟩
        have hb1 := hb.trans ((extB_below wr x1).mono hb.size)
        go_wp2
        go_ret
        refine ⟨?_, hb1⟩
        have : fitsC h l = false := by
          rw [fitsC, List.all_eq_false]
          exact ⟨k, List.mem_range.2 hlt, by rw [RO.out]; simp; omega⟩
        rw [this]; rfl
      · as_aux_lemma =>
        go_wp2
        refine wp_region_ext (by kernel_rfl) (by kernel_rfl) ?_
        repeat (go_big_quiet_step ((go_at_call 129; exact ext_call (saltC_any cc h.fl CK.out ⟨hf0, hf1⟩ _))))
        refine wpQuiet_nil ?_
        rintro _ ⟨x1, rfl⟩
        have hb0 := extB_below wr x1
        have hb1 := hb.trans (hb0.mono hb.size)
        go_wp2
        go_roundw
        case rel =>
          refine ⟨k + 1, by omega, by go_num, hb1, hB.of (hb0.block _ hB.lt), (hb0.block _ (Array.getElem?_eq_some_iff.1 hC).1).trans hC, fun j hj => ?_⟩
          by_cases ej : j = k
          · subst ej; rw [RO.out]; simp; omega
          · exact HA.out j (by omega)
        case measure => simp [intOf]; omega
    · obtain rfl : k = h.bs.length := by omega
      go_wp2
      go_ret
      refine ⟨?_, hb⟩
      have : fitsC h l = true := by
        rw [fitsC, List.all_eq_true]
        exact fun j hj => HA.out j (List.mem_range.1 hj)
      rw [this]; rfl
open Go.RowKit

theorem at_caskOf {l : List Cask} {k : Nat} (h : k < l.length) : l[k]? = some (caskOf l k) := by simp [caskOf, List.getD, List.getElem?_eq_getElem h]
set_option maxRecDepth 100000 in
theorem index81 {l : List Cask} (hl : l.length = 5) {k : Nat} (hk : k < 5) (w : World) : (Instr.index 169 (encCs l) (.int .i64 k)).run Try.prog w = .ok (caskOf l k).enc w := by
  obtain ⟨a, b, c, d, e, rfl⟩ := list5 hl
  have : k = 0 ∨ k = 1 ∨ k = 2 ∨ k = 3 ∨ k = 4 := by omega
  rcases this with rfl | rfl | rfl | rfl | rfl <;> rfl

/-- 1 if there are parts. -/
def usedC (c : Cask) : Int := if c.n < 1 then c.n else 1
/-- The sum of f over the first k casks. -/
def sumC (f : Cask → Int) (l : List Cask) : Nat → Int
  | 0 => 0
  | k + 1 => sumC f l k + f (caskOf l k)
theorem sumC_bd {f : Cask → Int} {l : List Cask} {m : Int} (h : ∀ j, j < l.length → 0 ≤ f (caskOf l j) ∧ f (caskOf l j) ≤ m) : ∀ k, k ≤ l.length → 0 ≤ sumC f l k ∧ sumC f l k ≤ m * k
  | 0, _ => by simp [sumC]
  | k + 1, hk => by
    have := sumC_bd h k (by omega)
    have := h k (by omega)
    unfold sumC
    constructor
    · omega
    · rw [show ((k + 1 : Nat) : Int) = (k : Int) + 1 by omega, Int.mul_add]; omega

set_option maxRecDepth 100000 in
set_option maxHeartbeats 4000000 in
theorem saltAll_any (L : HL) (h : House) (hf : 0 ≤ h.fl ∧ h.fl ≤ 9) (l : List Cask) (hl : l.length = 5) (hok : ∀ (j : Nat) (c : Cask), l[j]? = some c → c.ok) (w : World) :
    Calls Try.prog 119 #[encCs l, L.enc h] w fun e w' => e = .returned (.int .i64 (sumC (saltC h.fl) l 5)) ∧ Below w.heap.size w w' := by
  have HB := Lib.hid (sumC_bd (f := saltC h.fl) (l := l) (m := 10000) fun j hj => saltC_bd (hok j _ (at_caskOf hj)) hf)
  have HO := Lib.hid hok
  obtain ⟨hf0, hf1⟩ := hf
  clear hok
  obtain ⟨Ak, ck, Ap, cp, Ab, cb⟩ := L
  obtain ⟨fc, hfc⟩ : ∃ fc, fc = flatC l := ⟨_, rfl⟩
  have HF := Lib.hid hfc
  have henc : encCs l = .agg fc.toArray := by rw [hfc]; rfl
  have hC0 : CasksAt (w.alloc (.cells fc.toArray 169)) w.heap.size l := by rw [hfc]; exact World.alloc_heap_new w _
  rw [henc]
  have HE := Lib.hid henc
  clear hfc henc
  have HC : ∀ o, CasksAt ((w.alloc (.cells fc.toArray 169)).alloc o) w.heap.size l := fun o => (Below.heap_alloc _ _ _ (by simp)).trans hC0
  go_enter Try.func119, Try.ntmps119
  go_wp2_with (refine wpl_load81 rfl (.tmp 2) rfl w.heap.size rfl l hl (HC _) ?_)
  go_loopw [5, 9] (fun s i wr => ∃ k : Nat, k ≤ 5 ∧ i = .int .i64 k ∧ s = .int .i64 (sumC (saltC h.fl) l k) ∧ Below w.heap.size w wr ∧ HBox wr (w.heap.size + 1) ⟨Ak, ck, Ap, cp, Ab, cb⟩ h) (fun _ i _ => 5 - (intOf i).toNat)
  case atStart =>
    have hB2 := HBox.new (w.alloc (.cells fc.toArray 169)) ⟨Ak, ck, Ap, cp, Ab, cb⟩ h
    rw [World.size_alloc] at hB2
    exact ⟨0, by omega, rfl, rfl, ((Below.refl _ _).alloc (Nat.le_refl _) _).alloc (by simp) _, hB2⟩
  case round =>
    obtain ⟨k, hk, rfl, rfl, hb, hB⟩ := hrel
    by_cases hlt : k < 5
    · have hix := index81 hl hlt
      have hbd := HB.out k (by omega)
      have hkl : k < l.length := by omega
      have hcok := HO.out k _ (at_caskOf hkl)
      have hsb := saltC_bd hcok ⟨hf0, hf1⟩
      obtain ⟨_, g1, _, _⟩ := hB.cells
      have hb1 : w.heap.size + 1 < wr.heap.size := hB.lt
      have hb2 : ¬ w.heap.size + 1 = wr.heap.size := by omega
      have hsz := hb.size
      go_wp2_with (go_at_call 129; refine (saltC_any (caskOf l k) h.fl hcok ⟨hf0, hf1⟩ _).mono ?_; rintro e W5 ⟨rfl, hb5⟩)
      go_roundw
      case rel =>
        have hb6 : Below wr.heap.size wr W5 := ((Below.refl _ wr).alloc (Nat.le_refl _) _).trans (hb5.mono (by rw [World.size_alloc]; omega))
        exact ⟨k + 1, by omega, by go_num, rfl, hb.trans (hb6.mono hsz), hB.of (hb6.block _ hb1)⟩
      case measure => simp [intOf]; omega
    · obtain rfl : k = 5 := by omega
      go_wp2
      go_ret
      exact ⟨rfl, hb⟩

set_option maxRecDepth 100000 in
set_option maxHeartbeats 4000000 in
theorem used_any (l : List Cask) (hl : l.length = 5) (hok : ∀ (j : Nat) (c : Cask), l[j]? = some c → c.ok) (w : World) :
    Calls Try.prog 124 #[encCs l] w fun e w' => e = .returned (.int .i64 (sumC usedC l 5)) ∧ Below w.heap.size w w' := by
  have HB := Lib.hid (sumC_bd (f := usedC) (l := l) (m := 1) fun j hj => by have := (hok j _ (at_caskOf hj)).n0; unfold usedC; split <;> omega)
  have HO := Lib.hid hok
  clear hok
  obtain ⟨fc, hfc⟩ : ∃ fc, fc = flatC l := ⟨_, rfl⟩
  have HF := Lib.hid hfc
  have henc : encCs l = .agg fc.toArray := by rw [hfc]; rfl
  have hC0 : CasksAt (w.alloc (.cells fc.toArray 169)) w.heap.size l := by rw [hfc]; exact World.alloc_heap_new w _
  rw [henc]
  have HE := Lib.hid henc
  clear hfc henc
  go_enter Try.func124, Try.ntmps124
  go_wp2_with (refine wpl_load81 rfl (.tmp 1) rfl w.heap.size rfl l hl hC0 ?_)
  go_loopw [3, 7] (fun s i wr => ∃ k : Nat, k ≤ 5 ∧ i = .int .i64 k ∧ s = .int .i64 (sumC usedC l k) ∧ Below w.heap.size w wr) (fun _ i _ => 5 - (intOf i).toNat)
  case atStart => exact ⟨0, by omega, rfl, rfl, (Below.refl _ _).alloc (Nat.le_refl _) _⟩
  case round =>
    obtain ⟨k, hk, rfl, rfl, hb⟩ := hrel
    by_cases hlt : k < 5
    · have hix := index81 hl hlt
      have hbd := HB.out k (by omega)
      have hkl : k < l.length := by omega
      have hn0 := (HO.out k _ (at_caskOf hkl)).n0
      have hsz := hb.size
      have hm0 : 0 ≤ (if (caskOf l k).n < 1 then (caskOf l k).n else 1) := by split <;> omega
      have hm1 : (if (caskOf l k).n < 1 then (caskOf l k).n else 1) ≤ 1 := by split <;> omega
      go_wp2
      go_roundw
      case rel => exact ⟨k + 1, by omega, by go_num, rfl, hb.alloc hsz _⟩
      case measure => simp [intOf]; omega
    · obtain rfl : k = 5 := by omega
      go_wp2
      go_ret
      exact ⟨rfl, hb⟩
end Go.Proofs.Ytmbcpmnigggbaaa.Sa
namespace Go.Proofs.Ytmbcpmnigggbaaa.Sa
open Go.RowKit

theorem upto6 {n : Nat} (h : n ≤ 6) : n = 0 ∨ n = 1 ∨ n = 2 ∨ n = 3 ∨ n = 4 ∨ n = 5 ∨ n = 6 := by omega
set_option maxRecDepth 100000 in
set_option maxHeartbeats 4000000 in
theorem mul64_any (n : Nat) (hn : n ≤ 6) (w : World) : Calls Try.prog 209 #[.int .u64 1, .int .u64 n] w fun e w' => e = .returned (.tuple #[.int .u64 0, .int .u64 n]) ∧ w = w' := by
  rcases upto6 hn with rfl | rfl | rfl | rfl | rfl | rfl | rfl
  all_goals
    clear hn
    go_enter Try.func209, Try.ntmps209
    go_wp2
    go_ret2
    exact ⟨rfl, rfl⟩
set_option maxRecDepth 100000 in
set_option maxHeartbeats 4000000 in
theorem mul_any (n : Nat) (hn : n ≤ 6) (w : World) : Calls Try.prog 196 #[.int .u64 1, .int .u64 n] w fun e w' => e = .returned (.tuple #[.int .u64 0, .int .u64 n]) ∧ w = w' := by
  go_enter Try.func196, Try.ntmps196
  go_wp2_with (go_at_call 209; refine (mul64_any n hn _).mono ?_; rintro e w' ⟨rfl, rfl⟩)
  go_ret2
  exact ⟨rfl, rfl⟩

theorem info3 : (Try.prog.info? 3).map (fun i => (i.zero, i.size, i.bytes)) = some (some (.int .i64 0), 1, 8) := by kernel_rfl
theorem size3 : (Try.prog.info? 3).map (·.size) = some 1 := by kernel_rfl
/-- 'make([]int, n)'. -/
theorem run_make24 (n : Nat) (hn : n ≤ 1000) (w : World) : (Instr.makeSlice 25 (.int .i64 n) (.int .i64 n)).run Try.prog w = .ok (.slice (some ⟨w.heap.size, 0, none⟩) n n) (w.alloc (.cells (List.replicate n (Value.int .i64 0)).toArray 3)) := by
  obtain ⟨i0, hi, hz0, hz1, hz2⟩ := info_parts info3
  have := run_make (P := Try.prog) w 25 3 i0 (.int .i64 0) Try.underlying25 hi hz0 .i64 .i64 n n (by omega) (Int.le_refl _) (by rw [hz2]; omega) (by omega)
  simp only [Int.toNat_natCast, hz1, Nat.mul_one] at this
  rw [this, ← toList_madeCells_one]
  rfl
theorem wpl_make24 {ops : Array Oper} {rest : List Oper} {o : Oper} {a : Act} {w : World} {Q : Exit → Act → World → Prop} (hgd : o.guard = none) (l : Operand) (ho : o.op = .makeSlice 25 l l) (n : Nat) (hl : a.eval l = .int .i64 n) (hn : n ≤ 1000)
    (h : wpList Try.prog ops Q rest (a.put o.dst (.slice (some ⟨w.heap.size, 0, none⟩) n n)) (w.alloc (.cells (List.replicate n (Value.int .i64 0)).toArray 3))) : wpList Try.prog ops Q (o :: rest) a w := by
  refine wpList_plain hgd fun K hK' => ?_
  have hrun := run_make24 n hn w
  unfold Oper.wp
  simp [execOp, ho, hl, hrun, Result.andThen]
  exact hK' _ _ h

/-- The row while slices.Repeat fills it. -/
def rowTo (f : Int) (m n : Nat) : List Value := List.replicate m (Value.int .i64 f) ++ List.replicate (n - m) (Value.int .i64 0)
theorem rowTo_len {f : Int} {m n : Nat} (h : m ≤ n) : (rowTo f m n).length = n := by simp [rowTo]; omega
theorem rowTo_splice {f : Int} {m n k : Nat} (_h : m + k ≤ n) : splice (rowTo f m n) m (List.replicate k (Value.int .i64 f)) = rowTo f (m + k) n := by
  unfold splice rowTo
  have e1 : (List.replicate m (Value.int .i64 f) ++ List.replicate (n - m) (Value.int .i64 0)).take m = List.replicate m (Value.int .i64 f) := by
    rw [List.take_append_of_le_length (by simp)]; simp
  have e2 : (List.replicate m (Value.int .i64 f) ++ List.replicate (n - m) (Value.int .i64 0)).drop (m + (List.replicate k (Value.int .i64 f)).length) = List.replicate (n - (m + k)) (Value.int .i64 0) := by
    rw [List.drop_append, List.drop_eq_nil_of_le (by simp)]; simp; omega
  rw [e1, e2, ← List.append_assoc, List.replicate_append_replicate]
set_option maxRecDepth 100000 in
set_option maxHeartbeats 4000000 in
theorem repeat_any (n : Nat) (hn : n ≤ 6) (b : Nat) (f : Int) (w : World) (hc : w.cell? ⟨b, 0, none⟩ = some (.int .i64 f)) :
    Calls Try.prog 174 #[.slice (some ⟨b, 0, none⟩) 1 1, .int .i64 n] w fun e w' => e = .returned (.slice (some ⟨w.heap.size, 0, none⟩) n n) ∧ Hid (w'.heap[w.heap.size]? = some (.cells (rowTo f n n).toArray 3 (0, 0))) ∧ Below w.heap.size w w' := by
  have hbl : b < w.heap.size := cell_lt hc
  have hbne : ¬ b = w.heap.size := by omega
  have hm := fun w => mul_any n hn w
  have HM := Lib.hid hm
  clear hm
  have hr0 : (w.alloc (.cells (List.replicate n (Value.int .i64 0)).toArray 3)).heap[w.heap.size]? = some (.cells (rowTo f 0 n).toArray 3 (0, 0)) := by
    have : rowTo f 0 n = List.replicate n (Value.int .i64 0) := by simp [rowTo]
    rw [this]; exact World.alloc_heap_new w _
  have HR := Lib.hid hr0
  clear hr0
  have hb0 : Below w.heap.size w (w.alloc (.cells (List.replicate n (Value.int .i64 0)).toArray 3)) := (Below.refl _ _).alloc (Nat.le_refl _) _
  have hc0 : (w.alloc (.cells (List.replicate n (Value.int .i64 0)).toArray 3)).cell? ⟨b, 0, none⟩ = some (.int .i64 f) := below_cell hb0 hc
  have hlt0 : (0 : Int) ≤ n := by omega
  have hz : ∀ (j : Nat) (v : Value), [Value.int .i64 f][j]? = some v → (w.alloc (.cells (List.replicate n (Value.int .i64 0)).toArray 3)).cell? ((⟨b, 0, none⟩ : Addr).add j) = some v := fun j v hj => by
    match j, hj with
    | 0, hj => simp at hj; subst hj; exact hc0
  have HZ := Lib.hid hz
  clear hz
  by_cases h0 : n = 0
  · have h1 : n ≤ 0 := by omega
    clear h0
    go_enter Try.func174, Try.ntmps174
    go_wp2_with (first
      | (go_at_call 196; refine (HM.out _).mono ?_; rintro e w' ⟨rfl, rfl⟩)
      | (refine wpl_make24 rfl (.tmp 29) rfl n rfl (by omega) ?_)
      | (refine wpList_copy_splice rfl (.tmp 31) (.tmp 32) 25 25 (by rfl) 3 Try.underlying25 size3 (some ⟨w.heap.size, 0, none⟩) (some ⟨b, 0, none⟩) n n 1 1 (by rfl) (by rfl) w.heap.size 0 (rowTo f 0 n) 3 HR.out [] (by show 0 = Nat.min 1 n; rw [show n = 0 by omega]; rfl) (fun h => absurd h (by simp)) (by simp) (by simp) w.heap.size w hb0 (Nat.le_refl _) ?_; intro W2 hg2 hb2))
    go_loopw [8] (fun i wr => i = .int .i64 0 ∧ Hid (wr.heap[w.heap.size]? = some (.cells (rowTo f n n).toArray 3 (0, 0))) ∧ Below w.heap.size w wr) (fun _ _ => 0)
    case atStart =>
      obtain rfl : n = 0 := by omega
      exact ⟨rfl, Lib.hid (by rw [hg2.out]; rfl), hb2⟩
    case round =>
      obtain ⟨rfl, hg3, hb3⟩ := hrel
      go_wp2
      go_ret
      exact ⟨rfl, hg3, hb3⟩
  · have h1 : 1 ≤ n := by omega
    clear h0
    go_enter Try.func174, Try.ntmps174
    go_wp2_with (first
      | (go_at_call 196; refine (HM.out _).mono ?_; rintro e w' ⟨rfl, rfl⟩)
      | (refine wpl_make24 rfl (.tmp 29) rfl n rfl (by omega) ?_)
      | (refine wpList_copy_splice rfl (.tmp 31) (.tmp 32) 25 25 (by rfl) 3 Try.underlying25 size3 (some ⟨w.heap.size, 0, none⟩) (some ⟨b, 0, none⟩) n n 1 1 (by rfl) (by rfl) w.heap.size 0 (rowTo f 0 n) 3 HR.out [.int .i64 f] (by simp [Nat.min_def]; omega) (fun _ => ⟨rfl, _, rfl, HZ.out⟩) (by rw [rowTo_len (by omega)]; exact h1) (by simp; rfl) w.heap.size w hb0 (Nat.le_refl _) ?_; intro W2 hg2 hb2))
    go_outline
    go_loopw [8] (fun i wr => ∃ m : Nat, 1 ≤ m ∧ m ≤ n ∧ i = .int .i64 m ∧ Hid (wr.heap[w.heap.size]? = some (.cells (rowTo f m n).toArray 3 (0, 0))) ∧ Below w.heap.size w wr) (fun i _ => n - (intOf i).toNat)
    case atStart => exact ⟨1, by omega, by omega, rfl, Lib.hid (by rw [hg2.out]; exact congrArg (fun l => some (Obj.cells (List.toArray l) 3 (0, 0))) (rowTo_splice (k := 1) (m := 0) (by omega))), hb2⟩
    case round =>
      obtain ⟨m, h2, hm, rfl, hg3, hb3⟩ := hrel
      obtain ⟨k, hkm⟩ : ∃ k, k = min m (n - m) := ⟨_, rfl⟩
      have hk1 : k ≤ m := by omega
      have hk2 : m + k ≤ n := by omega
      have HK := Lib.hid hkm
      have hwrap : IntKind.i64.wrap ((m : Int) + (k : Int)) = (m : Int) + k := IntWalk.i64_in _ (by omega)
      have hcell : ∀ (j : Nat) (v : Value), (List.replicate k (Value.int .i64 f))[j]? = some v → wr.cell? ((⟨w.heap.size, 0, none⟩ : Addr).add j) = some v := fun j v hj => by
        obtain ⟨hj1, hj2⟩ := List.getElem?_eq_some_iff.1 hj
        simp only [List.length_replicate] at hj1
        simp only [List.getElem_replicate] at hj2
        subst hj2
        rw [addr_add]
        have : (rowTo f m n)[j]? = some (Value.int .i64 f) := by
          unfold rowTo
          rw [List.getElem?_append_left (by rw [List.length_replicate]; omega), List.getElem?_replicate, if_pos (by omega)]
        simp [World.cell?, hg3.out, this]
      have HC := Lib.hid hcell
      clear hcell
      have hfr : ∀ o, wr.frozen? ⟨w.heap.size, o, none⟩ = false := fun o => by simp [World.frozen?, hg3.out]
      by_cases hlt : m < n
      · have hmn : (rowTo f m n).length = n := rowTo_len hm
        have HMN := Lib.hid hmn
        clear hmn
        have hnm : ¬ n = m := by omega
        have hk0 : 1 ≤ k := by omega
        clear hkm
        go_wp2
        go_region_law (refine step_copy_splice rfl (.tmp 41) (.tmp 44) 25 25 (by rfl) 3 Try.underlying25 size3 (some ⟨w.heap.size, m, none⟩) (some ⟨w.heap.size, 0, none⟩) (n - m) (n - m) m n (by simp [Act.eval, Act.put]) (by simp [Act.eval, Act.put]) w.heap.size m (rowTo f m n) 3 hg3.out (List.replicate k (Value.int .i64 f)) (by rw [List.length_replicate, HK.out]) (fun _ => ⟨rfl, _, rfl, HC.out⟩) (by rw [HMN.out, List.length_replicate]; omega) (by intro v hv; rw [List.eq_of_mem_replicate hv]; rfl) w.heap.size w hb3.drew (Nat.le_refl _) ?_; intro W4 hg4 hb4)
        all_goals
          simp only [Act.put, List.getElem_toArray, List.getElem_cons_succ, List.getElem_cons_zero, List.setIfInBounds_toArray, List.set_cons_succ, List.set_cons_zero]
          go_roundw
          case rel =>
            have hg6 : Hid (W4.heap[w.heap.size]? = some (.cells (rowTo f (m + k) n).toArray 3 (0, 0))) := Lib.hid (by rw [hg4.out, rowTo_splice (by omega)])
            (repeat apply Exists.intro)
            exact ⟨⟨m + k, by omega, by omega, by go_num, hg6, hb4⟩, rfl⟩
          case measure => simp [intOf]; omega
      · obtain rfl : m = n := by omega
        go_wp2
        go_ret
        exact ⟨rfl, hg3, hb3⟩
end Go.Proofs.Ytmbcpmnigggbaaa.Sa
namespace Go.Proofs.Ytmbcpmnigggbaaa.Sa
open Go.RowKit
attribute [local go_sem] Oper.semAt_some

abbrev stkV (L : HL) (h : House) (lo : Int) : Value := .agg #[.slice L.Ak h.ks.length L.ck, .int .i64 h.fl, .slice L.Ap h.ps.length L.cp, .slice L.Ab h.bs.length L.cb, .int .i64 lo]
def encP (p : List Int) : List Value := p.map (Value.int .i64)
/-- The numbers p, in a block of their own. -/
def PackAt (W : World) (pb : Nat) (p : List Int) : Prop := W.heap[pb]? = some (.cells (encP p).toArray 3 (0, 0))
theorem PackAt.cell {W : World} {pb : Nat} {p : List Int} (h : PackAt W pb p) {i : Nat} {x : Int} (hx : p[i]? = some x) : W.cell? ⟨pb, i, none⟩ = some (.int .i64 x) := by
  simp [World.cell?, show W.heap[pb]? = _ from h, encP, hx]
theorem PackAt.ints {W : World} {pb : Nat} {p : List Int} (h : PackAt W pb p) : IntsAt W W.heap.size (some ⟨pb, 0, none⟩) p :=
  .inr ⟨pb, 0, rfl, (Array.getElem?_eq_some_iff.1 h).1, fun i x hx => by rw [Nat.zero_add]; exact h.cell hx⟩
theorem PackAt.frozen {W : World} {pb : Nat} {p : List Int} (h : PackAt W pb p) (o : Nat) : W.frozen? ⟨pb, o, none⟩ = false := by simp [World.frozen?, show W.heap[pb]? = _ from h]
theorem PackAt.lt {W : World} {pb : Nat} {p : List Int} (h : PackAt W pb p) : pb < W.heap.size := (Array.getElem?_eq_some_iff.1 h).1
theorem PackAt.set {W : World} {pb : Nat} {p : List Int} (h : PackAt W pb p) (i : Nat) (x : Int) : PackAt (W.setCell ⟨pb, i, none⟩ (.int .i64 x)) pb (p.set i x) := by
  have := heap_set (o := i) (.int .i64 x) (show W.heap[pb]? = some (.cells (encP p).toArray 3 (0, 0)) from h)
  unfold PackAt
  rw [this]
  simp [encP, List.map_set]
/-- What the iterator hands over: a list, in memory of its own, and its casks. -/
def SeesP (h : House) (B : Nat) (x : List Int) (args : Array Value) (X : World) : Prop :=
  ∃ pb, B ≤ pb ∧ args = #[.slice (some ⟨pb, 0, none⟩) x.length x.length, encCs (packedC h x)] ∧ PackAt X pb x
theorem SeesP.kept {h : House} {B : Nat} {x : List Int} {args : Array Value} {X Y : World} (hs : SeesP h B x args X) (hk : KpB (fun k => k < B) X.heap.size X Y) : SeesP h B x args Y := by
  obtain ⟨pb, h1, h2, h3⟩ := hs
  exact ⟨pb, h1, h2, (hk.block pb h3.lt (by omega)).trans h3⟩

/-- The house lies in the blocks T: whatever keeps them keeps it. -/
def HouseOn (W : World) (T : Nat → Prop) (L : HL) (h : House) : Prop := ∀ W' : World, (∀ b o, T b → W'.cell? ⟨b, o, none⟩ = W.cell? ⟨b, o, none⟩) → W.heap.size ≤ W'.heap.size → HouseAt W' W'.heap.size L h
theorem HouseOn.keep {W W' : World} {T : Nat → Prop} {L : HL} {h : House} (H : HouseOn W T L h) (hk : ∀ b o, T b → W'.cell? ⟨b, o, none⟩ = W.cell? ⟨b, o, none⟩) (hz : W.heap.size ≤ W'.heap.size) : HouseOn W' T L h :=
  fun W2 h2 z2 => H W2 (fun b o hb => (h2 b o hb).trans (hk b o hb)) (Nat.le_trans hz z2)
theorem HouseOn.here {W : World} {T : Nat → Prop} {L : HL} {h : House} (H : HouseOn W T L h) : HouseAt W W.heap.size L h := H W (fun _ _ _ => rfl) (Nat.le_refl _)
theorem HouseAt.on {W : World} {B : Nat} {L : HL} {h : House} (H : HouseAt W B L h) (hB : B ≤ W.heap.size) : HouseOn W (· < B) L h := fun _ hk hz => H.keep (Nat.le_trans hB hz) hk
/-- The iterator's own memory: its stack's box, and the list. -/
structure AllSt (W : World) (s : Nat) (T : Nat → Prop) (L : HL) (h : House) (lo : Int) (pb : Nat) (p : List Int) : Prop where
  b : W.heap[s]? = some (.cells #[.slice L.Ak h.ks.length L.ck, .int .i64 h.fl, .slice L.Ap h.ps.length L.cp, .slice L.Ab h.bs.length L.cb, .int .i64 lo] 178 (0, 0))
  p : PackAt W pb p
  h : HouseOn W T L h
  B : ∀ k, T k → k < W.heap.size
theorem AllSt.cells {W : World} {s : Nat} {T : Nat → Prop} {L : HL} {h : House} {lo : Int} {pb : Nat} {p : List Int} (H : AllSt W s T L h lo pb p) : W.cell? ⟨s, 0, none⟩ = some (.slice L.Ak h.ks.length L.ck) ∧ W.cell? ⟨s, 1, none⟩ = some (.int .i64 h.fl) ∧ W.cell? ⟨s, 2, none⟩ = some (.slice L.Ap h.ps.length L.cp) ∧ W.cell? ⟨s, 3, none⟩ = some (.slice L.Ab h.bs.length L.cb) ∧ W.cell? ⟨s, 4, none⟩ = some (.int .i64 lo) := by
  simp [World.cell?, H.b]
theorem AllSt.kp {W W' : World} {s : Nat} {T : Nat → Prop} {L : HL} {h : House} {lo : Int} {pb : Nat} {p : List Int} (H : AllSt W s T L h lo pb p) {S : Nat → Prop} {n : Nat} (hk : KpB S n W W') (hB : ∀ k, T k → k < n) (hS : ∀ k, S k → ¬ T k ∧ k ≠ s ∧ k ≠ pb) (hs : s < n) (hp : pb < n) : AllSt W' s T L h lo pb p :=
  ⟨(hk.block s hs (fun h => (hS s h).2.1 rfl)).trans H.b, (hk.block pb hp (fun h => (hS pb h).2.2 rfl)).trans H.p, H.h.keep (fun b _o hb => hk.cell (hB b hb) (fun h => (hS b h).1 hb)) hk.size, fun k hk' => Nat.lt_of_lt_of_le (H.B k hk') hk.size⟩
theorem AllSt.below {W W' : World} {s : Nat} {T : Nat → Prop} {L : HL} {h : House} {lo : Int} {pb : Nat} {p : List Int} (H : AllSt W s T L h lo pb p) (hb : Below W.heap.size W W') : AllSt W' s T L h lo pb p :=
  H.kp (kpB_of_below hb (S := fun _ => False)) H.B (fun _ h => h.elim) (Array.getElem?_eq_some_iff.1 H.b).1 H.p.lt
theorem HouseAt.more {W : World} {B B' : Nat} {L : HL} {h : House} (hh : HouseAt W B L h) (hB : B ≤ B') : HouseAt W B' L h := hh.keep hB fun _ _ _ => rfl
theorem rowTo_pack (f : Int) (n : Nat) : rowTo f n n = encP (List.replicate n f) := by simp [rowTo, encP]

theorem AllSt.set {W : World} {s : Nat} {T : Nat → Prop} {L : HL} {h : House} {lo : Int} {pb : Nat} {p : List Int} (H : AllSt W s T L h lo pb p) (hs : s ≠ pb) (hpb : ¬ T pb) (i : Nat) (x : Int) : AllSt (W.setCell ⟨pb, i, none⟩ (.int .i64 x)) s T L h lo pb (p.set i x) := by
  have hk : KpB (fun k => k = pb) W.heap.size W (W.setCell ⟨pb, i, none⟩ (.int .i64 x)) := (KpB.refl _ _ _).set _ _ (.inl rfl)
  exact ⟨(hk.block s (Array.getElem?_eq_some_iff.1 H.b).1 hs).trans H.b, H.p.set i x, H.h.keep (fun b o hb => hk.cell (H.B b hb) (fun h => by have h' : b = pb := h; exact hpb (h' ▸ hb))) hk.size, fun k hk' => Nat.lt_of_lt_of_le (H.B k hk') hk.size⟩
theorem AllSt.drew {W : World} {s : Nat} {T : Nat → Prop} {L : HL} {h : House} {lo : Int} {pb : Nat} {p : List Int} (H : AllSt W s T L h lo pb p) : AllSt W.drew s T L h lo pb p := ⟨H.b, H.p, H.h.keep (fun _ _ _ => rfl) (Nat.le_refl _), H.B⟩
theorem KpB.drew {S : Nat → Prop} {n : Nat} {W W' : World} (h : KpB S n W W') : KpB S n W W'.drew := ⟨h.os, h.tape, h.output, h.size, h.block⟩
theorem take_set {p r : List Int} {m : Nat} (y : Int) (h : m < p.length) : (p.take (m + 1) ++ r).set m y = p.take m ++ y :: r := by
  rw [List.take_succ_eq_append_getElem h, List.append_assoc, List.set_append_right _ _ (by simp; omega)]
  have : m - (p.take m).length = 0 := by simp; omega
  rw [this]; rfl
theorem take_at {p r : List Int} {m : Nat} {x : Int} (h : p[m]? = some x) : (p.take (m + 1) ++ r)[m]? = some x := by
  have := (List.getElem?_eq_some_iff.1 h).1
  rw [List.getElem?_append_left (by simp; omega), List.getElem?_take_of_lt (by omega), h]
theorem packed_of (L : HL) (h : House) (hv : HOK h) (lo : Int) (hlo : -1 ≤ lo) (p : List Int) (hp : p.length = h.ps.length ∧ ∀ x ∈ p, lo ≤ x ∧ x < h.bs.length) (pb c : Nat) (w : World) (hH : HouseAt w w.heap.size L h) (hP : PackAt w pb p) :
    Calls Try.prog 175 #[L.enc h, .slice (some ⟨pb, 0, none⟩) h.ps.length c] w fun e w' => e = .returned (encCs (packedC h p)) ∧ Below w.heap.size w w' := by
  have := packed_any L h hv p hp.1 (fun k b hb => by have := hp.2 b (List.mem_of_getElem? hb); have := hv.bl; omega) (some ⟨pb, 0, none⟩) c w hH hP.ints
  rw [hp.1] at this
  exact this
theorem take_snoc_pre {α : Type} {l : List α} {k : Nat} {x : α} (h : l[k]? = some x) : l.take k ++ [x] <+: l := by
  obtain ⟨hk, e⟩ := List.getElem?_eq_some_iff.1 h
  subst e
  rw [← List.take_succ_eq_append_getElem hk]
  exact List.take_prefix _ _
theorem take_snoc_all {α : Type} {l : List α} {k : Nat} {x : α} (h : l[k]? = some x) (hk : k + 1 = l.length) : l.take k ++ [x] = l := by
  obtain ⟨hk2, e⟩ := List.getElem?_eq_some_iff.1 h
  subst e
  rw [← List.take_succ_eq_append_getElem hk2, hk, List.take_length]
theorem take_snoc_next {α : Type} {l : List α} {k : Nat} {x : α} (h : l[k]? = some x) : l.take k ++ [x] = l.take (k + 1) := by
  obtain ⟨hk2, e⟩ := List.getElem?_eq_some_iff.1 h
  subst e
  rw [← List.take_succ_eq_append_getElem hk2]
theorem KpB.drewN {S : Nat → Prop} {n m : Nat} {W W' : World} (h : KpB S n W W') : KpB S n W (W'.drewN m) := ⟨h.os, h.tape, h.output, h.size, h.block⟩
theorem AllSt.drewN {W : World} {s : Nat} {T : Nat → Prop} {L : HL} {h : House} {lo : Int} {pb : Nat} {p : List Int} (H : AllSt W s T L h lo pb p) (m : Nat) : AllSt (W.drewN m) s T L h lo pb p := ⟨H.b, H.p, H.h.keep (fun _ _ _ => rfl) (Nat.le_refl _), H.B⟩
theorem all_start {W W1 : World} {Ak Ap Ab : Option Addr} {ck cp cb n : Nat} {T : Nat → Prop} {h : House} {lo : Int} (hB : ∀ k, T k → k < W.heap.size) (hH : HouseOn W T ⟨Ak, ck, Ap, cp, Ab, cb⟩ h)
    (hp1 : Hid (W1.heap[((W.alloc (Obj.cells #[Value.slice Ak h.ks.length ck, Value.int IntKind.i64 h.fl, Value.slice Ap h.ps.length cp, Value.slice Ab h.bs.length cb, Value.int IntKind.i64 lo] 178)).alloc (Obj.cells #[Value.int IntKind.i64 lo] 3)).heap.size]? = some (Obj.cells (rowTo lo n n).toArray 3 (0, 0))))
    (hb1 : Below ((W.alloc (Obj.cells #[Value.slice Ak h.ks.length ck, Value.int IntKind.i64 h.fl, Value.slice Ap h.ps.length cp, Value.slice Ab h.bs.length cb, Value.int IntKind.i64 lo] 178)).alloc (Obj.cells #[Value.int IntKind.i64 lo] 3)).heap.size ((W.alloc (Obj.cells #[Value.slice Ak h.ks.length ck, Value.int IntKind.i64 h.fl, Value.slice Ap h.ps.length cp, Value.slice Ab h.bs.length cb, Value.int IntKind.i64 lo] 178)).alloc (Obj.cells #[Value.int IntKind.i64 lo] 3)) W1) :
    AllSt W1 W.heap.size T ⟨Ak, ck, Ap, cp, Ab, cb⟩ h lo (W.heap.size + 1 + 1) (List.replicate n lo) ∧ Below W.heap.size W W1 ∧ W.heap.size + 1 + 1 < W1.heap.size := by
  have hbW : Below W.heap.size W ((W.alloc (Obj.cells #[Value.slice Ak h.ks.length ck, Value.int IntKind.i64 h.fl, Value.slice Ap h.ps.length cp, Value.slice Ab h.bs.length cb, Value.int IntKind.i64 lo] 178)).alloc (Obj.cells #[Value.int IntKind.i64 lo] 3)) :=
    ((Below.refl _ W).alloc (Nat.le_refl _) _).alloc (by simp) _
  have hz : ((W.alloc (Obj.cells #[Value.slice Ak h.ks.length ck, Value.int IntKind.i64 h.fl, Value.slice Ap h.ps.length cp, Value.slice Ab h.bs.length cb, Value.int IntKind.i64 lo] 178)).alloc (Obj.cells #[Value.int IntKind.i64 lo] 3)).heap.size = W.heap.size + 1 + 1 := by simp
  have hall : Below W.heap.size W W1 := hbW.trans (hb1.mono (by rw [hz]; omega))
  have hp : W1.heap[W.heap.size + 1 + 1]? = some (Obj.cells (rowTo lo n n).toArray 3 (0, 0)) := by rw [← hz]; exact hp1.out
  have hlt := (Array.getElem?_eq_some_iff.1 hp).1
  refine ⟨⟨?_, ?_, hH.keep (fun b o hb => hall.cell (p := ⟨b, o, none⟩) (hB b hb)) hall.size, fun k hk => Nat.lt_of_lt_of_le (hB k hk) hall.size⟩, hall, hlt⟩
  · exact (hb1.block _ (by rw [hz]; omega)).trans ((Below.heap_alloc _ _ _ (by simp)).trans (World.alloc_heap_new W _))
  · unfold PackAt; rw [← rowTo_pack]; exact hp

set_option maxRecDepth 100000 in
set_option maxHeartbeats 4000000 in
theorem all_seesT (n : Nat) (hn1 : 1 ≤ n) (L : HL) (h : House) (hv : HOK h) (lo : Int) (hlo : -1 ≤ lo ∧ lo ≤ 0) (T : Nat → Prop) (w : World) (hT : ∀ k, T k → k < w.heap.size) (hH : HouseOn w T L h) (S : Nat → Prop) (hS : ∀ k, S k → ¬ T k ∧ k < w.heap.size) :
    SeqSees Fence.wide n Try.prog 127 #[stkV L h lo] #[] S (SeesP h) (allS lo h.bs.length h.ps.length) w := by
  intro l J Jx W hW hJ hJx hY h0
  have hpl := hv.pl
  have hbl := hv.bl
  have HV := Lib.hid hv
  have hBW : ∀ k, T k → k < W.heap.size := fun k hk => Nat.lt_of_lt_of_le (hT k hk) hW.size
  have HBW := Lib.hid hBW
  have HT := Lib.hid hT
  have HHW := Lib.hid ((hH.keep (fun b o hb => hW.cell (p := ⟨b, o, none⟩) (hT b hb)) hW.size : HouseOn W T L h))
  have HS := Lib.hid hS
  have HJ := Lib.hid hJ
  have HJx := Lib.hid hJx
  have HY := Lib.hid hY
  have H0 := Lib.hid h0
  have hWs := hW.size
  clear hv hH hS hJ hJx hY h0 hW hBW hT
  obtain ⟨Ak, ck, Ap, cp, Ab, cb⟩ := L
  obtain ⟨hlo0, hlo1⟩ := hlo
  have hp6 : h.ps.length ≤ 6 := hpl
  by_cases hps : 0 < h.ps.length
  · by_cases hbs : (h.bs.length : Int) ≤ lo
    · refine callsIn_of_wp Try.func127 rfl trivial ?_ rfl
      simp only [Try.ntmps127, List.size_toArray, List.length_cons, List.length_nil, Nat.reduceAdd, Nat.reduceSub, Array.replicate_succ, Array.replicate_zero, List.push_toArray, List.append_toArray, List.nil_append, List.cons_append]
      gi_wp2_with (refine ⟨trivial, ?_⟩; gi_at_call 174; refine (callsIn_wide.2 (repeat_any h.ps.length hp6 (W.heap.size + 1) lo _ (by simp [go_sem]))).mono ?_; rintro e W1 ⟨rfl, hp1, hb1⟩; obtain ⟨hst, hall, hlt1⟩ := all_start HBW.out HHW.out hp1 hb1; obtain ⟨g0, g1, g2, g3, g4⟩ := hst.cells; clear hp1 hb1)
      refine bodyPost_ret (results_none rfl _ _ _) rfl ?_
      exact ⟨⟨_, rfl⟩, W1.heap.size, hall.size, Nat.le_refl _, .inl (by rw [allS_none hbs hps]; exact H0.out _ _ hall.size (Nat.le_refl _) hall)⟩
    · refine callsIn_of_wp Try.func127 rfl trivial ?_ rfl
      simp only [Try.ntmps127, List.size_toArray, List.length_cons, List.length_nil, Nat.reduceAdd, Nat.reduceSub, Array.replicate_succ, Array.replicate_zero, List.push_toArray, List.append_toArray, List.nil_append, List.cons_append]
      gi_wp2_with (refine ⟨trivial, ?_⟩; gi_at_call 174; refine (callsIn_wide.2 (repeat_any h.ps.length hp6 (W.heap.size + 1) lo _ (by simp [go_sem]))).mono ?_; rintro e W1 ⟨rfl, hp1, hb1⟩; obtain ⟨hst, hall, hlt1⟩ := all_start HBW.out HHW.out hp1 hb1; obtain ⟨g0, g1, g2, g3, g4⟩ := hst.cells; clear hp1 hb1)
      obtain ⟨R, hR⟩ : ∃ R : Nat → World → Prop, R = fun k wr => ∃ p, (allS lo h.bs.length h.ps.length)[k]? = some p ∧ J W1.heap.size ((allS lo h.bs.length h.ps.length).take k) wr ∧ AllSt wr W.heap.size T ⟨Ak, ck, Ap, cp, Ab, cb⟩ h lo (W.heap.size + 1 + 1) p ∧ W1.heap.size ≤ wr.heap.size := ⟨_, rfl⟩
      have HR := Lib.hid hR
      clear hR g0 g1 g2 g3 g4
      gi_loopw [5] (fun i wr => ∃ k, R k wr) (fun i wr => leastOf fun m => ∃ k, (allS lo h.bs.length h.ps.length).length - k = m ∧ R k wr)
      case atStart => exact ⟨0, by rw [HR.out]; exact ⟨_, allS_first (fun _ => by omega), by rw [List.take_zero]; exact H0.out _ _ hall.size (Nat.le_refl _) hall, hst, Nat.le_refl _⟩⟩
      case round =>
        obtain ⟨k', hk'⟩ := hrel
        obtain ⟨⟨k, hkm, hRk⟩, -⟩ := leastOf_spec (p := fun m => ∃ k, (allS lo h.bs.length h.ps.length).length - k = m ∧ R k wr) ⟨_, k', rfl, hk'⟩
        clear hk'
        have HKM := Lib.hid hkm
        clear hkm
        rw [HR.out] at hRk
        obtain ⟨p, hpk, hJk, hsk, hDk⟩ := hRk
        have hpm := mem_allS.1 (List.mem_of_getElem? hpk)
        have HP := Lib.hid hpk
        have HPM := Lib.hid hpm
        have HJk := Lib.hid hJk
        clear hpk hpm hJk
        obtain ⟨g0, g1, g2, g3, g4⟩ := hsk.cells
        have hpack := fun c w' (a1 : HouseAt w' w'.heap.size ⟨Ak, ck, Ap, cp, Ab, cb⟩ h) (a2 : PackAt w' (W.heap.size + 1 + 1) p) => packed_of ⟨Ak, ck, Ap, cp, Ab, cb⟩ h HV.out lo hlo0 p HPM.out (W.heap.size + 1 + 1) c w' a1 a2
        have hD1 : W.heap.size ≤ W1.heap.size := by omega
        have hyk : ∀ W5, Below wr.heap.size wr W5 → YieldAt Fence.wide (n - 1) Try.prog l #[.slice (some ⟨W.heap.size + 1 + 1, 0, none⟩) h.ps.length h.ps.length, encCs (packedC h p)] W5 fun e X' =>
            KpB (fun k => S k ∨ Seg w.heap.size W.heap.size k) W1.heap.size W5 X' ∧
              ((e = .returned (.bool true) ∧ J W1.heap.size ((allS lo h.bs.length h.ps.length).take k ++ [p]) X') ∨ (e = .returned (.bool false) ∧ Jx W1.heap.size ((allS lo h.bs.length h.ps.length).take k ++ [p]) X')) := fun W5 hb5 =>
          HY.out W1.heap.size _ p _ W5 hD1 (by have := hb5.size; omega) (HJ.out _ _ _ _ hD1 hDk HJk.out (kpB_of_below hb5)) ⟨W.heap.size + 1 + 1, by omega, by rw [HPM.out.1], (hsk.below hb5).p⟩ (take_snoc_pre HP.out)
        have HPK := Lib.hid hpack
        have HYK := Lib.hid hyk
        clear hpack hyk
        gi_wp2_with (refine ⟨trivial, ?_⟩; gi_at_call 175; refine (callsIn_wide.2 (HPK.out _ _ hsk.h.here hsk.p)).mono ?_; rintro e W5 ⟨rfl, hb5⟩; obtain ⟨fn, tmps, assign, body, hy, hR⟩ := HYK.out W5 hb5)
        refine hR.mono ?_
        clear hR hy
        have hs5 := hsk.below hb5
        rintro e W6 ⟨hk6, (⟨rfl, hJ6⟩ | ⟨rfl, hJ6⟩)⟩
        · have hD6 : W1.heap.size ≤ W6.heap.size := by have := hk6.size; have := hb5.size; omega
          have hs6 : AllSt W6 W.heap.size T ⟨Ak, ck, Ap, cp, Ab, cb⟩ h lo (W.heap.size + 1 + 1) p := hs5.kp hk6 (fun k hk => Nat.lt_of_lt_of_le (HBW.out k hk) hD1) (fun k hk => by
            rcases hk with hk | hk
            · have := HS.out k hk; exact ⟨this.1, by omega, by omega⟩
            · have h1 := hk.1; have h2 := hk.2; exact ⟨fun hT => by have := HT.out k hT; omega, by omega, by omega⟩) (by omega) (by omega)
          have HJ6 := Lib.hid hJ6
          clear hJ6 hs5 hsk HJk hb5 g0 g1 g2 g3 g4 hk6 HYK hst hall HHW
          obtain ⟨g0, g1, g2, g3, g4⟩ := hs6.cells
          gi_wp2
          refine wpIn_wide.2 ?_
          clear g0 g1 g2 g3 g4
          obtain ⟨wo, rfl⟩ : ∃ wo : World, wo = wr := ⟨_, rfl⟩
          go_loopw [5] (fun i wr => ∃ j : Nat, j ≤ h.ps.length ∧ ((j = 0 ∧ i = .int .i64 (-1)) ∨ ∃ m : Nat, j = m + 1 ∧ i = .int .i64 m) ∧ AllSt wr W.heap.size T ⟨Ak, ck, Ap, cp, Ab, cb⟩ h lo (W.heap.size + 1 + 1) (p.take j ++ List.replicate (h.ps.length - j) lo) ∧
            Hid (∀ t y, j ≤ t → p[t]? = some y → y = (h.bs.length : Int) - 1) ∧ KpB (fun b => b = W.heap.size + 1 + 1) W6.heap.size W6 wr) (fun i _ => (intOf i + 1).toNat)
          case atStart =>
            refine ⟨h.ps.length, Nat.le_refl _, .inr ⟨h.ps.length - 1, by omega, by rw [show ((h.ps.length - 1 : Nat) : Int) = (h.ps.length : Int) - 1 by omega]⟩, ?_, Lib.hid (fun t y h1 h2 => by
              have := (List.getElem?_eq_some_iff.1 h2).1
              have := HPM.out.1
              omega), KpB.refl _ _ _⟩
            rw [← HPM.out.1, List.take_length, Nat.sub_self, List.replicate_zero, List.append_nil]
            exact hs6
          case round =>
            clear hs6
            obtain ⟨j, hjn, hji, hs6, HA, hk6⟩ := hrel
            have hD7 : W1.heap.size ≤ wr.heap.size := by have := hk6.size; omega
            obtain ⟨g0, g1, g2, g3, g4⟩ := hs6.cells
            rcases hji with ⟨rfl, rfl⟩ | ⟨m, rfl, rfl⟩
            · -- all numbers were the greatest
              have hall : ∀ x ∈ p, x = (h.bs.length : Int) - 1 := fun x hx => by
                obtain ⟨t, ht⟩ := List.getElem?_of_mem hx
                exact HA.out t x (Nat.zero_le _) ht
              have HALL := Lib.hid hall
              clear hall
              go_wp2
              go_quiet (fail)
              go_wp2
              gi_wp2
              refine bodyPost_ret (results_none rfl _ _ _) rfl ?_
              refine ⟨⟨_, rfl⟩, W1.heap.size, hD1, hD7, .inl ?_⟩
              rw [← take_snoc_all HP.out (allS_last HP.out HALL.out)]
              exact HJ.out _ _ _ _ hD1 hD6 HJ6.out (KpB.drewN (hk6.mono (Nat.le_refl _) fun b _ hb => ⟨by have hb' : b = W.heap.size + 1 + 1 := hb; omega, by have hb' : b = W.heap.size + 1 + 1 := hb; omega⟩))
            · obtain ⟨x, hx⟩ : ∃ x, p[m]? = some x := ⟨_, List.getElem?_eq_getElem (by have := HPM.out.1; omega)⟩
              have gx := hs6.p.cell (take_at hx)
              have gf := hs6.p.frozen
              have hml : m < p.length := (List.getElem?_eq_some_iff.1 hx).1
              have hxb := HPM.out.2 x (List.mem_of_getElem? hx)
              obtain ⟨hx0, hx1⟩ := hxb
              have HX := Lib.hid hx
              clear hx
              by_cases hxl : x = (h.bs.length : Int) - 1
              · have hxt : (x == (h.bs.length : Int) - 1) = true := by simpa using hxl
                have HXL := Lib.hid hxl
                clear hxl
                go_wp2
                go_quiet (fail)
                go_wp2
                go_roundw
                case rel =>
                  refine ⟨m, by omega, ?_, ?_, ?_, (KpB.drewN hk6).set _ _ (.inl rfl)⟩
                  · rcases Nat.eq_zero_or_pos m with rfl | hm0
                    · exact .inl ⟨rfl, rfl⟩
                    · exact .inr ⟨m - 1, by omega, by rw [show ((m - 1 : Nat) : Int) = (m : Int) - 1 by omega]⟩
                  · rw [show h.ps.length - m = (h.ps.length - (m + 1)) + 1 by omega, List.replicate_succ, ← take_set lo hml]
                    exact (AllSt.drewN hs6 _).set (by omega) (fun hT => by have := HBW.out _ hT; omega) m lo
                  · exact Lib.hid fun t y h1 h2 => by
                      by_cases e : t = m
                      · subst e; rw [HX.out] at h2; cases h2; exact HXL.out
                      · exact HA.out t y (by omega) h2
                case measure => simp [intOf]
              · have hxt : (x == (h.bs.length : Int) - 1) = false := by simpa using hxl
                have HXL := Lib.hid hxl
                clear hxl
                have hnx := allS_next m x HP.out HX.out HXL.out (fun j y h1 h2 => HA.out j y (by omega) h2)
                have HN := Lib.hid hnx
                clear hnx
                have hrn : ∀ nq, R (k + 1) ((wr.drewN nq).setCell ⟨W.heap.size + 1 + 1, m, none⟩ (.int .i64 (x + 1))) := fun nq => by
                  rw [HR.out]
                  refine ⟨_, HN.out, ?_, ?_, ?_⟩
                  · rw [← take_snoc_next HP.out]
                    exact HJ.out _ _ _ _ hD1 hD6 HJ6.out (((KpB.drewN hk6).set _ _ (.inl rfl)).mono (Nat.le_refl _) fun b _ hb => ⟨by have hb' : b = W.heap.size + 1 + 1 := hb; omega, by have hb' : b = W.heap.size + 1 + 1 := hb; omega⟩)
                  · rw [show h.ps.length - 1 - m = h.ps.length - (m + 1) by omega, ← take_set (x + 1) hml]
                    exact (AllSt.drewN hs6 _).set (by omega) (fun hT => by have := HBW.out _ hT; omega) m (x + 1)
                  · simp [World.setCell]; omega
                have HRN := Lib.hid hrn
                clear hrn
                go_wp2
                go_quiet (fail)
                go_wp2
                gi_wp2
                go_roundw
                case rel => exact ⟨k + 1, HRN.out _⟩
                case measure =>
                  have h1 := HKM.out
                  have hkl := (List.getElem?_eq_some_iff.1 HN.out).1
                  exact Nat.lt_of_le_of_lt ((leastOf_spec ⟨_, k + 1, rfl, HRN.out _⟩).2 _ ⟨k + 1, rfl, HRN.out _⟩) (by rw [← h1]; omega)
        · gi_wp2
          refine bodyPost_ret (results_none rfl _ _ _) rfl ?_
          exact ⟨⟨_, rfl⟩, W1.heap.size, hD1, by have := hk6.size; have := hb5.size; omega, .inr ⟨_, take_snoc_pre HP.out, hJ6⟩⟩
  · have hps0 : h.ps.length ≤ 0 := by omega
    have hpn : ([] : List Int).length = h.ps.length ∧ ∀ x ∈ ([] : List Int), lo ≤ x ∧ x < (h.bs.length : Int) := ⟨by simp; omega, by simp⟩
    have hall1 : allS lo h.bs.length h.ps.length = [[]] := by rw [show h.ps.length = 0 by omega]; rfl
    have HALL := Lib.hid hall1
    have HPM := Lib.hid hpn
    clear hall1 hpn hps
    refine callsIn_of_wp Try.func127 rfl trivial ?_ rfl
    simp only [Try.ntmps127, List.size_toArray, List.length_cons, List.length_nil, Nat.reduceAdd, Nat.reduceSub, Array.replicate_succ, Array.replicate_zero, List.push_toArray, List.append_toArray, List.nil_append, List.cons_append]
    gi_wp2_with (refine ⟨trivial, ?_⟩; gi_at_call 174; refine (callsIn_wide.2 (repeat_any h.ps.length hp6 (W.heap.size + 1) lo _ (by simp [go_sem]))).mono ?_; rintro e W1 ⟨rfl, hp1, hb1⟩; obtain ⟨hst, hall, hlt1⟩ := all_start HBW.out HHW.out hp1 hb1; obtain ⟨g0, g1, g2, g3, g4⟩ := hst.cells; clear hp1 hb1)
    have hst0 : AllSt W1 W.heap.size T ⟨Ak, ck, Ap, cp, Ab, cb⟩ h lo (W.heap.size + 1 + 1) [] := by
      have e : List.replicate h.ps.length lo = [] := by rw [show h.ps.length = 0 by omega]; rfl
      rw [e] at hst; exact hst
    clear hst
    clear g0 g1 g2 g3 g4
    gi_loopw [5] (fun i wr => J W1.heap.size [] wr ∧ AllSt wr W.heap.size T ⟨Ak, ck, Ap, cp, Ab, cb⟩ h lo (W.heap.size + 1 + 1) [] ∧ W1.heap.size ≤ wr.heap.size) (fun i wr => 0)
    case atStart => exact ⟨H0.out _ _ hall.size (Nat.le_refl _) hall, hst0, Nat.le_refl _⟩
    case round =>
      obtain ⟨hJk, hsk, hDk⟩ := hrel
      have HJk := Lib.hid hJk
      clear hJk
      obtain ⟨g0, g1, g2, g3, g4⟩ := hsk.cells
      have hpack := fun c w' (a1 : HouseAt w' w'.heap.size ⟨Ak, ck, Ap, cp, Ab, cb⟩ h) (a2 : PackAt w' (W.heap.size + 1 + 1) []) => packed_of ⟨Ak, ck, Ap, cp, Ab, cb⟩ h HV.out lo hlo0 [] HPM.out (W.heap.size + 1 + 1) c w' a1 a2
      have hD1 : W.heap.size ≤ W1.heap.size := by omega
      have hyk : ∀ W5, Below wr.heap.size wr W5 → YieldAt Fence.wide (n - 1) Try.prog l #[.slice (some ⟨W.heap.size + 1 + 1, 0, none⟩) h.ps.length h.ps.length, encCs (packedC h [])] W5 fun e X' =>
          KpB (fun k => S k ∨ Seg w.heap.size W.heap.size k) W1.heap.size W5 X' ∧
            ((e = .returned (.bool true) ∧ J W1.heap.size ([] ++ [[]]) X') ∨ (e = .returned (.bool false) ∧ Jx W1.heap.size ([] ++ [[]]) X')) := fun W5 hb5 =>
        HY.out W1.heap.size _ [] _ W5 hD1 (by have := hb5.size; omega) (HJ.out _ _ _ _ hD1 hDk HJk.out (kpB_of_below hb5)) ⟨W.heap.size + 1 + 1, by omega, by rw [HPM.out.1], (hsk.below hb5).p⟩ (by rw [HALL.out]; exact List.prefix_rfl)
      have HPK := Lib.hid hpack
      have HYK := Lib.hid hyk
      clear hpack hyk
      gi_wp2_with (refine ⟨trivial, ?_⟩; gi_at_call 175; refine (callsIn_wide.2 (HPK.out _ _ hsk.h.here hsk.p)).mono ?_; rintro e W5 ⟨rfl, hb5⟩; obtain ⟨fn, tmps, assign, body, hy, hR⟩ := HYK.out W5 hb5)
      refine hR.mono ?_
      clear hR hy
      have hs5 := hsk.below hb5
      rintro e W6 ⟨hk6, (⟨rfl, hJ6⟩ | ⟨rfl, hJ6⟩)⟩
      · have hD6 : W1.heap.size ≤ W6.heap.size := by have := hk6.size; have := hb5.size; omega
        have hs6 : AllSt W6 W.heap.size T ⟨Ak, ck, Ap, cp, Ab, cb⟩ h lo (W.heap.size + 1 + 1) [] := hs5.kp hk6 (fun k hk => Nat.lt_of_lt_of_le (HBW.out k hk) hD1) (fun k hk => by
          rcases hk with hk | hk
          · have := HS.out k hk; exact ⟨this.1, by omega, by omega⟩
          · have h1 := hk.1; have h2 := hk.2; exact ⟨fun hT => by have := HT.out k hT; omega, by omega, by omega⟩) (by omega) (by omega)
        have HJ6 := Lib.hid hJ6
        clear hJ6 hs5 hsk HJk hb5 g0 g1 g2 g3 g4 hk6 HYK hst0 hall HHW
        obtain ⟨g0, g1, g2, g3, g4⟩ := hs6.cells
        gi_wp2
        refine wpIn_wide.2 ?_
        clear g0 g1 g2 g3 g4
        obtain ⟨wo, rfl⟩ : ∃ wo : World, wo = wr := ⟨_, rfl⟩
        go_loopw [5] (fun i wr => i = .int .i64 (-1) ∧ AllSt wr W.heap.size T ⟨Ak, ck, Ap, cp, Ab, cb⟩ h lo (W.heap.size + 1 + 1) [] ∧ KpB (fun b => b = W.heap.size + 1 + 1) W6.heap.size W6 wr) (fun i _ => 0)
        case atStart => exact ⟨by rw [show (h.ps.length : Int) - 1 = -1 by omega], hs6, KpB.refl _ _ _⟩
        case round =>
          clear hs6
          obtain ⟨rfl, hs6, hk6⟩ := hrel
          have hD7 : W1.heap.size ≤ wr.heap.size := by have := hk6.size; omega
          obtain ⟨g0, g1, g2, g3, g4⟩ := hs6.cells
          go_wp2
          go_quiet (fail)
          go_wp2
          gi_wp2
          refine bodyPost_ret (results_none rfl _ _ _) rfl ?_
          refine ⟨⟨_, rfl⟩, W1.heap.size, hD1, hD7, .inl ?_⟩
          rw [HALL.out]
          exact HJ.out _ _ _ _ hD1 hD6 HJ6.out (KpB.drewN (hk6.mono (Nat.le_refl _) fun b _ hb => ⟨by have hb' : b = W.heap.size + 1 + 1 := hb; omega, by have hb' : b = W.heap.size + 1 + 1 := hb; omega⟩))
      · gi_wp2
        refine bodyPost_ret (results_none rfl _ _ _) rfl ?_
        exact ⟨⟨_, rfl⟩, W1.heap.size, hD1, by have := hk6.size; have := hb5.size; omega, .inr ⟨_, by rw [HALL.out]; exact List.prefix_rfl, hJ6⟩⟩
theorem all_sees (n : Nat) (hn1 : 1 ≤ n) (L : HL) (h : House) (hv : HOK h) (lo : Int) (hlo : -1 ≤ lo ∧ lo ≤ 0) (B : Nat) (w : World) (hB : B ≤ w.heap.size) (hH : HouseAt w B L h) (S : Nat → Prop) (hS : ∀ k, S k → B ≤ k ∧ k < w.heap.size) :
    SeqSees Fence.wide n Try.prog 127 #[stkV L h lo] #[] S (SeesP h) (allS lo h.bs.length h.ps.length) w :=
  all_seesT n hn1 L h hv lo hlo (· < B) w (fun _k hk => Nat.lt_of_lt_of_le hk hB) (hH.on hB) S (fun k hk => ⟨Nat.not_lt.2 (hS k hk).1, (hS k hk).2⟩)
end Go.Proofs.Ytmbcpmnigggbaaa.Sa
namespace Go.Proofs.Ytmbcpmnigggbaaa.Sa
open Go.RowKit

theorem check1_any (n : Int) (w : World) : Calls Try.prog 172 #[.int .i64 n] w fun e w' => e = .returned (.bool (!inR n 0 99)) ∧ w = w' := by
  go_enter Try.func172, Try.ntmps172
  go_wp2_with (go_at_call 171; refine (between_any _ _ _ _).mono ?_; rintro e w' ⟨rfl, rfl⟩)
  go_ret
  exact ⟨rfl, rfl⟩
/-- slices.IndexFunc's answer. -/
def firstB (p : Int → Bool) : List Int → Nat → Int
  | [], _ => -1
  | x :: l, k => if p x then (k : Int) else firstB p l (k + 1)
theorem firstB_any (p : Int → Bool) : ∀ (l : List Int) (k : Nat), decide (0 ≤ firstB p l k) = l.any p
  | [], k => by simp [firstB]
  | x :: l, k => by
    unfold firstB
    by_cases h : p x = true
    · rw [if_pos h]; simp [h]
    · rw [if_neg h, firstB_any p l (k + 1)]; simp [h]
theorem firstB_yes {p : Int → Bool} {l : List Int} {k : Nat} {x : Int} (hx : l[k]? = some x) (hp : p x = true) : firstB p (l.drop k) k = k := by
  obtain ⟨h, e⟩ := List.getElem?_eq_some_iff.1 hx
  rw [List.drop_eq_getElem_cons h, firstB, e, if_pos hp]
theorem firstB_no {p : Int → Bool} {l : List Int} {k : Nat} {x : Int} (hx : l[k]? = some x) (hp : p x = false) : firstB p (l.drop k) k = firstB p (l.drop (k + 1)) (k + 1) := by
  obtain ⟨h, e⟩ := List.getElem?_eq_some_iff.1 hx
  rw [List.drop_eq_getElem_cons h, firstB, e, if_neg (by simp [hp])]
theorem firstB_end {p : Int → Bool} {l : List Int} : firstB p (l.drop l.length) l.length = -1 := by simp [firstB]
set_option maxRecDepth 100000 in
set_option maxHeartbeats 4000000 in
theorem index78_any (A : Option Addr) (c : Nat) (l : List Int) (hl : l.length ≤ 1000) (w : World) (hI : IntsAt w w.heap.size A l) :
    Calls Try.prog 188 #[.slice A l.length c, .func (.func 172) #[] #[]] w fun e w' => e = .returned (.int .i64 (firstB (fun x => !inR x 0 99) l 0)) ∧ Below w.heap.size w w' := by
  have HI := Lib.hid hI
  clear hI
  go_enter Try.func188, Try.ntmps188
  go_wp2
  go_loopw [5, 8] (fun _ i wr => ∃ k : Nat, k ≤ l.length ∧ i = .int .i64 k ∧ Hid (firstB (fun x => !inR x 0 99) l 0 = firstB (fun x => !inR x 0 99) (l.drop k) k) ∧ Below w.heap.size w wr) (fun _ i _ => l.length - (intOf i).toNat)
  case atStart => exact ⟨0, Nat.zero_le _, rfl, Lib.hid (by rw [List.drop_zero]), Below.refl _ _⟩
  case round =>
    obtain ⟨k, hk, rfl, hF, hb⟩ := hrel
    by_cases hlt : k < l.length
    · obtain ⟨x, hx⟩ : ∃ x, l[k]? = some x := ⟨_, List.getElem?_eq_getElem hlt⟩
      obtain ⟨b1, o1, rfl, b1lt, d1⟩ := HI.out.at_ hx
      have d2 := below_cell hb d1
      have HX := Lib.hid hx
      clear hx d1
      have hsz := hb.size
      cases hp : (fun x => !inR x 0 99) x
      · have HPX := Lib.hid hp
        have hp' : inR x 0 99 = true := by simpa using hp
        clear hp
        go_wp2_with (go_at_call 172; refine (check1_any _ _).mono ?_; rintro e W5 ⟨rfl, rfl⟩)
        go_roundw
        case rel => exact ⟨k + 1, by omega, by go_num, Lib.hid (by rw [hF.out]; exact firstB_no HX.out HPX.out), hb⟩
        case measure => simp [intOf]; omega
      · have HPX := Lib.hid hp
        have hp' : inR x 0 99 = false := by simpa using hp
        clear hp
        go_wp2_with (go_at_call 172; refine (check1_any _ _).mono ?_; rintro e W5 ⟨rfl, rfl⟩)
        go_ret
        exact ⟨by rw [hF.out, firstB_yes HX.out HPX.out]; rfl, hb⟩
    · obtain rfl : k = l.length := by omega
      go_wp2
      go_ret
      exact ⟨by rw [hF.out, firstB_end]; rfl, hb⟩
theorem contains78_any (A : Option Addr) (c : Nat) (l : List Int) (hl : l.length ≤ 1000) (w : World) (hI : IntsAt w w.heap.size A l) :
    Calls Try.prog 160 #[.slice A l.length c, .func (.func 172) #[] #[]] w fun e w' => e = .returned (.bool (l.any (fun x => !inR x 0 99))) ∧ Below w.heap.size w w' := by
  rw [← firstB_any (fun x => !inR x 0 99) l 0]
  go_enter Try.func160, Try.ntmps160
  go_wp2_with (go_at_call 188; refine (index78_any A c l hl _ hI).mono ?_; rintro e w' ⟨rfl, hb⟩)
  go_ret
  exact ⟨rfl, hb⟩
open Go.RowKit

theorem allTo_bad {p : Int × Int → Bool} {l : List (Int × Int)} {k : Nat} {x : Int × Int} (hx : l[k]? = some x) (hp : p x = false) : l.all p = false := by
  rw [List.all_eq_false]
  exact ⟨x, List.mem_of_getElem? hx, by simp [hp]⟩
theorem allTo_good {p : Int × Int → Bool} {l : List (Int × Int)} (h : ∀ j x, j < l.length → l[j]? = some x → p x = true) : l.all p = true := by
  rw [List.all_eq_true]
  intro x hx
  obtain ⟨j, hj⟩ := List.getElem?_of_mem hx
  exact h j x (List.getElem?_eq_some_iff.1 hj).1 hj
theorem allTo_step {p : Int × Int → Bool} {l : List (Int × Int)} {k : Nat} {x : Int × Int} (h : ∀ j x, j < k → l[j]? = some x → p x = true) (hx : l[k]? = some x) (hk : p x = true) : ∀ j x, j < k + 1 → l[j]? = some x → p x = true := by
  intro j y hj hy
  by_cases e : j = k
  · subst e; rw [hx] at hy; cases hy; exact hk
  · exact h j y (by omega) hy
theorem ckH_yes {h : House} (hv : validH h = true) : ckH h = 0 := by simp [ckH, hv]
theorem ckH_no {h : House} (hv : validH h = false) : ckH h = 80 := by simp [ckH, hv]
theorem validH_parts {h : House} (h0 : bigOK h = true) (h1 : h.ks.all kindOK = true) (h2 : h.ps.all (partOK h.ks.length) = true) : validH h = h.bs.all fun b => inR b 0 99 := by
  simp [validH, h0, h1, h2]
theorem any_not_all (l : List Int) (p : Int → Bool) : l.any (fun x => !p x) = !l.all p := by
  rw [Bool.eq_iff_iff]; simp

set_option maxRecDepth 100000 in
set_option maxHeartbeats 4000000 in
theorem check_no (L : HL) (h : House) (hn : h.ks.length ≤ 1000 ∧ h.ps.length ≤ 1000 ∧ h.bs.length ≤ 1000) (hv : bigOK h = false) (w : World) :
    Calls Try.prog 125 #[L.enc h] w fun e w' => e = .returned (.int .i64 (ckH h)) ∧ Below w.heap.size w w' := by
  obtain ⟨n1, n2, n3⟩ := hn
  have hv2 : ckH h = 80 := ckH_no (by simp [validH, hv])
  rw [hv2]
  clear hv2
  have hbw : Below w.heap.size w (w.alloc (.cells #[.slice L.Ak h.ks.length L.ck, .int .i64 h.fl, .slice L.Ap h.ps.length L.cp, .slice L.Ab h.bs.length L.cb] 27)) := (Below.refl _ _).alloc (Nat.le_refl _) _
  obtain ⟨Ak, ck, Ap, cp, Ab, cb⟩ := L
  by_cases k1 : h.ks.length ≤ 3
  · cases f1 : inR h.fl 0 9
    · clear hv
      go_enter Try.func125, Try.ntmps125
      go_wp2_with (go_at_call 171; refine (between_any _ _ _ _).mono ?_; rintro e w' ⟨rfl, rfl⟩)
      go_ret
      exact ⟨rfl, hbw⟩
    · by_cases p1 : h.ps.length ≤ 6
      · have b1 : 4 < h.bs.length := by
          have : ¬ h.bs.length ≤ 4 := fun hb => by simp [bigOK, k1, f1, p1, hb] at hv
          omega
        clear hv
        go_enter Try.func125, Try.ntmps125
        go_wp2_with (go_at_call 171; refine (between_any _ _ _ _).mono ?_; rintro e w' ⟨rfl, rfl⟩)
        go_ret
        exact ⟨rfl, hbw⟩
      · have p2 : 6 < h.ps.length := by omega
        clear hv p1
        go_enter Try.func125, Try.ntmps125
        go_wp2_with (go_at_call 171; refine (between_any _ _ _ _).mono ?_; rintro e w' ⟨rfl, rfl⟩)
        go_ret
        exact ⟨rfl, hbw⟩
  · have k2 : 3 < h.ks.length := by omega
    clear hv k1
    go_enter Try.func125, Try.ntmps125
    go_wp2_with (go_at_call 171; refine (between_any _ _ _ _).mono ?_; rintro e w' ⟨rfl, rfl⟩)
    go_ret
    exact ⟨rfl, hbw⟩

set_option maxRecDepth 100000 in
set_option maxHeartbeats 4000000 in
theorem check_yes (L : HL) (h : House) (hv : bigOK h = true) (w : World) (hH : HouseAt w w.heap.size L h) :
    Calls Try.prog 125 #[L.enc h] w fun e w' => e = .returned (.int .i64 (ckH h)) ∧ Below w.heap.size w w' := by
  have hv' := hv
  simp only [bigOK, Bool.and_eq_true, decide_eq_true_eq] at hv'
  obtain ⟨k1, f1, p1, b1⟩ := hv'
  have HV := Lib.hid hv
  have HH := Lib.hid hH
  clear hv hH
  obtain ⟨Ak, ck, Ap, cp, Ab, cb⟩ := L
  go_enter Try.func125, Try.ntmps125
  go_wp2_with (go_at_call 171; refine (between_any _ _ _ _).mono ?_; rintro e w' ⟨rfl, rfl⟩)
  clear f1
  go_loopw [32] (fun i wr => ∃ k : Nat, k ≤ h.ks.length ∧ i = .int .i64 k ∧ Hid (∀ j x, j < k → h.ks[j]? = some x → kindOK x = true) ∧ Below w.heap.size w wr ∧ HBox wr w.heap.size ⟨Ak, ck, Ap, cp, Ab, cb⟩ h) (fun i _ => h.ks.length - (intOf i).toNat)
  case atStart => exact ⟨0, Nat.zero_le _, rfl, Lib.hid (fun j x hj => by omega), (Below.refl _ _).alloc (Nat.le_refl _) _, HBox.new w ⟨Ak, ck, Ap, cp, Ab, cb⟩ h⟩
  case round =>
    obtain ⟨k, hk, rfl, hok, hb, hB⟩ := hrel
    have hsz := hb.size
    by_cases hlt : k < h.ks.length
    · obtain ⟨x, hx⟩ : ∃ x, h.ks[k]? = some x := ⟨_, List.getElem?_eq_getElem hlt⟩
      obtain ⟨bk, ok, rfl, hbk, d1, d2⟩ := HH.out.k.at_ hx
      have e1 := below_cell hb d1
      have e2 := below_cell hb d2
      have HX := Lib.hid hx
      clear hx d1 d2
      cases h1 : inR x.1 0 9
      · have hno : Hid (kindOK x = false) := Lib.hid (by rw [kindOK, h1]; rfl)
        go_wp2_with (go_at_call 171; refine (between_any _ _ _ _).mono ?_; rintro e w' ⟨rfl, rfl⟩)
        go_ret
        exact ⟨by rw [ckH_no (by simp [validH, allTo_bad HX.out hno.out])]; rfl, hb.alloc hsz _⟩
      · cases h2 : inR x.2 0 20
        · have hno : Hid (kindOK x = false) := Lib.hid (by rw [kindOK, h1, h2]; rfl)
          go_wp2_with (go_at_call 171; refine (between_any _ _ _ _).mono ?_; rintro e w' ⟨rfl, rfl⟩)
          go_ret
          exact ⟨by rw [ckH_no (by simp [validH, allTo_bad HX.out hno.out])]; rfl, hb.alloc hsz _⟩
        · have hyes : Hid (kindOK x = true) := Lib.hid (by rw [kindOK, h1, h2]; rfl)
          go_wp2_with (go_at_call 171; refine (between_any _ _ _ _).mono ?_; rintro e w' ⟨rfl, rfl⟩)
          go_roundw
          case rel => exact ⟨k + 1, by omega, by go_num, Lib.hid (allTo_step hok.out HX.out hyes.out), hb.alloc hsz _, hB.of (Below.heap_alloc _ _ _ hB.lt)⟩
          case measure => simp [intOf]; omega
    · obtain rfl : k = h.ks.length := by omega
      have hkall : Hid (h.ks.all kindOK = true) := Lib.hid (allTo_good hok.out)
      clear hok hlt hk
      obtain ⟨g0, g1, g2, g3⟩ := hB.cells
      go_wp2
      clear g0 g1 g2 g3
      obtain ⟨wo, rfl⟩ : ∃ wo : World, wo = wr := ⟨_, rfl⟩
      go_loopw [50] (fun i wr => ∃ k : Nat, k ≤ h.ps.length ∧ i = .int .i64 k ∧ Hid (∀ j x, j < k → h.ps[j]? = some x → partOK h.ks.length x = true) ∧ Below w.heap.size w wr ∧ HBox wr w.heap.size ⟨Ak, ck, Ap, cp, Ab, cb⟩ h) (fun i _ => h.ps.length - (intOf i).toNat)
      case atStart => exact ⟨0, Nat.zero_le _, rfl, Lib.hid (fun j x hj => by omega), hb, hB⟩
      case round =>
        clear hb hB hsz
        obtain ⟨k, hk, rfl, hok, hb, hB⟩ := hrel
        have hsz := hb.size
        obtain ⟨g0, g1, g2, g3⟩ := hB.cells
        have hlt0 : w.heap.size < wr.heap.size := hB.lt
        have hne0 : ¬ w.heap.size = wr.heap.size := by omega
        by_cases hlt : k < h.ps.length
        · obtain ⟨x, hx⟩ : ∃ x, h.ps[k]? = some x := ⟨_, List.getElem?_eq_getElem hlt⟩
          obtain ⟨bk, ok, rfl, hbk, d1, d2⟩ := HH.out.p.at_ hx
          have e1 := below_cell hb d1
          have e2 := below_cell hb d2
          have HX := Lib.hid hx
          clear hx d1 d2
          cases h1 : inR x.1 0 (h.ks.length - 1)
          · have hno : Hid (partOK h.ks.length x = false) := Lib.hid (by rw [partOK, h1]; rfl)
            go_wp2_with (go_at_call 171; refine (between_any _ _ _ _).mono ?_; rintro e w' ⟨rfl, rfl⟩)
            go_ret
            exact ⟨by rw [ckH_no (by simp [validH, allTo_bad HX.out hno.out])]; rfl, hb.alloc hsz _⟩
          · cases h2 : inR x.2 0 40
            · have hno : Hid (partOK h.ks.length x = false) := Lib.hid (by rw [partOK, h1, h2]; rfl)
              go_wp2_with (go_at_call 171; refine (between_any _ _ _ _).mono ?_; rintro e w' ⟨rfl, rfl⟩)
              go_ret
              exact ⟨by rw [ckH_no (by simp [validH, allTo_bad HX.out hno.out])]; rfl, hb.alloc hsz _⟩
            · have hyes : Hid (partOK h.ks.length x = true) := Lib.hid (by rw [partOK, h1, h2]; rfl)
              go_wp2_with (go_at_call 171; refine (between_any _ _ _ _).mono ?_; rintro e w' ⟨rfl, rfl⟩)
              go_roundw
              case rel => exact ⟨k + 1, by omega, by go_num, Lib.hid (allTo_step hok.out HX.out hyes.out), hb.alloc hsz _, hB.of (Below.heap_alloc _ _ _ hB.lt)⟩
              case measure => simp [intOf]; omega
        · obtain rfl : k = h.ps.length := by omega
          have hpall : Hid (h.ps.all (partOK h.ks.length) = true) := Lib.hid (allTo_good hok.out)
          have hI : IntsAt wr wr.heap.size Ab h.bs := (HH.out.b).keep hsz fun _ _ hlt => hb.cell (p := ⟨_, _, none⟩) hlt
          clear hok hlt hk
          cases ha : (h.bs.all fun b => inR b 0 99)
          · have ha2 : (h.bs.any fun x => !inR x 0 99) = true := by rw [any_not_all, ha]; rfl
            have HA := Lib.hid ha
            clear ha
            go_wp2_with (go_at_call 160; refine (contains78_any Ab cb h.bs (by omega) wr hI).mono ?_; rintro e W5 ⟨rfl, hb5⟩)
            go_ret
            exact ⟨by rw [ckH_no (by rw [validH_parts HV.out hkall.out hpall.out]; exact HA.out)]; rfl, hb.trans (hb5.mono hsz)⟩
          · have ha2 : (h.bs.any fun x => !inR x 0 99) = false := by rw [any_not_all, ha]; rfl
            have HA := Lib.hid ha
            clear ha
            go_wp2_with (go_at_call 160; refine (contains78_any Ab cb h.bs (by omega) wr hI).mono ?_; rintro e W5 ⟨rfl, hb5⟩)
            go_ret
            exact ⟨by rw [ckH_yes (by rw [validH_parts HV.out hkall.out hpall.out]; exact HA.out)]; rfl, hb.trans (hb5.mono hsz)⟩
theorem check_any (L : HL) (h : House) (hn : h.ks.length ≤ 1000 ∧ h.ps.length ≤ 1000 ∧ h.bs.length ≤ 1000) (w : World) (hH : HouseAt w w.heap.size L h) :
    Calls Try.prog 125 #[L.enc h] w fun e w' => e = .returned (.int .i64 (ckH h)) ∧ Below w.heap.size w w' := by
  cases hv : bigOK h
  · exact check_no L h hn hv w
  · exact check_yes L h hv w hH
theorem HOK.ofValid {h : House} (hv : validH h = true) : HOK h := by
  simp only [validH, bigOK, Bool.and_eq_true, decide_eq_true_eq, inR_true, List.all_eq_true] at hv
  obtain ⟨⟨k1, f1, p1, b1⟩, hk, hp, hb⟩ := hv
  refine ⟨k1, f1.1, f1.2, p1, b1, fun i x hx => ?_, fun i x hx => ?_, fun i x hx => hb x (List.mem_of_getElem? hx)⟩
  · have := hk x (List.mem_of_getElem? hx)
    simp only [kindOK, Bool.and_eq_true, inR_true] at this
    omega
  · have := hp x (List.mem_of_getElem? hx)
    simp only [partOK, Bool.and_eq_true, inR_true] at this
    omega
end Go.Proofs.Ytmbcpmnigggbaaa.Sa
