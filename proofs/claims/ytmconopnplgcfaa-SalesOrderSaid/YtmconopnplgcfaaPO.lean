import Derived.Test.YtmconopnplgcfaaPN
namespace Go.Proofs.Ytmconopnplgcfaa
open Go.RowKit

/-! What is plain of SalesOrder. -/
def rotL {α : Type} (l : List α) (r : Nat) : List α := l.drop r ++ l.take r
theorem rotL_len {α : Type} (l : List α) (r : Nat) : (rotL l r).length = l.length := by
  simp only [rotL, List.length_append, List.length_drop, List.length_take]; omega
theorem rotL_mem {α : Type} {l : List α} {r : Nat} {x : α} : x ∈ rotL l r ↔ x ∈ l := by
  unfold rotL
  rw [List.mem_append]
  constructor
  · exact fun h => h.elim List.mem_of_mem_drop List.mem_of_mem_take
  · intro h
    rw [← List.take_append_drop r l, List.mem_append] at h
    exact h.symm
theorem rotL_at {α : Type} {l : List α} {r i : Nat} (hr : r ≤ l.length) (hi : i < l.length) : (rotL l r)[i]? = l[if i + r < l.length then i + r else i + r - l.length]? := by
  unfold rotL
  by_cases h : i + r < l.length
  · rw [if_pos h, List.getElem?_append_left (by rw [List.length_drop]; omega), List.getElem?_drop, Nat.add_comm]
  · rw [if_neg h, List.getElem?_append_right (by rw [List.length_drop]; omega), List.getElem?_take, List.length_drop, if_pos (by omega)]
    congr 1; omega
theorem rotL_back {α : Type} (l : List α) {r : Nat} (hr : r ≤ l.length) : rotL (rotL l r) (l.length - r) = l := by
  unfold rotL
  have e : (l.drop r).length = l.length - r := List.length_drop
  rw [← e, List.drop_left, List.take_left, List.take_append_drop]
def mixL {α : Type} (old new : List α) (k : Nat) : List α := new.take k ++ old.drop k
theorem mixL_zero {α : Type} (old new : List α) : mixL old new 0 = old := by simp [mixL]
theorem mixL_len {α : Type} {old new : List α} (hl : new.length = old.length) (k : Nat) : (mixL old new k).length = old.length := by
  simp only [mixL, List.length_append, List.length_take, List.length_drop]; omega
theorem mixL_all {α : Type} {old new : List α} (hl : new.length = old.length) : mixL old new old.length = new := by
  unfold mixL
  rw [List.take_of_length_le (by omega), List.drop_eq_nil_of_le (Nat.le_refl _), List.append_nil]
theorem mixL_next {α : Type} {old new : List α} {k : Nat} {x : α} (hl : new.length = old.length) (hk : k < old.length) (hx : new[k]? = some x) : mixL old new (k + 1) = (mixL old new k).set k x := by
  unfold mixL
  have hkt : (new.take k).length = k := by rw [List.length_take]; omega
  rw [List.set_append, if_neg (by omega), hkt, Nat.sub_self, List.drop_eq_getElem_cons hk, List.set_cons_zero, List.take_add_one, hx]
  simp
/-- Where a place comes from, and where a boat goes to. -/
def fromP (n q k : Nat) : Nat := if k + q < n then k + q else k + q - n
theorem rem_idx {n : Nat} {x : Int} {k : Nat} (hk : k < n) : ((k : Int) + x) % (n : Int) = (fromP n (x % n).toNat k : Int) := by
  have h1 := Int.emod_nonneg x (show (n : Int) ≠ 0 by omega)
  have h2 := Int.emod_lt_of_pos x (show (0 : Int) < n by omega)
  rw [Int.add_emod]
  unfold fromP
  have h3 : (k : Int) % n = k := Int.emod_eq_of_lt (by omega) (by omega)
  rw [h3]
  split
  · rw [Int.emod_eq_of_lt (by omega) (by omega)]; omega
  · rw [← Int.sub_emod_right, Int.emod_eq_of_lt (by omega) (by omega)]; omega
theorem rot_ex (n : Nat) (x : Int) : ∃ r, r ≤ n ∧ ∀ k : Nat, k < n → ((k : Int) + x) % (n : Int) = (fromP n r k : Int) := by
  by_cases h : n = 0
  · exact ⟨0, by omega, fun k hk => by omega⟩
  · refine ⟨(x % n).toNat, ?_, fun k hk => rem_idx hk⟩
    have h1 := Int.emod_nonneg x (show (n : Int) ≠ 0 by omega)
    have h2 := Int.emod_lt_of_pos x (show (0 : Int) < n by omega)
    omega
theorem fromP_lt {n r k : Nat} (hr : r ≤ n) (hk : k < n) : fromP n r k < n := by unfold fromP; split <;> omega
theorem fromP_inj {n r j k : Nat} (hr : r ≤ n) (hj : j < n) (hk : k < n) (h : fromP n r j = fromP n r k) : j = k := by
  unfold fromP at h
  split at h <;> split at h <;> omega
theorem fromP_back {n r k : Nat} (hr : r ≤ n) (hk : k < n) : fromP n (n - r) (fromP n r k) = k := by
  unfold fromP
  split <;> split <;> omega
theorem rot_turned {q : List Bid} {r : Nat} (hr : r ≤ q.length) : TurnedQ q (rotL q r) (fromP q.length r) :=
  ⟨rotL_len q r, fun i hi => by rw [rotL_len] at hi; exact rotL_at hr hi, fun i hi => by rw [rotL_len] at hi; exact fromP_lt hr hi, fun i j hi hj h => by rw [rotL_len] at hi hj; exact fromP_inj hr hi hj h⟩
theorem rot_turned_back {q : List Bid} {r : Nat} (hr : r ≤ q.length) : TurnedQ (rotL q r) q (fromP q.length (q.length - r)) := by
  have h := rot_turned (q := rotL q r) (r := q.length - r) (by rw [rotL_len]; omega)
  rw [rotL_back q hr, rotL_len] at h
  exact h
theorem most_low {q : List Bid} {rd : List Int} {P : List Nat → Prop} {n : Int} (hq : ∀ b ∈ q, 0 ≤ b.pay) (h : MostIs q rd P n) : -1 ≤ n := by
  rcases h.at_ with ⟨e, _⟩ | ⟨l, _, _, e⟩
  · omega
  · have := brings_nonneg hq l
    omega
theorem rot_pos {q : List Bid} {r : Nat} (hq : ∀ b ∈ q, 0 ≤ b.pay) : ∀ b ∈ rotL q r, 0 ≤ b.pay := fun b hb => hq b (rotL_mem.1 hb)
theorem rot_most {q : List Bid} {rd : List Int} {r : Nat} (hn : q.length ≤ 8) (hq : ∀ b ∈ q, 0 ≤ b.pay) (hr : r ≤ q.length) : mostV (rotL q r) rd = mostV q rd := by
  have h1 := mostV_is (rd := rd) hn hq
  have h2 := mostV_is (rd := rd) (q := rotL q r) (by rw [rotL_len]; exact hn) (rot_pos hq)
  have a := turned_le (rot_turned hr) (fun _ _ _ => trivial) h2 h1 (most_low hq h1)
  have b := turned_le (rot_turned_back hr) (fun _ _ _ => trivial) h1 h2 (most_low (rot_pos hq) h2)
  omega
theorem rot_won {q : List Bid} {rd : List Int} {r i : Nat} (hn : q.length ≤ 8) (hq : ∀ b ∈ q, 0 ≤ b.pay) (hr : r ≤ q.length) (hi : i < q.length) : withV (rotL q r) rd i = withV q rd (fromP q.length r i) ∧ outV (rotL q r) rd i = outV q rd (fromP q.length r i) := by
  have hf := fromP_lt hr hi
  have hrl := rotL_len q r
  have w1 := withV_is (rd := rd) (q := q) hn hq hf
  have w2 := withV_is (rd := rd) (q := rotL q r) (i := i) (by omega) (rot_pos hq) (by omega)
  have o1 := outV_is (rd := rd) (q := q) hn hq hf
  have o2 := outV_is (rd := rd) (q := rotL q r) (i := i) (by omega) (rot_pos hq) (by omega)
  constructor
  · have a := turned_le (rot_turned hr) (fun l hl hm => mem_image.2 ⟨hf, i, hm, rfl⟩) w2 w1 (most_low hq w1)
    have b := turned_le (rot_turned_back hr) (fun l hl hm => mem_image.2 ⟨by omega, _, hm, fromP_back hr hi⟩) w1 w2 (most_low (rot_pos hq) w2)
    omega
  · have a := turned_le (rot_turned hr) (fun l hl hm h => by
      obtain ⟨_, j, hj, e⟩ := mem_image.1 h
      have := hl.lt hj
      have := fromP_inj hr (by omega) hi e
      subst this
      exact hm hj) o2 o1 (most_low hq o1)
    have b := turned_le (rot_turned_back hr) (fun l hl hm h => by
      obtain ⟨_, j, hj, e⟩ := mem_image.1 h
      have hjl := hl.lt hj
      have e2 := congrArg (fromP q.length r) e
      have h3 : fromP q.length r (fromP q.length (q.length - r) j) = j := by
        have := fromP_back (n := q.length) (r := q.length - r) (k := j) (by omega) hjl
        rwa [show q.length - (q.length - r) = r by omega] at this
      rw [h3] at e2
      subst e2
      exact hm hj) o1 o2 (most_low (rot_pos hq) o2)
    omega
def whoL (q : List Bid) (n d : Int) : List Bid := q.map fun x => { x with who := (x.who + d) % n }
theorem whoL_len (q : List Bid) (n d : Int) : (whoL q n d).length = q.length := by simp [whoL]
theorem whoL_at {q : List Bid} {n d : Int} {k : Nat} {x : Bid} (h : q[k]? = some x) : (whoL q n d)[k]? = some { x with who := (x.who + d) % n } := by simp [whoL, h]
theorem who_win {q : List Bid} {n d : Int} {rd : List Int} (hn : q.length ≤ 8) (hq : ∀ b ∈ q, 0 ≤ b.pay) (hw : ∀ b ∈ q, 0 ≤ b.who ∧ b.who < n) : winL (whoL q n d) rd = winL q rd ∧ mostV (whoL q n d) rd = mostV q rd := by
  have hp : ∀ j : Nat, (whoL q n d)[j]?.map (fun x : Bid => x.pay) = q[j]?.map fun x : Bid => x.pay := fun j => by
    unfold whoL; rw [List.getElem?_map]; cases q[j]? <;> rfl
  have hpos : ∀ b ∈ whoL q n d, 0 ≤ b.pay := fun b hb => by
    obtain ⟨x, hx, rfl⟩ := List.mem_map.1 hb
    exact hq x hx
  have h1 := (win_of_sets (rd := rd) hn hq).2
  have h2 := (win_of_sets (rd := rd) (q := whoL q n d) (by rw [whoL_len]; exact hn) hpos).2
  have h3 := win_who (fun v => (v + d) % n) (fun j => by unfold whoL; rw [List.getElem?_map]; cases q[j]? <;> rfl) (fun a ha b hb e => turn_inj (hw a ha) (hw b hb) e) hp h1
  have e := h2.unique h3
  refine ⟨e, ?_⟩
  rw [mostV_win (by rw [whoL_len]; exact hn) hpos, mostV_win hn hq, e, brings_same hp]
def rotF (f : Fair) (r : Nat) : Fair := { f with q := rotL f.q r }
def whoF (f : Fair) (d : Int) : Fair := { f with q := whoL f.q f.nb d }
theorem rot_valid {f : Fair} (hv : validF f = true) (r : Nat) : validF (rotF f r) = true := by
  unfold validF at hv ⊢
  simp only [Bool.and_eq_true] at hv ⊢
  obtain ⟨h1, h2, h3⟩ := hv
  refine ⟨h1, ?_, ?_⟩
  · unfold numsOK at h2 ⊢
    show (inR f.day 0 20 && (inR f.nb 0 4 && decide ((rotL f.q r).length ≤ 8))) = true
    rw [rotL_len]; exact h2
  · rw [List.all_eq_true] at h3 ⊢
    intro x hx
    exact h3 x (rotL_mem.1 hx)
theorem rot_fn {f : Fair} (hn : FN f) (r : Nat) : FN (rotF f r) := ⟨hn.h, hn.p, by show (rotL f.q r).length ≤ 1000; rw [rotL_len]; exact hn.q, fun x hx => hn.b x (rotL_mem.1 hx)⟩
theorem who_valid {f : Fair} (hv : validF f = true) (d : Int) : validF (whoF f d) = true := by
  have hf := FOK.of hv
  unfold validF at hv ⊢
  simp only [Bool.and_eq_true] at hv ⊢
  obtain ⟨h1, h2, h3⟩ := hv
  refine ⟨h1, ?_, ?_⟩
  · unfold numsOK at h2 ⊢
    show (inR f.day 0 20 && (inR f.nb 0 4 && decide ((whoL f.q f.nb d).length ≤ 8))) = true
    rw [whoL_len]; exact h2
  · rw [List.all_eq_true] at h3 ⊢
    intro x hx
    obtain ⟨y, hy, rfl⟩ := List.mem_map.1 hx
    have h4 := h3 y hy
    have h5 := hf.who y hy
    have h6 := Int.emod_nonneg (y.who + d) (show f.nb ≠ 0 by omega)
    have h7 := Int.emod_lt_of_pos (y.who + d) (show 0 < f.nb by omega)
    unfold bidOK at h4 ⊢
    simp only [Bool.and_eq_true, inR_true] at h4 ⊢
    exact ⟨⟨h6, by show (y.who + d) % f.nb ≤ f.nb - 1; omega⟩, h4.2⟩
theorem who_fn {f : Fair} (hn : FN f) (d : Int) : FN (whoF f d) := ⟨hn.h, hn.p, by show (whoL f.q f.nb d).length ≤ 1000; rw [whoL_len]; exact hn.q, fun x hx => by
  obtain ⟨y, hy, rfl⟩ := List.mem_map.1 hx
  exact hn.b y hy⟩
theorem order_plain {f : Fair} (hf : FOK f) {r : Nat} (hr : r ≤ f.q.length) (d : Int) : mW (rotF f r) = mW f ∧ mW (whoF f d) = mW f ∧ wL (whoF f d) = wL f :=
  ⟨rot_most hf.ql hf.pos' hr, (who_win hf.ql hf.pos' hf.who).2, (who_win hf.ql hf.pos' hf.who).1⟩

end Go.Proofs.Ytmconopnplgcfaa
