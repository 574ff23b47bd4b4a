import Derived.Test.YtgjpllmmpclgaaaC5
import Derived.Test.YtgjpllmmpclgaaaR3
namespace Go.Proofs.Ytgjpllmmpclgaaa
open Go.RowKit

/-! slices.Contains 108, crews 104 and its closure 107. -/
/-- What Index returns. -/
def IdxPost (l : List Int) (x : Int) (w : World) (e : Ending) (w' : World) : Prop := ∃ r : Int, e = .returned (.int .i64 r) ∧ decide (0 ≤ r) = decide (x ∈ l) ∧ w = w'
set_option maxRecDepth 100000 in
theorem index_any (l : List Int) (x : Int) (A : Option Addr) (c : Nat) (hl : l.length ≤ 1000) (w : World) (hI : IntsAt w w.heap.size A l) : Calls Try.prog 111 #[.slice A l.length c, .int .i64 x] w (IdxPost l x w) := by
  have HI := Lib.hid hI
  clear hI
  go_enter Try.func111, Try.ntmps111
  go_wp2_with (fail)
  go_loop [8] (fun i => ∃ k : Nat, k ≤ l.length ∧ i = .int .i64 k ∧ Hid (¬ x ∈ l.take k)) (fun i => l.length - (intOf i).toNat)
  case atStart => exact ⟨0, Nat.zero_le _, rfl, Lib.hid (by simp)⟩
  case round =>
    obtain ⟨k, hk, rfl, hno⟩ := hrel
    by_cases hlt : k < l.length
    · obtain ⟨j, hj⟩ : ∃ j, l[k]? = some j := ⟨_, List.getElem?_eq_getElem hlt⟩
      obtain ⟨bi, oi, eA, blt, d1⟩ := HI.out.at_ hj
      have HJ := Lib.hid hj
      subst eA
      clear hj
      by_cases hx : x = j
      · have hxb : (x == j) = true := by simpa using hx
        have HM := Lib.hid (show x ∈ l by rw [hx]; exact List.mem_of_getElem? HJ.out)
        clear hx
        go_wp2_with (fail)
        go_ret
        exact ⟨k, rfl, by rw [decide_eq_true HM.out]; exact decide_eq_true (by omega), rfl⟩
      · have hxb : (x == j) = false := by simpa using hx
        have HN := Lib.hid (show ¬ x ∈ l.take (k + 1) by
          rw [List.take_add_one, HJ.out]
          simp only [List.mem_append, Option.toList_some, List.mem_singleton, not_or]
          exact ⟨hno.out, hx⟩)
        clear hx
        go_wp2_with (fail)
        go_round
        case rel => exact ⟨k + 1, by omega, by go_num, HN⟩
        case measure => simp [intOf]; omega
    · obtain rfl : k = l.length := by omega
      have HN := Lib.hid (show ¬ x ∈ l by have := hno.out; rwa [List.take_length] at this)
      go_wp2_with (fail)
      go_ret
      exact ⟨-1, rfl, by rw [decide_eq_false HN.out]; rfl, rfl⟩
theorem contains_any (l : List Int) (x : Int) (A : Option Addr) (c : Nat) (hl : l.length ≤ 1000) (w : World) (hI : IntsAt w w.heap.size A l) : Calls Try.prog 108 #[.slice A l.length c, .int .i64 x] w fun e w' => e = .returned (.bool (decide (x ∈ l))) ∧ w = w' := by
  have H := Lib.hid (index_any l x A c hl w hI)
  clear hI
  go_enter Try.func108, Try.ntmps108
  go_wp2_with (go_at_call 111; refine H.out.mono ?_; rintro e w' ⟨r, rfl, hr, rfl⟩; have HR := Lib.hid hr; clear hr)
  go_ret
  exact ⟨by rw [← HR.out]; rfl, rfl⟩

theorem yieldAt_wide {P : Program} {m m' l : Nat} {args : Array Value} {W : World} {R : Ending → World → Prop} (h : YieldAt Fence.wide m P l args W R) : YieldAt Fence.wide m' P l args W R := by
  obtain ⟨fn, tmps, assign, body, hy, h1, h2⟩ := h
  exact ⟨fn, tmps, assign, body, hy, h1, fun c cs _ => h2 c cs (room_wide _)⟩

/-- The memory of crews: the boxes of the sea, of yield, of the closure; the sea at work. -/
structure CrewSt (W : World) (B0 B1 B2 l b : Nat) (L : SL) (s : Sea) : Prop where
  s0 : W.cell? ⟨B0, 0, none⟩ = some (.pointer (some ⟨b, 0, none⟩))
  y0 : W.cell? ⟨B1, 0, none⟩ = some (.func (.yield l) #[] #[])
  f0 : W.cell? ⟨B2, 0, none⟩ = some (.func (.func 107) #[] #[.pointer (some ⟨B0, 0, none⟩), .pointer (some ⟨B1, 0, none⟩), .pointer (some ⟨B2, 0, none⟩)])
  w0 : WBox W b L s (shares s)
theorem CrewSt.kp {W W' : World} {B0 B1 B2 l b : Nat} {L : SL} {s : Sea} (h : CrewSt W B0 B1 B2 l b L s) {S : Nat → Prop} (hk : KpB S W.heap.size W W') (h0 : ¬ S B0) (h1 : ¬ S B1) (h2 : ¬ S B2) (h3 : ¬ S b) : CrewSt W' B0 B1 B2 l b L s :=
  ⟨(hk.cell (cell_lt h.s0) h0).trans h.s0, (hk.cell (cell_lt h.y0) h1).trans h.y0, (hk.cell (cell_lt h.f0) h2).trans h.f0, h.w0.of (hk.block _ h.w0.lt h3)⟩
theorem CrewSt.below {W W' : World} {B0 B1 B2 l b : Nat} {L : SL} {s : Sea} (h : CrewSt W B0 B1 B2 l b L s) (hb : Below W.heap.size W W') : CrewSt W' B0 B1 B2 l b L s :=
  h.kp (S := fun _ => False) (kpB_of_below hb) (fun h => h) (fun h => h) (fun h => h) (fun h => h)
/-- The numbers l, in memory from B on. -/
def IntsFrom (W : World) (B : Nat) (A : Option Addr) (l : List Int) : Prop := (A = none ∧ l = []) ∨ ∃ b off, A = some ⟨b, off, none⟩ ∧ B ≤ b ∧ b < W.heap.size ∧ ∀ i x, l[i]? = some x → W.cell? ⟨b, off + i, none⟩ = some (.int .i64 x)
theorem IntsFrom.ints {W : World} {B : Nat} {A : Option Addr} {l : List Int} (h : IntsFrom W B A l) : IntsAt W W.heap.size A l := by
  rcases h with ⟨_, h⟩ | ⟨b, off, h1, _, h2, h3⟩
  · exact .inl h
  · exact .inr ⟨b, off, h1, h2, h3⟩
theorem IntsFrom.kp {W W' : World} {B : Nat} {A : Option Addr} {l : List Int} (h : IntsFrom W B A l) {S : Nat → Prop} (hk : KpB S W.heap.size W W') (hS : ∀ k, B ≤ k → ¬ S k) : IntsFrom W' B A l := by
  rcases h with h | ⟨b, off, h1, h0, h2, h3⟩
  · exact .inl h
  · exact .inr ⟨b, off, h1, h0, Nat.lt_of_lt_of_le h2 hk.size, fun i x hx => (hk.cell h2 (hS b h0)).trans (h3 i x hx)⟩
theorem IntsFrom.below {W W' : World} {B : Nat} {A : Option Addr} {l : List Int} (h : IntsFrom W B A l) (hb : Below W.heap.size W W') : IntsFrom W' B A l :=
  h.kp (S := fun _ => False) (kpB_of_below hb) (fun _ _ h => h)
/-- What crews hands over. -/
def SeesC (B : Nat) (x : List Int) (args : Array Value) (X : World) : Prop := ∃ A c, args = #[.slice A x.length c] ∧ IntsFrom X B A x ∧ x.length ≤ c
theorem SeesC.kept {B : Nat} {x : List Int} {args : Array Value} {X Y : World} (hs : SeesC B x args X) (hk : KpB (fun k => k < B) X.heap.size X Y) : SeesC B x args Y := by
  obtain ⟨A, c, h1, h2, h3⟩ := hs
  exact ⟨A, c, h1, h2.kp hk (fun k hk h => by omega), h3⟩
/-- All crews that begin with some boats, n more to choose from nb. -/
def crewsR (nb : Nat) : Nat → List Int → List (List Int)
  | 0, f => [f]
  | n + 1, f => (List.range nb).flatMap fun b : Nat => if (b : Int) ∈ f then [] else crewsR nb n (f ++ [(b : Int)])
/-- Those of them whose next boat is below k. -/
def crewsTo (nb n : Nat) (f : List Int) (k : Nat) : List (List Int) := (List.range k).flatMap fun b : Nat => if (b : Int) ∈ f then [] else crewsR nb n (f ++ [(b : Int)])
theorem crewsTo_zero (nb n : Nat) (f : List Int) : crewsTo nb n f 0 = [] := rfl
theorem crewsTo_succ (nb n : Nat) (f : List Int) (k : Nat) : crewsTo nb n f (k + 1) = crewsTo nb n f k ++ if (k : Int) ∈ f then [] else crewsR nb n (f ++ [(k : Int)]) := by
  unfold crewsTo; rw [List.range_succ, List.flatMap_append]; simp
theorem crewsTo_all (nb n : Nat) (f : List Int) : crewsTo nb n f nb = crewsR nb (n + 1) f := rfl
theorem crewsTo_pre (nb n : Nat) (f : List Int) {k m : Nat} (h : k ≤ m) : crewsTo nb n f k <+: crewsTo nb n f m := by
  obtain ⟨d, rfl⟩ : ∃ d, m = k + d := ⟨m - k, by omega⟩
  clear h
  induction d with
  | zero => exact List.prefix_rfl
  | succ d ih => rw [← Nat.add_assoc, crewsTo_succ]; exact ih.trans (List.prefix_append _ _)
/-- How the closure returns. -/
def FromPost (S : Nat → Prop) (xs : List (List Int)) (J Jx : List (List Int) → World → Prop) (all : List (List Int)) (X : World) (e : Ending) (X' : World) : Prop :=
  ∃ v : Bool, e = .returned (.bool v) ∧ KpB S X.heap.size X X' ∧ ((v = true ∧ J all X') ∨ (v = false ∧ ∃ pre, pre <+: xs ∧ Jx pre X'))
end Go.Proofs.Ytgjpllmmpclgaaa
namespace Go.Proofs.Ytgjpllmmpclgaaa

/-! Crews: lists of boats without repeats, the least one first. -/
/-- A list of boats without repeats. -/
def CrewOf (nb n : Nat) (c : List Int) : Prop := c.length = n ∧ (∀ x ∈ c, 0 ≤ x ∧ x < nb) ∧ c.Nodup
theorem mem_crewsR {nb : Nat} : ∀ {n : Nat} {f c : List Int}, f.Nodup → (c ∈ crewsR nb n f ↔ ∃ t, c = f ++ t ∧ t.length = n ∧ (∀ x ∈ t, 0 ≤ x ∧ x < nb) ∧ c.Nodup)
  | 0, f, c, hf => by
    simp only [crewsR, List.mem_singleton]
    constructor
    · rintro rfl; exact ⟨[], by simp, rfl, by simp, hf⟩
    · rintro ⟨t, rfl, h, _⟩
      rw [List.length_eq_zero_iff.1 h, List.append_nil]
  | n + 1, f, c, hf => by
    simp only [crewsR, List.mem_flatMap, List.mem_range]
    constructor
    · rintro ⟨b, hb, h⟩
      split at h
      · simp at h
      · rename_i hn
        have hf' : (f ++ [(b : Int)]).Nodup := by
          rw [List.nodup_append]
          refine ⟨hf, by simp, ?_⟩
          intro x hx y hy
          simp at hy
          subst hy
          intro e
          subst e
          exact hn hx
        obtain ⟨t, rfl, h1, h2, h3⟩ := (mem_crewsR hf').1 h
        refine ⟨(b : Int) :: t, by simp, by simp [h1], ?_, h3⟩
        intro x hx
        rcases List.mem_cons.1 hx with rfl | hx
        · omega
        · exact h2 x hx
    · rintro ⟨t, rfl, h1, h2, h3⟩
      match t, h1, h2, h3 with
      | y :: t, h1, h2, h3 =>
        have hy := h2 y (by simp)
        obtain ⟨b, rfl⟩ : ∃ b : Nat, y = b := ⟨y.toNat, by omega⟩
        have hn : ¬ (b : Int) ∈ f := by
          rw [List.nodup_append] at h3
          intro hm
          exact h3.2.2 _ hm (b : Int) (by simp) rfl
        have e : f ++ (b : Int) :: t = (f ++ [(b : Int)]) ++ t := by simp
        refine ⟨b, by omega, ?_⟩
        rw [if_neg hn]
        have hf' : (f ++ [(b : Int)]).Nodup := by
          rw [e] at h3
          exact (List.nodup_append.1 h3).1
        refine (mem_crewsR hf').2 ⟨t, e, by simpa using h1, fun x hx => h2 x (by simp [hx]), h3⟩
theorem mem_crews {nb n : Nat} {c : List Int} : c ∈ crewsR nb n [] ↔ CrewOf nb n c := by
  rw [mem_crewsR (by simp)]
  unfold CrewOf
  constructor
  · rintro ⟨t, rfl, h⟩; simpa using h
  · intro h; exact ⟨c, by simp, h⟩
/-- One list is less than another of as many numbers. -/
def earlierB : List Int → List Int → Bool
  | x :: a, y :: b => if x = y then earlierB a b else decide (x < y)
  | _, _ => false
theorem earlier_pre : ∀ (f : List Int) {a b : List Int}, earlierB (f ++ a) (f ++ b) = earlierB a b
  | [], _, _ => rfl
  | x :: f, a, b => by simp only [List.cons_append, earlierB, if_true]; exact earlier_pre f
/-- The crews stand in their order. -/
theorem crews_sorted {nb : Nat} : ∀ (n : Nat) (f : List Int), f.Nodup → (crewsR nb n f).Pairwise fun a b => earlierB a b = true
  | 0, f, _ => by simp [crewsR]
  | n + 1, f, hf => by
    unfold crewsR
    rw [List.pairwise_flatMap]
    have hsub : ∀ (b : Nat), ¬ (b : Int) ∈ f → (f ++ [(b : Int)]).Nodup := fun b hn => by
      rw [List.nodup_append]
      refine ⟨hf, by simp, ?_⟩
      intro x hx y hy
      simp at hy
      subst hy
      intro e
      subst e
      exact hn hx
    refine ⟨fun b _ => ?_, ?_⟩
    · split
      · simp
      · rename_i hn
        exact crews_sorted n _ (hsub b hn)
    · refine List.pairwise_lt_range.imp fun {a b} hab x hx y hy => ?_
      split at hx
      · simp at hx
      · split at hy
        · simp at hy
        · rename_i h1 h2
          obtain ⟨t, rfl, _⟩ := (mem_crewsR (hsub a h1)).1 hx
          obtain ⟨u, rfl, _⟩ := (mem_crewsR (hsub b h2)).1 hy
          rw [List.append_assoc, List.append_assoc, earlier_pre]
          simp only [List.singleton_append, earlierB]
          rw [if_neg (by omega)]
          simp; omega
/-! Lifts in plain words: the best of a list of lists. -/
/-- The first of the lists with the least number, of those for which something holds; and this number. -/
def cheapStep (ok : List Int → Bool) (f : List Int → Int) (b : Option (List Int × Int)) (c : List Int) : Option (List Int × Int) :=
  if ok c then match b with
    | none => some (c, f c)
    | some (q, n) => if f c < n then some (c, f c) else some (q, n)
  else b
def cheapL (ok : List Int → Bool) (f : List Int → Int) (l : List (List Int)) : Option (List Int × Int) := l.foldl (cheapStep ok f) none
theorem cheapL_snoc (ok : List Int → Bool) (f : List Int → Int) (l : List (List Int)) (c : List Int) : cheapL ok f (l ++ [c]) = cheapStep ok f (cheapL ok f l) c := by simp [cheapL]
theorem cheapL_none {ok : List Int → Bool} {f : List Int → Int} : ∀ l, cheapL ok f l = none ↔ ∀ c ∈ l, ok c = false := fun l => by
  refine snoc_ind (P := fun l => cheapL ok f l = none ↔ ∀ c ∈ l, ok c = false) (by simp [cheapL]) (fun l x ih => ?_) l
  rw [cheapL_snoc]
  unfold cheapStep
  by_cases hx : ok x = true
  · rw [if_pos hx]
    constructor
    · intro h
      cases hb : cheapL ok f l with
      | none => rw [hb] at h; simp at h
      | some q =>
        obtain ⟨q, n⟩ := q
        rw [hb] at h
        simp only at h
        split at h <;> simp at h
    · intro h
      have := h x (by simp)
      rw [hx] at this; cases this
  · rw [if_neg hx, ih]
    simp only [List.mem_append, List.mem_singleton]
    constructor
    · rintro h c (hc | rfl)
      · exact h c hc
      · simpa using hx
    · exact fun h c hc => h c (.inl hc)
theorem cheapL_some {ok : List Int → Bool} {f : List Int → Int} : ∀ (l : List (List Int)) (c : List Int) (n : Int), cheapL ok f l = some (c, n) → c ∈ l ∧ ok c = true ∧ n = f c ∧ (∀ q ∈ l, ok q = true → n ≤ f q) ∧ ∃ a b, l = a ++ c :: b ∧ ∀ q ∈ a, ok q = true → n < f q := fun l => by
  refine snoc_ind (P := fun l => ∀ (c : List Int) (n : Int), cheapL ok f l = some (c, n) → c ∈ l ∧ ok c = true ∧ n = f c ∧ (∀ q ∈ l, ok q = true → n ≤ f q) ∧ ∃ a b, l = a ++ c :: b ∧ ∀ q ∈ a, ok q = true → n < f q) (fun c n h => by simp [cheapL] at h) (fun l x ih c n h => ?_) l
  rw [cheapL_snoc] at h
  unfold cheapStep at h
  by_cases hx : ok x = true
  · rw [if_pos hx] at h
    cases hb : cheapL ok f l with
    | none =>
      rw [hb] at h
      simp only [Option.some.injEq, Prod.mk.injEq] at h
      obtain ⟨rfl, rfl⟩ := h
      have hn := (cheapL_none l).1 hb
      refine ⟨by simp, hx, rfl, fun q hq hok => ?_, l, [], by simp, fun q hq hok => by rw [hn q hq] at hok; cases hok⟩
      rcases List.mem_append.1 hq with hq | hq
      · rw [hn q hq] at hok; cases hok
      · simp at hq; subst hq; exact Int.le_refl _
    | some qn =>
      obtain ⟨q0, n0⟩ := qn
      rw [hb] at h
      obtain ⟨h1, h2, h3, h4, a, b, h5, h6⟩ := ih q0 n0 hb
      simp only at h
      by_cases hlt : f x < n0
      · rw [if_pos hlt] at h
        simp only [Option.some.injEq, Prod.mk.injEq] at h
        obtain ⟨rfl, rfl⟩ := h
        refine ⟨by simp, hx, rfl, fun q hq hok => ?_, l, [], by simp, fun q hq hok => by have := h4 q hq hok; omega⟩
        rcases List.mem_append.1 hq with hq | hq
        · have := h4 q hq hok; omega
        · simp at hq; subst hq; exact Int.le_refl _
      · rw [if_neg hlt] at h
        simp only [Option.some.injEq, Prod.mk.injEq] at h
        obtain ⟨rfl, rfl⟩ := h
        refine ⟨by simp [h1], h2, h3, fun q hq hok => ?_, a, b ++ [x], by rw [h5]; simp, h6⟩
        rcases List.mem_append.1 hq with hq | hq
        · exact h4 q hq hok
        · simp at hq; subst hq; omega
  · rw [if_neg hx] at h
    obtain ⟨h1, h2, h3, h4, a, b, h5, h6⟩ := ih c n h
    refine ⟨by simp [h1], h2, h3, fun q hq hok => ?_, a, b ++ [x], by rw [h5]; simp, h6⟩
    rcases List.mem_append.1 hq with hq | hq
    · exact h4 q hq hok
    · simp at hq; subst hq; exact absurd hok hx
/-! Lifts in plain words: what surely holds, and what never does. -/
/-- No boat is over its load (carries, parts). -/
def fitsW (w : Int) : List Int → List Int → Prop
  | c :: cs, v :: vs => w * v ≤ 12 * c ∧ fitsW w cs vs
  | _, _ => True
/-- What may hang at a place, so that its boat is not over its load. -/
def capX (w : Int) (x : Int × Int) (c : Int) : Int × Int := (x.1, if 0 < w then min x.2 (12 * c / w) else x.2)
def capL (w : Int) (ps : List (Int × Int)) (cs : List Int) : List (Int × Int) := List.zipWith (capX w) ps cs
theorem cap_iff {w : Int} (hw : 0 ≤ w) {x : Int × Int} {c v : Int} (hc : 0 ≤ c) : (v ≤ x.2 ∧ w * v ≤ 12 * c) ↔ v ≤ (capX w x c).2 := by
  unfold capX
  by_cases h : 0 < w
  · simp only [if_pos h]
    have := Int.le_ediv_iff_mul_le (a := v) (b := 12 * c) h
    rw [Int.mul_comm v w] at this
    omega
  · simp only [if_neg h]
    obtain rfl : w = 0 := by omega
    simp; omega
theorem parting_cap {w : Int} (hw : 0 ≤ w) : ∀ (ps : List (Int × Int)) (cs : List Int) (t : Int) (p : List Int), ps.length = cs.length → (∀ c ∈ cs, 0 ≤ c) → ((Parting ps t p ∧ fitsW w cs p) ↔ Parting (capL w ps cs) t p)
  | [], [], t, p, _, _ => by
    constructor
    · rintro ⟨h, _⟩; cases h; exact .nil
    · intro h; cases h; exact ⟨.nil, trivial⟩
  | x :: ps, c :: cs, t, p, hl, hc => by
    have ih := fun t p => parting_cap hw ps cs t p (by simpa using hl) (fun y hy => hc y (by simp [hy]))
    have hx := fun v => cap_iff hw (x := x) (c := c) (v := v) (hc c (by simp))
    constructor
    · rintro ⟨h, hf⟩
      cases h with
      | cons h1 h2 h3 => exact .cons h1 ((hx _).1 ⟨h2, hf.1⟩) ((ih _ _).1 ⟨h3, hf.2⟩)
    · intro h
      cases h with
      | cons h1 h2 h3 =>
        obtain ⟨h4, h5⟩ := (hx _).2 h2
        obtain ⟨h6, h7⟩ := (ih _ _).2 h3
        exact ⟨.cons h1 h4 h6, h5, h7⟩
/-- In some truth no boat is over its load. -/
theorem perhaps_iff {w : Int} (hw : 0 ≤ w) {ps : List (Int × Int)} {cs : List Int} {t : Int} (hl : ps.length = cs.length) (hc : ∀ c ∈ cs, 0 ≤ c) (hlo : sumL ps ≤ t) :
    (∃ p, Parting ps t p ∧ fitsW w cs p) ↔ (∀ x ∈ capL w ps cs, x.1 ≤ x.2) ∧ t ≤ sumH (capL w ps cs) := by
  have e : sumL (capL w ps cs) = sumL ps := by
    have : ∀ (ps : List (Int × Int)) (cs : List Int), ps.length = cs.length → sumL (capL w ps cs) = sumL ps := fun ps => by
      induction ps with
      | nil => intro cs _; cases cs <;> rfl
      | cons x ps ih =>
        intro cs h
        match cs, h with
        | c :: cs, h =>
          show sumL (capX w x c :: capL w ps cs) = _
          rw [sumL_cons, sumL_cons, ih cs (by simpa using h)]; rfl
    exact this ps cs hl
  constructor
  · rintro ⟨p, hp⟩
    have h := (parting_cap hw ps cs t p hl hc).1 hp
    refine ⟨?_, h.bd.2⟩
    have : ∀ {l : List (Int × Int)} {t : Int} {p : List Int}, Parting l t p → ∀ x ∈ l, x.1 ≤ x.2 := fun {l t p} h => by
      induction h with
      | nil => intro x hx; simp at hx
      | cons h1 h2 _ ih =>
        intro x hx
        rcases List.mem_cons.1 hx with rfl | hx
        · omega
        · exact ih x hx
    exact this h
  · rintro ⟨h1, h2⟩
    obtain ⟨p, hp⟩ := fill (capL w ps cs) t h1 (by rw [e]; exact hlo) h2
    exact ⟨p, (parting_cap hw ps cs t p hl hc).2 hp⟩
/-- In no truth a boat is over its load: each carries what the greatest part asks. -/
theorem surely_iff {w : Int} {ps : List (Int × Int)} {cs : List Int} {t : Int} (hw : 0 ≤ w) (hx : ∀ x ∈ ps, x.1 ≤ x.2) (hlo : sumL ps ≤ t) (hhi : t ≤ sumH ps) (hl : ps.length = cs.length) :
    (∀ p, Parting ps t p → fitsW w cs p) ↔ ∀ (i : Nat) (x : Int × Int) (c : Int), ps[i]? = some x → cs[i]? = some c → w * (shareL ps t x).2 ≤ 12 * c := by
  have hat : ∀ (cs p : List Int), cs.length = p.length → (fitsW w cs p ↔ ∀ (i : Nat) (c v : Int), cs[i]? = some c → p[i]? = some v → w * v ≤ 12 * c) := fun cs => by
    induction cs with
    | nil => intro p h; cases p <;> simp [fitsW]
    | cons c cs ih =>
      intro p h
      match p, h with
      | v :: p, h =>
        rw [fitsW, ih p (by simpa using h)]
        constructor
        · rintro ⟨h1, h2⟩ i c' v' hc hv
          cases i with
          | zero => simp at hc hv; subst hc hv; exact h1
          | succ i => exact h2 i c' v' (by simpa using hc) (by simpa using hv)
        · intro h
          exact ⟨h 0 c v rfl rfl, fun i c' v' hc hv => h (i + 1) c' v' (by simpa using hc) (by simpa using hv)⟩
  constructor
  · intro h i x c hi hc
    have hxx := hx x (List.mem_of_getElem? hi)
    have hle : (shareL ps t x).1 ≤ (shareL ps t x).2 := by
      have hlo' : ∀ (l : List (Int × Int)) (i : Nat), (∀ x ∈ l, x.1 ≤ x.2) → l[i]? = some x → sumL l - x.1 ≤ sumH l - x.2 := fun l => by
        induction l with
        | nil => intro i _ h; simp at h
        | cons z l ih =>
          intro i hz h
          rw [sumL_cons, sumH_cons]
          have hz0 := hz z (by simp)
          cases i with
          | zero =>
            simp at h
            subst h
            have : ∀ l : List (Int × Int), (∀ x ∈ l, x.1 ≤ x.2) → sumL l ≤ sumH l := fun l => by
              induction l with
              | nil => intro _; simp [sumL, sumH]
              | cons y l ih =>
                intro h
                have := ih fun z hz => h z (by simp [hz])
                have := h y (by simp)
                rw [sumL_cons, sumH_cons]; omega
            have := this l fun w hw => hz w (by simp [hw])
            omega
          | succ i =>
            have := ih i (fun w hw => hz w (by simp [hw])) (by simpa using h)
            omega
      have := hlo' ps i hx hi
      unfold shareL
      simp only
      omega
    obtain ⟨p, hp, hv⟩ := share_all ps t i x (shareL ps t x).2 hx hi hle (Int.le_refl _)
    exact (hat cs p (by rw [hp.len, hl])).1 (h p hp) i c _ hc hv
  · intro h p hp
    rw [hat cs p (by rw [hp.len, hl])]
    intro i c v hc hv
    obtain ⟨x, hxi⟩ : ∃ x, ps[i]? = some x := ⟨_, List.getElem?_eq_getElem (by rw [hl]; exact (List.getElem?_eq_some_iff.1 hc).1)⟩
    have h1 := share_in i x v hp hxi hv
    have h2 := h i x c hxi hc
    exact Int.le_trans (Int.mul_le_mul_of_nonneg_left h1.2 hw) h2
/-! Lifts in plain words: all partings, one by one. -/
def spanN (x : Int × Int) : List Int := (List.range (x.2 + 1 - x.1).toNat).map fun j : Nat => x.1 + (j : Int)
theorem mem_spanN {x : Int × Int} {v : Int} : v ∈ spanN x ↔ x.1 ≤ v ∧ v ≤ x.2 := by
  simp only [spanN, List.mem_map, List.mem_range]
  constructor
  · rintro ⟨j, hj, rfl⟩; omega
  · rintro ⟨h1, h2⟩; exact ⟨(v - x.1).toNat, by omega, by omega⟩
def partsR : List (Int × Int) → Int → List (List Int)
  | [], t => if t = 0 then [[]] else []
  | x :: l, t => (spanN x).flatMap fun v => (partsR l (t - v)).map (v :: ·)
theorem mem_partsR : ∀ {l : List (Int × Int)} {t : Int} {p : List Int}, p ∈ partsR l t ↔ Parting l t p
  | [], t, p => by
    unfold partsR
    constructor
    · intro h
      split at h
      · simp at h; subst h; rename_i e; subst e; exact .nil
      · simp at h
    · intro h
      cases h
      simp
  | x :: l, t, p => by
    unfold partsR
    rw [List.mem_flatMap]
    constructor
    · rintro ⟨v, hv, h⟩
      obtain ⟨q, hq, rfl⟩ := List.mem_map.1 h
      have := mem_spanN.1 hv
      exact .cons this.1 this.2 (mem_partsR.1 hq)
    · intro h
      cases h with
      | @cons _ _ _ v q h1 h2 h3 => exact ⟨v, mem_spanN.2 ⟨h1, h2⟩, List.mem_map.2 ⟨q, mem_partsR.2 h3, rfl⟩⟩
/-- What the specification's partings returns, behind some parts. -/
def partsF (ps : List (Int × Int)) (t : Int) (f : List Int) : List (List Int) := (partsR (ps.drop f.length) (t - f.sum)).map (f ++ ·)
theorem partsF_end {ps : List (Int × Int)} {t : Int} {f : List Int} (hl : f.length = ps.length) : partsF ps t f = if f.sum = t then [f] else [] := by
  unfold partsF
  rw [List.drop_eq_nil_of_le (by omega), partsR]
  by_cases e : f.sum = t
  · rw [if_pos e, if_pos (by omega)]; simp
  · rw [if_neg e, if_neg (by omega)]; rfl
theorem partsF_next {ps : List (Int × Int)} {t : Int} {f : List Int} {x : Int × Int} (hx : ps[f.length]? = some x) : partsF ps t f = (spanN x).flatMap fun v => partsF ps t (f ++ [v]) := by
  unfold partsF
  obtain ⟨hl, e⟩ := List.getElem?_eq_some_iff.1 hx
  rw [List.drop_eq_getElem_cons hl, e, partsR, List.map_flatMap]
  congr 1
  funext v
  rw [List.map_map, List.length_append, List.sum_append]
  simp only [List.length_singleton, List.sum_cons, List.sum_nil, Int.add_zero]
  rw [show t - (f.sum + v) = t - f.sum - v by omega]
  apply List.map_congr_left
  intro q _
  simp
theorem partsF_nil (ps : List (Int × Int)) (t : Int) : partsF ps t [] = partsR ps t := by
  unfold partsF
  simp
end Go.Proofs.Ytgjpllmmpclgaaa
