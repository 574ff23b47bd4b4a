import Derived.Test.YtmbcpmnigggbaaaLiC5
import Derived.Test.YtmbcpmnigggbaaaLiR3
namespace Go.Proofs.Ytmbcpmnigggbaaa.Li
open Go.RowKit

/-! slices.Contains 108, crews 104 and its closure 107. -/
/-- What Index returns. -/
def IdxPost (l : List Int) (x : Int) (w : World) (e : Ending) (w' : World) : Prop := ∃ r : Int, e = .returned (.int .i64 r) ∧ decide (0 ≤ r) = decide (x ∈ l) ∧ w = w'
set_option maxRecDepth 100000 in
theorem index_any (l : List Int) (x : Int) (A : Option Addr) (c : Nat) (hl : l.length ≤ 1000) (w : World) (hI : IntsAt w w.heap.size A l) : Calls Try.prog 198 #[.slice A l.length c, .int .i64 x] w (IdxPost l x w) := by
  have HI := Lib.hid hI
  clear hI
  go_enter Try.func198, Try.ntmps198
  go_wp2_with (fail)
  go_loop [8] (fun i => ∃ k : Nat, k ≤ l.length ∧ i = .int .i64 k ∧ Hid (¬ x ∈ l.take k)) (fun i => l.length - (intOf i).toNat)
  case atStart => exact ⟨0, Nat.zero_le _, rfl, Lib.hid (by simp)⟩
  case round =>
    obtain ⟨k, hk, rfl, hno⟩ := hrel
    by_cases hlt : k < l.length
    · obtain ⟨j, hj⟩ : ∃ j, l[k]? = some j := ⟨_, List.getElem?_eq_getElem hlt⟩
      obtain ⟨bi, oi, eA, blt, d1⟩ := HI.out.at_ hj
      have HJ := Lib.hid hj
      subst eA
      clear hj
      by_cases hx : x = j
      · have hxb : (x == j) = true := by simpa using hx
        have HM := Lib.hid (show x ∈ l by rw [hx]; exact List.mem_of_getElem? HJ.out)
        clear hx
        go_wp2_with (fail)
        go_ret
        exact ⟨k, rfl, by rw [decide_eq_true HM.out]; exact decide_eq_true (by omega), rfl⟩
      · have hxb : (x == j) = false := by simpa using hx
        have HN := Lib.hid (show ¬ x ∈ l.take (k + 1) by
          rw [List.take_add_one, HJ.out]
          simp only [List.mem_append, Option.toList_some, List.mem_singleton, not_or]
          exact ⟨hno.out, hx⟩)
        clear hx
        go_wp2_with (fail)
        go_round
        case rel => exact ⟨k + 1, by omega, by go_num, HN⟩
        case measure => simp [intOf]; omega
    · obtain rfl : k = l.length := by omega
      have HN := Lib.hid (show ¬ x ∈ l by have := hno.out; rwa [List.take_length] at this)
      go_wp2_with (fail)
      go_ret
      exact ⟨-1, rfl, by rw [decide_eq_false HN.out]; rfl, rfl⟩
theorem contains_any (l : List Int) (x : Int) (A : Option Addr) (c : Nat) (hl : l.length ≤ 1000) (w : World) (hI : IntsAt w w.heap.size A l) : Calls Try.prog 177 #[.slice A l.length c, .int .i64 x] w fun e w' => e = .returned (.bool (decide (x ∈ l))) ∧ w = w' := by
  have H := Lib.hid (index_any l x A c hl w hI)
  clear hI
  go_enter Try.func177, Try.ntmps177
  go_wp2_with (go_at_call 198; refine H.out.mono ?_; rintro e w' ⟨r, rfl, hr, rfl⟩; have HR := Lib.hid hr; clear hr)
  go_ret
  exact ⟨by rw [← HR.out]; rfl, rfl⟩

theorem yieldAt_wide {P : Program} {m m' l : Nat} {args : Array Value} {W : World} {R : Ending → World → Prop} (h : YieldAt Fence.wide m P l args W R) : YieldAt Fence.wide m' P l args W R := by
  obtain ⟨fn, tmps, assign, body, hy, h1, h2⟩ := h
  exact ⟨fn, tmps, assign, body, hy, h1, fun c cs _ => h2 c cs (room_wide _)⟩

/-- The memory of crews: the boxes of the sea, of yield, of the closure; the sea at work. -/
structure CrewSt (W : World) (B0 B1 B2 l b : Nat) (L : SL) (s : Sea) : Prop where
  s0 : W.cell? ⟨B0, 0, none⟩ = some (.pointer (some ⟨b, 0, none⟩))
  y0 : W.cell? ⟨B1, 0, none⟩ = some (.func (.yield l) #[] #[])
  f0 : W.cell? ⟨B2, 0, none⟩ = some (.func (.func 176) #[] #[.pointer (some ⟨B0, 0, none⟩), .pointer (some ⟨B1, 0, none⟩), .pointer (some ⟨B2, 0, none⟩)])
  w0 : WBox W b L s (shares s)
theorem CrewSt.kp {W W' : World} {B0 B1 B2 l b : Nat} {L : SL} {s : Sea} (h : CrewSt W B0 B1 B2 l b L s) {S : Nat → Prop} (hk : KpB S W.heap.size W W') (h0 : ¬ S B0) (h1 : ¬ S B1) (h2 : ¬ S B2) (h3 : ¬ S b) : CrewSt W' B0 B1 B2 l b L s :=
  ⟨(hk.cell (cell_lt h.s0) h0).trans h.s0, (hk.cell (cell_lt h.y0) h1).trans h.y0, (hk.cell (cell_lt h.f0) h2).trans h.f0, h.w0.of (hk.block _ h.w0.lt h3)⟩
theorem CrewSt.below {W W' : World} {B0 B1 B2 l b : Nat} {L : SL} {s : Sea} (h : CrewSt W B0 B1 B2 l b L s) (hb : Below W.heap.size W W') : CrewSt W' B0 B1 B2 l b L s :=
  h.kp (S := fun _ => False) (kpB_of_below hb) (fun h => h) (fun h => h) (fun h => h) (fun h => h)
/-- The numbers l, in memory from B on. -/
def IntsFrom (W : World) (B : Nat) (A : Option Addr) (l : List Int) : Prop := (A = none ∧ l = []) ∨ ∃ b off, A = some ⟨b, off, none⟩ ∧ B ≤ b ∧ b < W.heap.size ∧ ∀ i x, l[i]? = some x → W.cell? ⟨b, off + i, none⟩ = some (.int .i64 x)
theorem IntsFrom.ints {W : World} {B : Nat} {A : Option Addr} {l : List Int} (h : IntsFrom W B A l) : IntsAt W W.heap.size A l := by
  rcases h with ⟨_, h⟩ | ⟨b, off, h1, _, h2, h3⟩
  · exact .inl h
  · exact .inr ⟨b, off, h1, h2, h3⟩
theorem IntsFrom.kp {W W' : World} {B : Nat} {A : Option Addr} {l : List Int} (h : IntsFrom W B A l) {S : Nat → Prop} (hk : KpB S W.heap.size W W') (hS : ∀ k, B ≤ k → ¬ S k) : IntsFrom W' B A l := by
  rcases h with h | ⟨b, off, h1, h0, h2, h3⟩
  · exact .inl h
  · exact .inr ⟨b, off, h1, h0, Nat.lt_of_lt_of_le h2 hk.size, fun i x hx => (hk.cell h2 (hS b h0)).trans (h3 i x hx)⟩
theorem IntsFrom.below {W W' : World} {B : Nat} {A : Option Addr} {l : List Int} (h : IntsFrom W B A l) (hb : Below W.heap.size W W') : IntsFrom W' B A l :=
  h.kp (S := fun _ => False) (kpB_of_below hb) (fun _ _ h => h)
/-- What crews hands over. -/
def SeesC (B : Nat) (x : List Int) (args : Array Value) (X : World) : Prop := ∃ A c, args = #[.slice A x.length c] ∧ IntsFrom X B A x ∧ x.length ≤ c
theorem SeesC.kept {B : Nat} {x : List Int} {args : Array Value} {X Y : World} (hs : SeesC B x args X) (hk : KpB (fun k => k < B) X.heap.size X Y) : SeesC B x args Y := by
  obtain ⟨A, c, h1, h2, h3⟩ := hs
  exact ⟨A, c, h1, h2.kp hk (fun k hk h => by omega), h3⟩
/-- All crews that begin with some boats, n more to choose from nb. -/
def crewsR (nb : Nat) : Nat → List Int → List (List Int)
  | 0, f => [f]
  | n + 1, f => (List.range nb).flatMap fun b : Nat => if (b : Int) ∈ f then [] else crewsR nb n (f ++ [(b : Int)])
/-- Those of them whose next boat is below k. -/
def crewsTo (nb n : Nat) (f : List Int) (k : Nat) : List (List Int) := (List.range k).flatMap fun b : Nat => if (b : Int) ∈ f then [] else crewsR nb n (f ++ [(b : Int)])
theorem crewsTo_zero (nb n : Nat) (f : List Int) : crewsTo nb n f 0 = [] := rfl
theorem crewsTo_succ (nb n : Nat) (f : List Int) (k : Nat) : crewsTo nb n f (k + 1) = crewsTo nb n f k ++ if (k : Int) ∈ f then [] else crewsR nb n (f ++ [(k : Int)]) := by
  unfold crewsTo; rw [List.range_succ, List.flatMap_append]; simp
theorem crewsTo_all (nb n : Nat) (f : List Int) : crewsTo nb n f nb = crewsR nb (n + 1) f := rfl
theorem crewsTo_pre (nb n : Nat) (f : List Int) {k m : Nat} (h : k ≤ m) : crewsTo nb n f k <+: crewsTo nb n f m := by
  obtain ⟨d, rfl⟩ : ∃ d, m = k + d := ⟨m - k, by omega⟩
  clear h
  induction d with
  | zero => exact List.prefix_rfl
  | succ d ih => rw [← Nat.add_assoc, crewsTo_succ]; exact ih.trans (List.prefix_append _ _)
/-- How the closure returns. -/
def FromPost (S : Nat → Prop) (xs : List (List Int)) (J Jx : List (List Int) → World → Prop) (all : List (List Int)) (X : World) (e : Ending) (X' : World) : Prop :=
  ∃ v : Bool, e = .returned (.bool v) ∧ KpB S X.heap.size X X' ∧ ((v = true ∧ J all X') ∨ (v = false ∧ ∃ pre, pre <+: xs ∧ Jx pre X'))
/-! Crews: lists of boats without repeats, the least one first. -/
/-- A list of boats without repeats. -/
def CrewOf (nb n : Nat) (c : List Int) : Prop := c.length = n ∧ (∀ x ∈ c, 0 ≤ x ∧ x < nb) ∧ c.Nodup
theorem mem_crewsR {nb : Nat} : ∀ {n : Nat} {f c : List Int}, f.Nodup → (c ∈ crewsR nb n f ↔ ∃ t, c = f ++ t ∧ t.length = n ∧ (∀ x ∈ t, 0 ≤ x ∧ x < nb) ∧ c.Nodup)
  | 0, f, c, hf => by
    simp only [crewsR, List.mem_singleton]
    constructor
    · rintro rfl; exact ⟨[], by simp, rfl, by simp, hf⟩
    · rintro ⟨t, rfl, h, _⟩
      rw [List.length_eq_zero_iff.1 h, List.append_nil]
  | n + 1, f, c, hf => by
    simp only [crewsR, List.mem_flatMap, List.mem_range]
    constructor
    · rintro ⟨b, hb, h⟩
      split at h
      · simp at h
      · rename_i hn
        have hf' : (f ++ [(b : Int)]).Nodup := by
          rw [List.nodup_append]
          refine ⟨hf, by simp, ?_⟩
          intro x hx y hy
          simp at hy
          subst hy
          intro e
          subst e
          exact hn hx
        obtain ⟨t, rfl, h1, h2, h3⟩ := (mem_crewsR hf').1 h
        refine ⟨(b : Int) :: t, by simp, by simp [h1], ?_, h3⟩
        intro x hx
        rcases List.mem_cons.1 hx with rfl | hx
        · omega
        · exact h2 x hx
    · rintro ⟨t, rfl, h1, h2, h3⟩
      match t, h1, h2, h3 with
      | y :: t, h1, h2, h3 =>
        have hy := h2 y (by simp)
        obtain ⟨b, rfl⟩ : ∃ b : Nat, y = b := ⟨y.toNat, by omega⟩
        have hn : ¬ (b : Int) ∈ f := by
          rw [List.nodup_append] at h3
          intro hm
          exact h3.2.2 _ hm (b : Int) (by simp) rfl
        have e : f ++ (b : Int) :: t = (f ++ [(b : Int)]) ++ t := by simp
        refine ⟨b, by omega, ?_⟩
        rw [if_neg hn]
        have hf' : (f ++ [(b : Int)]).Nodup := by
          rw [e] at h3
          exact (List.nodup_append.1 h3).1
        refine (mem_crewsR hf').2 ⟨t, e, by simpa using h1, fun x hx => h2 x (by simp [hx]), h3⟩
theorem mem_crews {nb n : Nat} {c : List Int} : c ∈ crewsR nb n [] ↔ CrewOf nb n c := by
  rw [mem_crewsR (by simp)]
  unfold CrewOf
  constructor
  · rintro ⟨t, rfl, h⟩; simpa using h
  · intro h; exact ⟨c, by simp, h⟩
/-! Lifts in plain words: the best of a list of lists. -/
/-- The first of the lists with the least number, of those for which something holds; and this number. -/
def cheapStep (ok : List Int → Bool) (f : List Int → Int) (b : Option (List Int × Int)) (c : List Int) : Option (List Int × Int) :=
  if ok c then match b with
    | none => some (c, f c)
    | some (q, n) => if f c < n then some (c, f c) else some (q, n)
  else b
def cheapL (ok : List Int → Bool) (f : List Int → Int) (l : List (List Int)) : Option (List Int × Int) := l.foldl (cheapStep ok f) none
theorem cheapL_snoc (ok : List Int → Bool) (f : List Int → Int) (l : List (List Int)) (c : List Int) : cheapL ok f (l ++ [c]) = cheapStep ok f (cheapL ok f l) c := by simp [cheapL]
theorem cheapL_none {ok : List Int → Bool} {f : List Int → Int} : ∀ l, cheapL ok f l = none ↔ ∀ c ∈ l, ok c = false := fun l => by
  refine snoc_ind (P := fun l => cheapL ok f l = none ↔ ∀ c ∈ l, ok c = false) (by simp [cheapL]) (fun l x ih => ?_) l
  rw [cheapL_snoc]
  unfold cheapStep
  by_cases hx : ok x = true
  · rw [if_pos hx]
    constructor
    · intro h
      cases hb : cheapL ok f l with
      | none => rw [hb] at h; simp at h
      | some q =>
        obtain ⟨q, n⟩ := q
        rw [hb] at h
        simp only at h
        split at h <;> simp at h
    · intro h
      have := h x (by simp)
      rw [hx] at this; cases this
  · rw [if_neg hx, ih]
    simp only [List.mem_append, List.mem_singleton]
    constructor
    · rintro h c (hc | rfl)
      · exact h c hc
      · simpa using hx
    · exact fun h c hc => h c (.inl hc)
theorem cheapL_some {ok : List Int → Bool} {f : List Int → Int} : ∀ (l : List (List Int)) (c : List Int) (n : Int), cheapL ok f l = some (c, n) → c ∈ l ∧ ok c = true ∧ n = f c ∧ (∀ q ∈ l, ok q = true → n ≤ f q) ∧ ∃ a b, l = a ++ c :: b ∧ ∀ q ∈ a, ok q = true → n < f q := fun l => by
  refine snoc_ind (P := fun l => ∀ (c : List Int) (n : Int), cheapL ok f l = some (c, n) → c ∈ l ∧ ok c = true ∧ n = f c ∧ (∀ q ∈ l, ok q = true → n ≤ f q) ∧ ∃ a b, l = a ++ c :: b ∧ ∀ q ∈ a, ok q = true → n < f q) (fun c n h => by simp [cheapL] at h) (fun l x ih c n h => ?_) l
  rw [cheapL_snoc] at h
  unfold cheapStep at h
  by_cases hx : ok x = true
  · rw [if_pos hx] at h
    cases hb : cheapL ok f l with
    | none =>
      rw [hb] at h
      simp only [Option.some.injEq, Prod.mk.injEq] at h
      obtain ⟨rfl, rfl⟩ := h
      have hn := (cheapL_none l).1 hb
      refine ⟨by simp, hx, rfl, fun q hq hok => ?_, l, [], by simp, fun q hq hok => by rw [hn q hq] at hok; cases hok⟩
      rcases List.mem_append.1 hq with hq | hq
      · rw [hn q hq] at hok; cases hok
      · simp at hq; subst hq; exact Int.le_refl _
    | some qn =>
      obtain ⟨q0, n0⟩ := qn
      rw [hb] at h
      obtain ⟨h1, h2, h3, h4, a, b, h5, h6⟩ := ih q0 n0 hb
      simp only at h
      by_cases hlt : f x < n0
      · rw [if_pos hlt] at h
        simp only [Option.some.injEq, Prod.mk.injEq] at h
        obtain ⟨rfl, rfl⟩ := h
        refine ⟨by simp, hx, rfl, fun q hq hok => ?_, l, [], by simp, fun q hq hok => by have := h4 q hq hok; omega⟩
        rcases List.mem_append.1 hq with hq | hq
        · have := h4 q hq hok; omega
        · simp at hq; subst hq; exact Int.le_refl _
      · rw [if_neg hlt] at h
        simp only [Option.some.injEq, Prod.mk.injEq] at h
        obtain ⟨rfl, rfl⟩ := h
        refine ⟨by simp [h1], h2, h3, fun q hq hok => ?_, a, b ++ [x], by rw [h5]; simp, h6⟩
        rcases List.mem_append.1 hq with hq | hq
        · exact h4 q hq hok
        · simp at hq; subst hq; omega
  · rw [if_neg hx] at h
    obtain ⟨h1, h2, h3, h4, a, b, h5, h6⟩ := ih c n h
    refine ⟨by simp [h1], h2, h3, fun q hq hok => ?_, a, b ++ [x], by rw [h5]; simp, h6⟩
    rcases List.mem_append.1 hq with hq | hq
    · exact h4 q hq hok
    · simp at hq; subst hq; exact absurd hok hx
/-- What may hang at a place, so that its boat is not over its load. -/
def capX (w : Int) (x : Int × Int) (c : Int) : Int × Int := (x.1, if 0 < w then min x.2 (12 * c / w) else x.2)
def capL (w : Int) (ps : List (Int × Int)) (cs : List Int) : List (Int × Int) := List.zipWith (capX w) ps cs
end Go.Proofs.Ytmbcpmnigggbaaa.Li
