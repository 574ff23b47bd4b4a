import Derived.Test.YtmbcpmnigggbaaaLiM5
import Derived.RangeFuncNested
import Derived.RangeFuncLeaves
import Derived.RangeFuncCalls
import Derived.WalkKit
import Derived.Deep.Quiet
import Derived.Deep.QuietTactic
import Derived.OrdersIn
import Derived.BigQuiet
import Derived.WalkSpells
import Derived.BigRegion
import Derived.Below
import Derived.Lib.Hide
import Derived.TacticsInMore
import Derived.LoopNIn
import Derived.LoopIn
import Derived.OwnWalk
import Derived.OwnWalkIn
import Derived.Test.YtmbcpmnigggbaaaProg
import Derived.Deep.RegionHeld3
import Derived.Deep.RegionWith
import Derived.Deep.MidRow
import Derived.KernelRfl
import Derived.Deep.DeepMust
namespace Go.Proofs.Ytmbcpmnigggbaaa.Li
open Go.RowKit
theorem Parting.bd {l : List (Int × Int)} {t : Int} {p : List Int} (h : Parting l t p) : sumL l ≤ t ∧ t ≤ sumH l := by
  induction h with
  | nil => simp [sumL, sumH]
  | cons h1 h2 _ ih => rw [sumL_cons, sumH_cons]; omega
/-- Whatever lies between the sums can be parted. -/
theorem fill : ∀ (l : List (Int × Int)) (t : Int), (∀ x ∈ l, x.1 ≤ x.2) → sumL l ≤ t → t ≤ sumH l → ∃ p, Parting l t p
  | [], t, _, h1, h2 => by
    simp [sumL, sumH] at h1 h2
    obtain rfl : t = 0 := by omega
    exact ⟨[], .nil⟩
  | x :: l, t, hx, h1, h2 => by
    rw [sumL_cons] at h1
    rw [sumH_cons] at h2
    have hxx := hx x (by simp)
    have hle : sumL l ≤ sumH l := by
      have : ∀ l : List (Int × Int), (∀ x ∈ l, x.1 ≤ x.2) → sumL l ≤ sumH l := fun l => by
        induction l with
        | nil => intro _; simp [sumL, sumH]
        | cons y l ih =>
          intro h
          have := ih fun z hz => h z (by simp [hz])
          have := h y (by simp)
          rw [sumL_cons, sumH_cons]; omega
      exact this l fun y hy => hx y (by simp [hy])
    have hv : ∃ v, x.1 ≤ v ∧ v ≤ x.2 ∧ sumL l ≤ t - v ∧ t - v ≤ sumH l := by
      by_cases h3 : t - x.1 ≤ sumH l
      · exact ⟨x.1, by omega, by omega, by omega, h3⟩
      · exact ⟨t - sumH l, by omega, by omega, by omega, by omega⟩
    obtain ⟨v, v1, v2, v3, v4⟩ := hv
    obtain ⟨p, hp⟩ := fill l (t - v) (fun y hy => hx y (by simp [hy])) v3 v4
    exact ⟨v :: p, .cons v1 v2 hp⟩
theorem share_in : ∀ {l : List (Int × Int)} {t : Int} {p : List Int} (i : Nat) (x : Int × Int) (v : Int), Parting l t p → l[i]? = some x → p[i]? = some v → (shareL l t x).1 ≤ v ∧ v ≤ (shareL l t x).2
  | _, _, _, 0, x, v, .cons h1 h2 h3, hx, hv => by
    simp at hx hv
    subst hx hv
    have := h3.bd
    unfold shareL
    rw [sumL_cons, sumH_cons]
    simp only
    omega
  | _, _, _, i + 1, x, v, .cons (x := y) h1 h2 h3, hx, hv => by
    have := share_in i x v h3 (by simpa using hx) (by simpa using hv)
    unfold shareL at this ⊢
    rw [sumL_cons, sumH_cons]
    simp only at this ⊢
    omega
/-- No boat is over its load (carries, parts). -/
def fitsW (w : Int) : List Int → List Int → Prop
  | c :: cs, v :: vs => w * v ≤ 12 * c ∧ fitsW w cs vs
  | _, _ => True
theorem cap_iff {w : Int} (hw : 0 ≤ w) {x : Int × Int} {c v : Int} (hc : 0 ≤ c) : (v ≤ x.2 ∧ w * v ≤ 12 * c) ↔ v ≤ (capX w x c).2 := by
  unfold capX
  by_cases h : 0 < w
  · simp only [if_pos h]
    have := Int.le_ediv_iff_mul_le (a := v) (b := 12 * c) h
    rw [Int.mul_comm v w] at this
    omega
  · simp only [if_neg h]
    obtain rfl : w = 0 := by omega
    simp; omega
theorem parting_cap {w : Int} (hw : 0 ≤ w) : ∀ (ps : List (Int × Int)) (cs : List Int) (t : Int) (p : List Int), ps.length = cs.length → (∀ c ∈ cs, 0 ≤ c) → ((Parting ps t p ∧ fitsW w cs p) ↔ Parting (capL w ps cs) t p)
  | [], [], t, p, _, _ => by
    constructor
    · rintro ⟨h, _⟩; cases h; exact .nil
    · intro h; cases h; exact ⟨.nil, trivial⟩
  | x :: ps, c :: cs, t, p, hl, hc => by
    have ih := fun t p => parting_cap hw ps cs t p (by simpa using hl) (fun y hy => hc y (by simp [hy]))
    have hx := fun v => cap_iff hw (x := x) (c := c) (v := v) (hc c (by simp))
    constructor
    · rintro ⟨h, hf⟩
      cases h with
      | cons h1 h2 h3 => exact .cons h1 ((hx _).1 ⟨h2, hf.1⟩) ((ih _ _).1 ⟨h3, hf.2⟩)
    · intro h
      cases h with
      | cons h1 h2 h3 =>
        obtain ⟨h4, h5⟩ := (hx _).2 h2
        obtain ⟨h6, h7⟩ := (ih _ _).2 h3
        exact ⟨.cons h1 h4 h6, h5, h7⟩
/-- In some truth no boat is over its load. -/
theorem perhaps_iff {w : Int} (hw : 0 ≤ w) {ps : List (Int × Int)} {cs : List Int} {t : Int} (hl : ps.length = cs.length) (hc : ∀ c ∈ cs, 0 ≤ c) (hlo : sumL ps ≤ t) :
    (∃ p, Parting ps t p ∧ fitsW w cs p) ↔ (∀ x ∈ capL w ps cs, x.1 ≤ x.2) ∧ t ≤ sumH (capL w ps cs) := by
  have e : sumL (capL w ps cs) = sumL ps := by
    have : ∀ (ps : List (Int × Int)) (cs : List Int), ps.length = cs.length → sumL (capL w ps cs) = sumL ps := fun ps => by
      induction ps with
      | nil => intro cs _; cases cs <;> rfl
      | cons x ps ih =>
        intro cs h
        match cs, h with
        | c :: cs, h =>
          show sumL (capX w x c :: capL w ps cs) = _
          rw [sumL_cons, sumL_cons, ih cs (by simpa using h)]; rfl
    exact this ps cs hl
  constructor
  · rintro ⟨p, hp⟩
    have h := (parting_cap hw ps cs t p hl hc).1 hp
    refine ⟨?_, h.bd.2⟩
    have : ∀ {l : List (Int × Int)} {t : Int} {p : List Int}, Parting l t p → ∀ x ∈ l, x.1 ≤ x.2 := fun {l t p} h => by
      induction h with
      | nil => intro x hx; simp at hx
      | cons h1 h2 _ ih =>
        intro x hx
        rcases List.mem_cons.1 hx with rfl | hx
        · omega
        · exact ih x hx
    exact this h
  · rintro ⟨h1, h2⟩
    obtain ⟨p, hp⟩ := fill (capL w ps cs) t h1 (by rw [e]; exact hlo) h2
    exact ⟨p, (parting_cap hw ps cs t p hl hc).2 hp⟩
theorem parting_in {ps : List (Int × Int)} {t : Int} {p : List Int} (h : Parting ps t p) : ∀ {k : Nat} {v : Int}, p[k]? = some v → ∃ x, ps[k]? = some x ∧ x.1 ≤ v ∧ v ≤ x.2 := by
  induction h with
  | nil => intro k v hv; simp at hv
  | cons h1 h2 _ ih =>
    intro k v hv
    cases k with
    | zero =>
      simp at hv
      subst hv
      exact ⟨_, rfl, h1, h2⟩
    | succ k =>
      obtain ⟨x, hx, h3⟩ := ih (k := k) (v := v) (by simpa using hv)
      exact ⟨x, by simpa using hx, h3⟩
theorem safeN_cases (s : Sea) (c : List Int) : (safeN s c = 1 ∧ safeC s c = true) ∨ (safeN s c = 2 ∧ safeC s c = false ∧ neverB s c = true) ∨ (safeN s c = 3 ∧ safeC s c = false) := by
  unfold safeN
  cases h : safeC s c
  · cases h2 : neverB s c
    · right; right; simp
    · right; left; simp
  · left; simp
/-- A crew that never holds does not surely hold. -/
theorem never_safe {s : Sea} (hS : SOK s) {c : List Int} (hc : CrewOf s.bs.length s.ps.length c) (h : neverB s c = true) : safeC s c = false := by
  cases hs : safeC s c
  · rfl
  · exfalso
    obtain ⟨p, hp⟩ := fill s.ps 12 (fun x hx => (hS.p x hx).2.1) hS.lo hS.hi
    have hl : c.length = p.length := by rw [hp.len, hc.1]
    have hw0 := hS.w0
    have hw1 := hS.w1
    have hfit : ∀ (k : Nat) (j v : Int), c[k]? = some j → p[k]? = some v → s.wl * v ≤ 12 * carryN s j.toNat := fun k j v hj hv => by
      obtain ⟨x, hx, v0, v1⟩ := parting_in hp hv
      have hkl := (List.getElem?_eq_some_iff.1 hj).1
      have hn := safe_at hs hj
      have hsh := share_in k x v hp hx hv
      have hb := shares_bd hS (show k < s.ps.length by rw [← hc.1]; exact hkl)
      rw [← shares_at hx] at hsh
      have h2 : s.wh * (shares s k).2 ≤ 12 * carryN s j.toNat := (need_iff _).2 hn
      have hx0 := (hS.p x (List.mem_of_getElem? hx)).1
      have h3 : s.wl * v ≤ s.wh * v := Int.mul_le_mul_of_nonneg_right hw1 (by omega)
      have h4 : s.wh * v ≤ s.wh * (shares s k).2 := Int.mul_le_mul_of_nonneg_left hsh.2 (by omega)
      omega
    have hf : fitsW s.wl (carriesL s c) p := by
      have key : ∀ (c p : List Int), c.length = p.length → (∀ (k : Nat) (j v : Int), c[k]? = some j → p[k]? = some v → s.wl * v ≤ 12 * carryN s j.toNat) → fitsW s.wl (carriesL s c) p := by
        intro c
        induction c with
        | nil => intro p hl _; cases p <;> trivial
        | cons a c ih =>
          intro p hl hk
          cases p with
          | nil => simp at hl
          | cons v p => exact ⟨hk 0 a v rfl rfl, ih p (by simpa using hl) (fun k j w hj hw => hk (k + 1) j w (by simpa using hj) (by simpa using hw))⟩
      exact key c p hl hfit
    have hcap := (perhaps_iff hS.w0 (ps := s.ps) (cs := carriesL s c) (t := 12) (by simp [carriesL, hc.1]) (fun y hy => by
      unfold carriesL at hy
      obtain ⟨j, _, rfl⟩ := List.mem_map.1 hy
      exact carry_nn hS _) hS.lo).1 ⟨p, hp, hf⟩
    unfold neverB at h
    rw [Bool.not_eq_true', Bool.and_eq_false_iff] at h
    rcases h with h | h
    · rw [List.all_eq_false] at h
      obtain ⟨x, hx, hx2⟩ := h
      exact hx2 (decide_eq_true (hcap.1 x hx))
    · exact absurd hcap.2 (of_decide_eq_false h)
/-- The sea with another catch. -/
abbrev setW (s : Sea) (a b : Int) : Sea := { s with wl := a, wh := b }
theorem setW_lift (s : Sea) (a b : Int) (c : List Int) : liftS (setW s a b) c = liftS s c := rfl
theorem setW_most (s : Sea) (a b : Int) : mostS (setW s a b) = mostS s := rfl
theorem setW_cost (s : Sea) (a b : Int) (c : List Int) : costS (setW s a b) c = costS s c := rfl
theorem setW_ok {s : Sea} (hS : SOK s) {a b : Int} (h0 : 0 ≤ a) (h1 : a ≤ b) (h2 : b ≤ 2000) : SOK (setW s a b) := ⟨h0, h1, h2, hS.pl, hS.bl, hS.p, hS.b, hS.lo, hS.hi⟩
theorem setW_valid {s : Sea} (hv : validS s = true) {a b : Int} (h0 : 0 ≤ a) (h1 : a ≤ b) (h2 : b ≤ 2000) : validS (setW s a b) = true := by
  unfold validS bigS spanOK at hv ⊢
  simp only [Bool.and_eq_true, decide_eq_true_eq, inR_true, List.all_eq_true] at hv ⊢
  obtain ⟨⟨⟨_, _⟩, h3, h4⟩, h5, h6, h7⟩ := hv
  exact ⟨⟨⟨⟨h0, h1⟩, h2⟩, h3, h4⟩, h5, h6, h7⟩
theorem max_le (f : List Int → Int) : ∀ (l : List (List Int)) (n : Int), n ≤ l.foldl (fun n c => max n (f c)) n ∧ (∀ c ∈ l, f c ≤ l.foldl (fun n c => max n (f c)) n) ∧ (l.foldl (fun n c => max n (f c)) n = n ∨ ∃ c ∈ l, f c = l.foldl (fun n c => max n (f c)) n)
  | [], n => ⟨Int.le_refl _, fun c hc => (by cases hc), .inl rfl⟩
  | a :: l, n => by
    obtain ⟨h1, h2, h3⟩ := max_le f l (max n (f a))
    rw [List.foldl_cons]
    refine ⟨by omega, fun c hc => ?_, ?_⟩
    · rcases List.mem_cons.1 hc with rfl | hc
      · omega
      · exact h2 c hc
    · rcases h3 with h3 | ⟨c, hc, h3⟩
      · rw [h3]
        by_cases hna : f a ≤ n
        · exact .inl (Int.max_eq_left hna)
        · exact .inr ⟨a, by simp, (Int.max_eq_right (by omega)).symm⟩
      · exact .inr ⟨c, by simp [hc], h3⟩
theorem lift_most {s : Sea} {c : List Int} (hc : CrewOf s.bs.length s.ps.length c) : liftS s c ≤ mostS s := (max_le (liftS s) _ (-1)).2.1 c (mem_crews.2 hc)
theorem lift_nn {s : Sea} (hS : SOK s) {c : List Int} (hc : CrewOf s.bs.length s.ps.length c) : 0 ≤ liftS s c := by
  rw [lift_le (by omega)]
  intro k j hj
  have hkl := (List.getElem?_eq_some_iff.1 hj).1
  have hb := shares_bd hS (show k < s.ps.length by rw [← hc.1]; exact hkl)
  rw [holds_iff hb.1 (by omega) (carry_nn hS _)]
  have := carry_nn hS j.toNat
  omega
theorem cheap_most2 {s : Sea} (hS : SOK s) : cheapS s = none ↔ mostS s < s.wh := by
  have hw := hS.w0
  have hw1 := hS.w1
  unfold cheapS
  rw [cheapL_none]
  constructor
  · intro h
    rcases (max_le (liftS s) (crewsR s.bs.length s.ps.length []) (-1)).2.2 with h1 | ⟨c, hc, h1⟩
    · show (crewsR s.bs.length s.ps.length []).foldl _ (-1) < s.wh
      omega
    · have h2 := h c hc
      rw [safe_lift hS (mem_crews.1 hc), decide_eq_false_iff_not] at h2
      show (crewsR s.bs.length s.ps.length []).foldl _ (-1) < s.wh
      omega
  · intro h c hc
    have := lift_most (mem_crews.1 hc)
    rw [safe_lift hS (mem_crews.1 hc)]
    exact decide_eq_false (by omega)
theorem pence_nn {s : Sea} (hS : SOK s) (j : Nat) : 0 ≤ penceN s j := by
  unfold penceN
  rw [List.getD_eq_getElem?_getD]
  cases h : s.bs[j]? with
  | none => exact Int.le_refl _
  | some x => exact (hS.b x (List.mem_of_getElem? h)).2.2.1
theorem cost_nn {s : Sea} (hS : SOK s) (c : List Int) : 0 ≤ costS s c := by
  unfold costS costTo
  have : ∀ l : List Int, 0 ≤ (l.map fun b => penceN s b.toNat).sum := fun l => by
    induction l with
    | nil => exact Int.le_refl _
    | cons a l ih => have := pence_nn hS a.toNat; simp only [List.map_cons, List.sum_cons]; omega
  exact this _
/-- What the boats know of a sea, and of one in which the weight can be more different. -/
theorem haul_safe {s : Sea} (hS : SOK s) {a n b : Int} (h0 : 0 ≤ a) (h1 : a ≤ n) (h2 : n ≤ b) (h3 : b ≤ 2000) {c : List Int} (hc : CrewOf s.bs.length s.ps.length c) : (safeN (setW s a b) c = 1 → safeN (setW s n n) c = 1) ∧ (safeN (setW s a b) c = 2 → safeN (setW s n n) c = 2) := by
  have hA := setW_ok hS h0 (by omega : a ≤ b) h3
  have hN := setW_ok hS (by omega : 0 ≤ n) (Int.le_refl n) (by omega)
  have e1 : safeC (setW s a b) c = decide (b ≤ liftS s c) := safe_lift hA hc
  have e2 : safeC (setW s n n) c = decide (n ≤ liftS s c) := safe_lift hN hc
  constructor
  · intro h
    rcases safeN_cases (setW s a b) c with ⟨_, h5⟩ | ⟨h4, _⟩ | ⟨h4, _⟩
    · rw [e1, decide_eq_true_eq] at h5
      unfold safeN
      rw [e2, decide_eq_true (by omega)]
      rfl
    · omega
    · omega
  · intro h
    rcases safeN_cases (setW s a b) c with ⟨h4, _⟩ | ⟨_, h5, h6⟩ | ⟨h4, _⟩
    · omega
    · have hcap : ∀ (x : Int × Int) (j : Int), 0 ≤ j → (capX n x j).1 = (capX a x j).1 ∧ (capX n x j).2 ≤ (capX a x j).2 := fun x j hj => by
        refine ⟨rfl, ?_⟩
        unfold capX
        by_cases ha : 0 < a
        · rw [if_pos ha, if_pos (by omega)]
          have : 12 * j / n ≤ 12 * j / a := by
            rw [Int.le_ediv_iff_mul_le ha]
            have e : 12 * j / n * a ≤ 12 * j / n * n := Int.mul_le_mul_of_nonneg_left h1 (Int.ediv_nonneg (by omega) (by omega))
            have e2 : 12 * j / n * n ≤ 12 * j := Int.ediv_mul_le _ (by omega)
            omega
          simp only
          omega
        · rw [if_neg ha]
          split <;> (simp only; omega)
      have hall : ∀ (ps : List (Int × Int)) (cs : List Int), (∀ y ∈ cs, 0 ≤ y) → (((capL n ps cs).all loHi = true → (capL a ps cs).all loHi = true) ∧ sumH (capL n ps cs) ≤ sumH (capL a ps cs)) := by
        intro ps
        induction ps with
        | nil => intro cs _; cases cs <;> exact ⟨fun h => h, Int.le_refl _⟩
        | cons x ps ih =>
          intro cs hcs
          cases cs with
          | nil => exact ⟨fun h => h, Int.le_refl _⟩
          | cons j cs =>
            obtain ⟨i1, i2⟩ := ih cs (fun y hy => hcs y (by simp [hy]))
            obtain ⟨c1, c2⟩ := hcap x j (hcs j (by simp))
            show (((capX n x j :: capL n ps cs).all loHi = true → (capX a x j :: capL a ps cs).all loHi = true) ∧ sumH (capX n x j :: capL n ps cs) ≤ sumH (capX a x j :: capL a ps cs))
            rw [sumH_cons, sumH_cons]
            refine ⟨fun h => ?_, by omega⟩
            rw [List.all_cons, Bool.and_eq_true] at h ⊢
            refine ⟨?_, i1 h.2⟩
            have := of_decide_eq_true h.1
            exact decide_eq_true (by omega)
      have hne : neverB (setW s n n) c = true := by
        obtain ⟨i1, i2⟩ := hall s.ps (carriesL s c) (fun y hy => by
          unfold carriesL at hy
          obtain ⟨j, _, rfl⟩ := List.mem_map.1 hy
          exact carry_nn hS _)
        have e3 : capC (setW s n n) c = capL n s.ps (carriesL s c) := rfl
        have e4 : capC (setW s a b) c = capL a s.ps (carriesL s c) := rfl
        unfold neverB at h6 ⊢
        rw [e4, Bool.not_eq_true', Bool.and_eq_false_iff] at h6
        rw [e3, Bool.not_eq_true', Bool.and_eq_false_iff]
        rcases h6 with h6 | h6
        · left
          cases hq : (capL n s.ps (carriesL s c)).all loHi
          · rfl
          · rw [i1 hq] at h6; cases h6
        · right
          have := of_decide_eq_false h6
          exact decide_eq_false (by omega)
      unfold safeN
      rw [never_safe hN hc hne, hne]
      rfl
    · omega
theorem haul_cheap {s : Sea} (hS : SOK s) {a n b : Int} (h0 : 0 ≤ a) (h1 : a ≤ n) (h2 : n ≤ b) (h3 : b ≤ 2000) {q : List Int} {m : Int} (h : cheapS (setW s a b) = some (q, m)) : ∃ r k, cheapS (setW s n n) = some (r, k) ∧ 0 ≤ k ∧ k ≤ m := by
  have hA := setW_ok hS h0 (by omega : a ≤ b) h3
  have hN := setW_ok hS (by omega : 0 ≤ n) (Int.le_refl n) (by omega)
  obtain ⟨g1, g2, g3, g4, -⟩ := cheapL_some _ _ _ h
  have hq := mem_crews.1 g1
  have e1 : safeC (setW s a b) q = decide (b ≤ liftS s q) := safe_lift hA hq
  have e2 : safeC (setW s n n) q = decide (n ≤ liftS s q) := safe_lift hN hq
  rw [e1, decide_eq_true_eq] at g2
  have hsq : safeC (setW s n n) q = true := by rw [e2]; exact decide_eq_true (by omega)
  cases hcn : cheapS (setW s n n) with
  | none =>
    have := (cheapL_none _).1 hcn q g1
    rw [hsq] at this
    cases this
  | some rk =>
    obtain ⟨r, k⟩ := rk
    obtain ⟨f1, f2, f3, f4, -⟩ := cheapL_some _ _ _ hcn
    refine ⟨r, k, rfl, by rw [f3]; exact cost_nn hN r, ?_⟩
    have := f4 q g1 hsq
    rw [setW_cost] at this
    rw [g3, setW_cost]
    exact this
theorem haul_most {s : Sea} (hS : SOK s) {n : Int} (h0 : 0 ≤ n) (h3 : n ≤ 2000) : cheapS (setW s n n) = none ↔ mostS s < n := by
  have hN := setW_ok hS h0 (Int.le_refl n) h3
  have := cheap_most2 hN
  rwa [setW_most] at this
end Go.Proofs.Ytmbcpmnigggbaaa.Li
namespace Go.Proofs.Ytmbcpmnigggbaaa
open Go.RowKit

/-- What a step keeps: whatever lay below n₀, but for the blocks of S. -/
structure KpB (S : Nat → Prop) (n₀ : Nat) (W W' : World) : Prop where
  os : W'.os = W.os
  tape : W'.tape = W.tape
  output : W'.output = W.output
  size : W.heap.size ≤ W'.heap.size
  block : ∀ k, k < n₀ → ¬ S k → W'.heap[k]? = W.heap[k]?
theorem KpB.trans {S : Nat → Prop} {n₀ : Nat} {A B C : World} (h : KpB S n₀ A B) (k : KpB S n₀ B C) : KpB S n₀ A C :=
  ⟨k.os.trans h.os, k.tape.trans h.tape, k.output.trans h.output, Nat.le_trans h.size k.size, fun i hi hs => (k.block i hi hs).trans (h.block i hi hs)⟩
theorem KpB.refl (S : Nat → Prop) (n₀ : Nat) (W : World) : KpB S n₀ W W := ⟨rfl, rfl, rfl, Nat.le_refl _, fun _ _ _ => rfl⟩
theorem KpB.put {S : Nat → Prop} {n₀ : Nat} {w W : World} (h : KpB S n₀ w W) (l : Nat) (o' : Obj) (hl : S l ∨ n₀ ≤ l) : KpB S n₀ w (W.putObj l o') :=
  h.trans ⟨rfl, rfl, rfl, by simp, fun k hk hs => World.putObj_heap_other (fun e => hl.elim (fun hl => hs (e ▸ hl)) (fun hl => by omega))⟩
theorem kpB_of_below {S : Nat → Prop} {n₀ : Nat} {W W' : World} (h : Below n₀ W W') : KpB S n₀ W W' := ⟨h.os, h.tape, h.output, h.size, fun k hk _ => h.block k hk⟩
theorem KpB.below {S : Nat → Prop} {n₀ : Nat} {W W' : World} (h : KpB S n₀ W W') (hS : ∀ k, S k → n₀ ≤ k) : Below n₀ W W' := ⟨h.os, h.tape, h.output, h.size, fun k hk => h.block k hk (fun hs => by have := hS k hs; omega)⟩
theorem KpB.set {S : Nat → Prop} {n₀ : Nat} {w W : World} (hw : KpB S n₀ w W) {k : Nat} (o : Nat) (v : Value) (h : S k ∨ n₀ ≤ k) : KpB S n₀ w (W.setCell ⟨k, o, none⟩ v) :=
  hw.trans ⟨rfl, rfl, rfl, by simp [World.setCell], fun i hi hs => Below.heap_setCell _ _ _ _ (fun e => by cases e; exact h.elim (fun h => hs h) (fun h => by simp at hi; omega))⟩
theorem KpB.alloc {S : Nat → Prop} {n₀ : Nat} {w W : World} (hw : KpB S n₀ w W) (o : Obj) (h : n₀ ≤ W.heap.size) : KpB S n₀ w (W.alloc o) := hw.trans (kpB_of_below ((Below.refl _ W).alloc h o))
theorem KpB.mono {S S' : Nat → Prop} {n₀ n₁ : Nat} {W W' : World} (h : KpB S n₀ W W') (hn : n₁ ≤ n₀) (hS : ∀ k, k < n₁ → S k → S' k) : KpB S' n₁ W W' := ⟨h.os, h.tape, h.output, h.size, fun k hk hs => h.block k (by omega) (fun hk' => hs (hS k hk hk'))⟩
theorem KpB.cell {S : Nat → Prop} {n₀ : Nat} {W W' : World} (h : KpB S n₀ W W') {b o : Nat} (hb : b < n₀) (hs : ¬ S b) : W'.cell? ⟨b, o, none⟩ = W.cell? ⟨b, o, none⟩ := World.cell?_of_block (h.block b hb hs)
theorem KpB.frozen {S : Nat → Prop} {n₀ : Nat} {W W' : World} (h : KpB S n₀ W W') {b o : Nat} (hb : b < n₀) (hs : ¬ S b) : W'.frozen? ⟨b, o, none⟩ = W.frozen? ⟨b, o, none⟩ := World.frozen?_of_block (h.block b hb hs)

/-- The blocks from B up to D. -/
def Seg (B D : Nat) : Nat → Prop := fun k => B ≤ k ∧ k < D

variable {F : Fence} {n : Nat} {P : Program}

open Go.RowKit

/-! A region that draws its order, inside a round of a range over a function: walked once, as outside. -/
/-- No operation of the region defers. -/
def noDefer (l : List Oper) : Bool := l.all fun o => match o.op with | .defer _ => false | _ => true
theorem noDefer_at {l : List Oper} (h : noDefer l = true) {i : Nat} {o : Oper} (ho : l[i]? = some o) : ∀ c, o.op ≠ .defer c := by
  intro c hc
  have := List.all_eq_true.1 h o (List.mem_of_getElem? ho)
  rw [hc] at this
  cases this
theorem wpOpIn_round {l n : Nat} {P : Program} {ops : Array Oper} {Q : Exit → Act → World → Prop} (hd : ∀ (i : Nat) (o : Oper), ops[i]? = some o → ∀ c, o.op ≠ .defer c) (hQ : ¬ LetsOut Q) {i : Nat} {K K' : Act → World → Prop} {a : Act} {w : World} (hK : ∀ a w, K a w → K' a w)
    (h : wpOp P ops Q i K a w) : wpOpIn (Fence.wide.inRound l) n P ops Q i K' a w := by
  unfold wpOp at h
  unfold wpOpIn
  cases ho : ops[i]? with
  | none => rw [ho] at h; exact hK _ _ h
  | some o =>
    rw [ho] at h
    simp only at h ⊢
    by_cases hw : Region.wanted o (yielded ops a.tmps) = true
    · rw [if_pos hw] at h ⊢
      have h := h.resolve_right (fun hh => hQ hh.2)
      refine ⟨fun _ _ => trivial, ?_⟩
      rw [Fence.inRound_round, Oper.semAt_some _ _ _ (hd i o ho)]
      unfold Oper.wp at h
      revert h
      generalize (execOp a.eval o).run P w = r
      intro h
      cases r with
      | ok x w' =>
        cases x with
        | enter f args =>
          refine ⟨(fun hh => by cases hh), CallsIn.inRound l (callsIn_wide.2 (Calls.mono h ?_))⟩
          intro e w'' he
          cases e with
          | returned v => exact hK _ _ he
          | panicked chain => exact he
          | outgrown => exact he
        | row row args => exact ⟨(fun hh => by cases hh), fun c cs _ => let ⟨v, w', r, s⟩ := h c cs; ⟨v, w', hK _ _ r, stepsIn_wide.2 s⟩⟩
        | value v => exact hK _ _ h
        | skip => exact hK _ _ h
        | defer d => exact hK _ _ h
        | _ => exact h.elim
      | halt x w' => cases x <;> simp only [Oper.upon] at h <;> simp only [Oper.uponIn] <;> first | exact h | exact h.elim
    · rw [if_neg hw] at h ⊢
      exact ⟨fun _ _ => trivial, hK _ _ h⟩
theorem wpAnyIn_round {l n : Nat} {P : Program} {md : Region.Mode} {ops : Array Oper} {Q : Exit → Act → World → Prop} (hd : ∀ (i : Nat) (o : Oper), ops[i]? = some o → ∀ c, o.op ≠ .defer c) (hQ : ¬ LetsOut Q) : ∀ (fuel : Nat) (listed : Array Bool) (a : Act) (w : World),
    wpAny P md ops Q fuel listed a w → wpAnyIn (Fence.wide.inRound l) n P md ops Q fuel listed a w
  | 0, _, _, _, h => h
  | fuel + 1, _, _, _, h => ⟨h.1, fun i hi => wpOpIn_round hd hQ (fun a w hh => wpAnyIn_round hd hQ fuel _ a w hh) (h.2 i hi)⟩
end Go.Proofs.Ytmbcpmnigggbaaa
namespace Go.Proofs.Ytmbcpmnigggbaaa
open Go.RowKit

/-! A region that draws its order, whose operations read and whose calls make memory of their own: walked once, in the order of the text. -/
open Classical in
/-- The world x, if it lies over w; else w itself. -/
noncomputable def extB (w x : World) : World := if Below w.heap.size w x then x else w
theorem extB_below (w x : World) : Below w.heap.size w (extB w x) := by
  unfold extB
  split
  · assumption
  · exact Below.refl _ _
theorem extB_of {w W : World} (h : Below w.heap.size w W) : ∃ x, W = extB w x := ⟨W, by unfold extB; rw [if_pos h]⟩
theorem cell_lt {w : World} {a : Addr} {v : Value} (h : w.cell? a = some v) : a.block < w.heap.size := by
  unfold World.cell? at h
  split at h
  · rename_i hh
    exact (Array.getElem?_eq_some_iff.1 hh).1
  · cases h
theorem extB_cell {w : World} {a : Addr} {v : Value} (h : w.cell? a = some v) : ∀ x, (extB w x).cell? a = some v := fun x => ((extB_below w x).cell (cell_lt h)).trans h
theorem below_cell {w W : World} (hb : Below w.heap.size w W) {a : Addr} {v : Value} (h : w.cell? a = some v) : W.cell? a = some v := (hb.cell (cell_lt h)).trans h
theorem wp_region_ext {P : Program} {id : Nat} {Q : Exit → Act → World → Prop} {a : Act} {w : World} {l : List Oper} (hm : P.follows .mixedOrders = true) (hB : Region.lexB .any l.toArray = true)
    (h : wpQuiet P l.toArray (fun w' => ∃ x, w' = extB w x) (fun a' => ∀ w', (∃ x, w' = extB w x) → Q .normal a' w') l a) : (Code.region id l.toArray true).wp P Q a w :=
  wp_region_quiet (C := fun w' => ∃ x, w' = extB w x) hm hB (extB_of (Below.refl _ w).drew) (by simpa using h)
theorem ext_call {P : Program} {f : FuncId} {args : Array Value} {w x : World} {v : Value} (h : Calls P f args (extB w x) fun e w' => e = .returned v ∧ Below (extB w x).heap.size (extB w x) w') :
    Calls P f args (extB w x) fun e w'' => e = .returned v ∧ ∃ y, w'' = extB w y :=
  h.mono fun _ _ ⟨he, hb⟩ => ⟨he, extB_of ((extB_below w x).trans (hb.mono (extB_below w x).size))⟩
theorem ext_same {P : Program} {f : FuncId} {args : Array Value} {w x : World} {v : Value} (h : Calls P f args (extB w x) fun e w' => e = .returned v ∧ extB w x = w') :
    Calls P f args (extB w x) fun e w'' => e = .returned v ∧ ∃ y, w'' = extB w y :=
  h.mono fun _ _ ⟨he, hb⟩ => ⟨he, x, hb.symm⟩

/-- n lies from lo to hi. -/
def inR (n lo hi : Int) : Bool := decide (lo ≤ n) && decide (n ≤ hi)
theorem inR_true {n lo hi : Int} : inR n lo hi = true ↔ lo ≤ n ∧ n ≤ hi := by simp [inR]
theorem inR_false {n lo hi : Int} : inR n lo hi = false ↔ ¬ (lo ≤ n ∧ n ≤ hi) := by rw [← inR_true]; simp

theorem addr_add (b o j : Nat) : (⟨b, o, none⟩ : Addr).add j = ⟨b, o + j, none⟩ := by
  cases j with
  | zero => rfl
  | succ j => simp [Addr.add]

/-- The slice at A holds the numbers l. -/
def IntsAt (W : World) (B : Nat) (A : Option Addr) (l : List Int) : Prop :=
  l = [] ∨ ∃ b off, A = some ⟨b, off, none⟩ ∧ b < B ∧ ∀ i x, l[i]? = some x → W.cell? ⟨b, off + i, none⟩ = some (.int .i64 x)
theorem IntsAt.keep {W W' : World} {B B' : Nat} {A : Option Addr} {l : List Int} (h : IntsAt W B A l) (hB : B ≤ B') (hk : ∀ b o, b < B → W'.cell? ⟨b, o, none⟩ = W.cell? ⟨b, o, none⟩) : IntsAt W' B' A l := by
  rcases h with h | ⟨b, off, hA, hb, hc⟩
  · exact .inl h
  · exact .inr ⟨b, off, hA, by omega, fun i x hx => by rw [hk _ _ hb]; exact hc i x hx⟩
theorem IntsAt.at_ {W : World} {B : Nat} {A : Option Addr} {l : List Int} (h : IntsAt W B A l) {k : Nat} {x : Int} (hx : l[k]? = some x) : ∃ b off, A = some ⟨b, off, none⟩ ∧ b < B ∧ W.cell? ⟨b, off + k, none⟩ = some (.int .i64 x) := by
  rcases h with h | ⟨b, off, hA, hb, hc⟩
  · subst h; simp at hx
  · exact ⟨b, off, hA, hb, hc k x hx⟩
/-- The slice at A holds the pairs l (kinds, parts). -/
def PairsAt (W : World) (B : Nat) (A : Option Addr) (l : List (Int × Int)) : Prop :=
  l = [] ∨ ∃ b off, A = some ⟨b, off, none⟩ ∧ b < B ∧ ∀ i x, l[i]? = some x → W.cell? ⟨b, off + i * 2, none⟩ = some (.int .i64 x.1) ∧ W.cell? ⟨b, off + i * 2 + 1, none⟩ = some (.int .i64 x.2)
theorem PairsAt.keep {W W' : World} {B B' : Nat} {A : Option Addr} {l : List (Int × Int)} (h : PairsAt W B A l) (hB : B ≤ B') (hk : ∀ b o, b < B → W'.cell? ⟨b, o, none⟩ = W.cell? ⟨b, o, none⟩) : PairsAt W' B' A l := by
  rcases h with h | ⟨b, off, hA, hb, hc⟩
  · exact .inl h
  · exact .inr ⟨b, off, hA, by omega, fun i x hx => by rw [hk _ _ hb, hk _ _ hb]; exact hc i x hx⟩
theorem PairsAt.at_ {W : World} {B : Nat} {A : Option Addr} {l : List (Int × Int)} (h : PairsAt W B A l) {k : Nat} {x : Int × Int} (hx : l[k]? = some x) : ∃ b off, A = some ⟨b, off, none⟩ ∧ b < B ∧
    W.cell? ⟨b, off + k * 2, none⟩ = some (.int .i64 x.1) ∧ W.cell? ⟨b, off + k * 2 + 1, none⟩ = some (.int .i64 x.2) := by
  rcases h with h | ⟨b, off, hA, hb, hc⟩
  · subst h; simp at hx
  · exact ⟨b, off, hA, hb, hc k x hx⟩

/-- A house: kinds (Salt, Days), the floor's salt, parts (Kind, Pounds), barrels. -/
structure House where
  ks : List (Int × Int)
  fl : Int
  ps : List (Int × Int)
  bs : List Int

/-- Where the slices of a house lie. -/
structure HL where
  Ak : Option Addr
  ck : Nat
  Ap : Option Addr
  cp : Nat
  Ab : Option Addr
  cb : Nat

abbrev HL.enc (L : HL) (h : House) : Value := .agg #[.slice L.Ak h.ks.length L.ck, .int .i64 h.fl, .slice L.Ap h.ps.length L.cp, .slice L.Ab h.bs.length L.cb]
structure HouseAt (W : World) (B : Nat) (L : HL) (h : House) : Prop where
  k : PairsAt W B L.Ak h.ks
  p : PairsAt W B L.Ap h.ps
  b : IntsAt W B L.Ab h.bs
theorem HouseAt.keep {W W' : World} {B B' : Nat} {L : HL} {h : House} (hh : HouseAt W B L h) (hB : B ≤ B') (hk : ∀ b o, b < B → W'.cell? ⟨b, o, none⟩ = W.cell? ⟨b, o, none⟩) : HouseAt W' B' L h :=
  ⟨hh.k.keep hB hk, hh.p.keep hB hk, hh.b.keep hB hk⟩
theorem HouseAt.below {W W' : World} {L : HL} {h : House} (hh : HouseAt W W.heap.size L h) (hb : Below W.heap.size W W') : HouseAt W' W'.heap.size L h :=
  hh.keep hb.size fun _ _ hlt => hb.cell (p := ⟨_, _, none⟩) hlt

/-- A house that is valid. -/
def kindOK (x : Int × Int) : Bool := inR x.1 0 9 && inR x.2 0 20
def partOK (nk : Nat) (x : Int × Int) : Bool := inR x.1 0 (nk - 1) && inR x.2 0 40
def bigOK (h : House) : Bool := decide (h.ks.length ≤ 3) && (inR h.fl 0 9 && (decide (h.ps.length ≤ 6) && decide (h.bs.length ≤ 4)))
def validH (h : House) : Bool := bigOK h && (h.ks.all kindOK && (h.ps.all (partOK h.ks.length) && h.bs.all fun b => inR b 0 99))
def ckH (h : House) : Int := if validH h then 0 else 80

/-- What is in a barrel: how many parts, pounds, the greatest Salt, the greatest Days. -/
structure Cask where
  n : Int
  p : Int
  s : Int
  d : Int
abbrev Cask.enc (c : Cask) : Value := .agg #[.int .i64 c.n, .int .i64 c.p, .int .i64 c.s, .int .i64 c.d]
def c0 : Cask := ⟨0, 0, 0, 0⟩
def layC (c : Cask) (k p : Int × Int) : Cask := ⟨c.n + 1, c.p + p.2, max c.s k.1, max c.d k.2⟩
def saltC (fl : Int) (c : Cask) : Int := if c.n = 0 then 0 else fl + (c.p * c.s + 9) / 10
/-- Bounds that no arithmetic on a cask leaves. -/
structure Cask.ok (c : Cask) : Prop where
  n0 : 0 ≤ c.n
  n1 : c.n ≤ 100
  p0 : 0 ≤ c.p
  p1 : c.p ≤ 10000
  s0 : 0 ≤ c.s
  s1 : c.s ≤ 9
  d0 : 0 ≤ c.d
  d1 : c.d ≤ 20
open Go.RowKit

theorem between_any (n lo hi : Int) (w : World) : Calls Try.prog 171 #[.int .i64 n, .int .i64 lo, .int .i64 hi] w fun e w' => e = .returned (.bool (inR n lo hi)) ∧ w = w' := by
  by_cases h : lo ≤ n <;> by_cases h2 : n ≤ hi
  all_goals
    have e : inR n lo hi = (decide (lo ≤ n) && decide (n ≤ hi)) := rfl
    have E := Lib.hid e
    clear e
    go_enter Try.func171, Try.ntmps171
    go_wp2
    go_ret
    exact ⟨by rw [E.out]; simp <;> omega, rfl⟩

theorem saltC_any (c : Cask) (fl : Int) (hc : c.ok) (hf : 0 ≤ fl ∧ fl ≤ 9) (w : World) : Calls Try.prog 129 #[c.enc, .int .i64 fl] w fun e w' => e = .returned (.int .i64 (saltC fl c)) ∧ Below w.heap.size w w' := by
  obtain ⟨n, p, s, d⟩ := c
  obtain ⟨hn0, hn1, hp0, hp1, hs0, hs1, hd0, hd1⟩ := hc
  simp only at hn0 hn1 hp0 hp1 hs0 hs1 hd0 hd1
  have hps : 0 ≤ p * s := Int.mul_nonneg hp0 hs0
  have hps2 : p * s ≤ 10000 * 9 := Int.mul_le_mul hp1 hs1 hs0 (by omega)
  by_cases h0 : n = 0
  · have hd : (n == 0) = true := by simpa using h0
    have H0 := Lib.hid h0
    clear h0
    go_enter Try.func129, Try.ntmps129
    go_wp2
    go_ret
    exact ⟨by simp [saltC, H0.out], (Below.refl _ _).alloc (Nat.le_refl _) _⟩
  · have hd : (n == 0) = false := by simpa using h0
    have H0 := Lib.hid h0
    clear h0
    go_enter Try.func129, Try.ntmps129
    go_wp2
    go_ret
    exact ⟨by simp [saltC, H0.out], (Below.refl _ _).alloc (Nat.le_refl _) _⟩
open Go.RowKit

/-- The cask at the cells from o on of block b. -/
structure CaskAt (W : World) (b o : Nat) (c : Cask) : Prop where
  n : W.cell? ⟨b, o, none⟩ = some (.int .i64 c.n)
  p : W.cell? ⟨b, o + 1, none⟩ = some (.int .i64 c.p)
  s : W.cell? ⟨b, o + 2, none⟩ = some (.int .i64 c.s)
  d : W.cell? ⟨b, o + 3, none⟩ = some (.int .i64 c.d)

theorem heap_set {W : World} {b o : Nat} {arr : Array Value} {t : TypeId} (v : Value) (h : W.heap[b]? = some (.cells arr t (0, 0))) : (W.setCell ⟨b, o, none⟩ v).heap[b]? = some (.cells (arr.setIfInBounds o v) t (0, 0)) := by
  obtain ⟨hlt, e⟩ := Array.getElem?_eq_some_iff.1 h
  have : (W.setCell ⟨b, o, none⟩ v).heap[b]? = some ((W.setCell ⟨b, o, none⟩ v).heap[b]'(by simp [World.setCell]; exact hlt)) := Array.getElem?_eq_getElem _
  rw [this]
  simp only [World.setCell]
  rw [Array.getElem_modify_self, e]
  rfl

theorem lay_end (w W1 W2 : World) (arr : Array Value) (t : TypeId) (b o : Nat) (c : Cask) (k p : Int × Int) (o1 o2 o3 : Obj) (s' d' : Int)
    (hb : w.heap[b]? = some (.cells arr t (0, 0))) (h1 : W1 = (((w.setCell ⟨b, o, none⟩ (.int .i64 (c.n + 1))).alloc o1).alloc o2).alloc o3) (h2 : W2 = (W1.setCell ⟨b, o + 1, none⟩ (.int .i64 (c.p + p.2))).drew)
    (hs : s' = (layC c k p).s) (hd : d' = (layC c k p).d) :
    KpB (fun k => k = b) w.heap.size w ((W2.setCell ⟨b, o + 2, none⟩ (.int .i64 s')).setCell ⟨b, o + 3, none⟩ (.int .i64 d')).drew ∧
      ((W2.setCell ⟨b, o + 2, none⟩ (.int .i64 s')).setCell ⟨b, o + 3, none⟩ (.int .i64 d')).drew.heap[b]? = some (.cells ((((arr.setIfInBounds o (.int .i64 (layC c k p).n)).setIfInBounds (o + 1) (.int .i64 (layC c k p).p)).setIfInBounds (o + 2) (.int .i64 (layC c k p).s)).setIfInBounds (o + 3) (.int .i64 (layC c k p).d)) t (0, 0)) := by
  subst hs hd
  have hbl : b < w.heap.size := (Array.getElem?_eq_some_iff.1 hb).1
  have k0 : KpB (fun k => k = b) w.heap.size w (w.setCell ⟨b, o, none⟩ (.int .i64 (c.n + 1))) := (KpB.refl _ _ _).set _ _ (.inl rfl)
  have g0 := heap_set (o := o) (.int .i64 (c.n + 1)) hb
  have b1 : Below w.heap.size (w.setCell ⟨b, o, none⟩ (.int .i64 (c.n + 1))) W1 := by
    rw [h1]; exact (((Below.refl _ _).alloc (by simp [World.setCell]) _).alloc (by simp [World.setCell] <;> omega) _).alloc (by simp [World.setCell] <;> omega) _
  have k1 : KpB (fun k => k = b) w.heap.size w W1 := k0.trans (kpB_of_below b1)
  have g1 : W1.heap[b]? = _ := (b1.block b hbl).trans g0
  have g2 := heap_set (o := o + 1) (.int .i64 (c.p + p.2)) g1
  have k2 : KpB (fun k => k = b) w.heap.size w (W1.setCell ⟨b, o + 1, none⟩ (.int .i64 (c.p + p.2))) := k1.set _ _ (.inl rfl)
  have k3 : KpB (fun k => k = b) w.heap.size w W2 := by rw [h2]; exact ⟨k2.os, k2.tape, k2.output, k2.size, k2.block⟩
  have e3 : W2.heap = (W1.setCell ⟨b, o + 1, none⟩ (.int .i64 (c.p + p.2))).heap := by rw [h2]; rfl
  have g3 := g2
  rw [← e3] at g3
  have k4 := (k3.set (o + 2) (.int .i64 (layC c k p).s) (.inl rfl)).set (o + 3) (.int .i64 (layC c k p).d) (.inl rfl)
  exact ⟨⟨k4.os, k4.tape, k4.output, k4.size, k4.block⟩, heap_set _ (heap_set _ g3)⟩

set_option maxRecDepth 100000 in
set_option maxHeartbeats 4000000 in
theorem lay_any (L : HL) (hs : House) (i kk : Nat) (k p : Int × Int) (c : Cask) (hc : c.ok) (b o : Nat) (w : World) (arr : Array Value) (t : TypeId)
    (hH : HouseAt w w.heap.size L hs) (hp : hs.ps[i]? = some p) (hkk : p.1 = (kk : Int)) (hk : hs.ks[kk]? = some k) (hpb : 0 ≤ p.2 ∧ p.2 ≤ 40) (hkb : 0 ≤ k.1 ∧ k.1 ≤ 9 ∧ 0 ≤ k.2 ∧ k.2 ≤ 20) (_hi : hs.ps.length ≤ 40 ∧ hs.ks.length ≤ 40)
    (hb : w.heap[b]? = some (.cells arr t (0, 0))) (hC : CaskAt w b o c) :
    Calls Try.prog 197 #[.pointer (some ⟨b, o, none⟩), L.enc hs, .int .i64 i] w fun e w' => (∃ v, e = .returned v) ∧
      KpB (fun k => k = b) w.heap.size w w' ∧ w'.heap[b]? = some (.cells ((((arr.setIfInBounds o (.int .i64 (layC c k p).n)).setIfInBounds (o + 1) (.int .i64 (layC c k p).p)).setIfInBounds (o + 2) (.int .i64 (layC c k p).s)).setIfInBounds (o + 3) (.int .i64 (layC c k p).d)) t (0, 0)) := by
  obtain ⟨Ak, ck, Ap, cp, Ab, cb⟩ := L
  obtain ⟨n0, n1, p0, p1, s0, s1, d0, d1⟩ := hc
  obtain ⟨cn, cp', cs, cd⟩ := hC
  obtain ⟨bp, op, e1, hbp, q1, q2⟩ := hH.p.at_ hp
  obtain ⟨bk, ok, e2, hbk, r1, r2⟩ := hH.k.at_ hk
  simp only at e1 e2
  subst e1 e2
  obtain ⟨pk, pp⟩ := p
  obtain ⟨kS, kD⟩ := k
  simp only at hkk hpb hkb q1 q2 r1 r2
  subst hkk
  have hi1 : i < hs.ps.length := (List.getElem?_eq_some_iff.1 hp).1
  have hi2 : kk < hs.ks.length := (List.getElem?_eq_some_iff.1 hk).1
  have fr : ∀ o, w.frozen? ⟨b, o, none⟩ = false := fun o => by simp [World.frozen?, hb]
  have hbl : b < w.heap.size := (Array.getElem?_eq_some_iff.1 hb).1
  have hb1 : b < w.heap.size + 1 := by omega
  have hb2 : b < w.heap.size + 1 + 1 := by omega
  have hn0 : ¬ b = w.heap.size := by omega
  have hn1 : ¬ b = w.heap.size + 1 := by omega
  have hn2 : ¬ b = w.heap.size + 1 + 1 := by omega
  clear hH hp hk
  have HB := Lib.hid hb
  clear hb
  go_enter Try.func197, Try.ntmps197
  go_wp2
  obtain ⟨W1, hW1⟩ : ∃ W1, W1 = ((((w.setCell ⟨b, o, none⟩ (.int .i64 (c.n + 1))).alloc (.cells #[.slice (some ⟨bk, ok, none⟩) hs.ks.length ck, .int .i64 hs.fl, .slice (some ⟨bp, op, none⟩) hs.ps.length cp, .slice Ab hs.bs.length cb] 27)).alloc (.cells #[.int .i64 kk, .int .i64 pp] 97)).alloc (.cells #[.int .i64 kS, .int .i64 kD] 95)) := ⟨_, rfl⟩
  have f1 : W1.cell? ⟨b, o + 1, none⟩ = some (.int .i64 c.p) := by rw [hW1]; clear hW1; simp [go_sem, *]
  have f2 : W1.cell? ⟨b, o + 2, none⟩ = some (.int .i64 c.s) := by rw [hW1]; clear hW1; simp [go_sem, *]
  have f3 : W1.cell? ⟨b, o + 3, none⟩ = some (.int .i64 c.d) := by rw [hW1]; clear hW1; simp [go_sem, *]
  have g1 : W1.cell? ⟨w.heap.size + 1, 1, none⟩ = some (.int .i64 pp) := by rw [hW1]; clear hW1; simp [go_sem, *]
  have g2 : W1.cell? ⟨w.heap.size + 1 + 1, 0, none⟩ = some (.int .i64 kS) := by rw [hW1]; clear hW1; simp [go_sem, *]
  have g3 : W1.cell? ⟨w.heap.size + 1 + 1, 1, none⟩ = some (.int .i64 kD) := by rw [hW1]; clear hW1; simp [go_sem, *]
  have fr1 : ∀ o, W1.frozen? ⟨b, o, none⟩ = false := fun o => by rw [hW1]; clear hW1; simp [go_sem, *]
  have HW := Lib.hid hW1
  rw [← hW1]
  clear hW1
  go_region
  go_wp2
  obtain ⟨W2, hW2⟩ : ∃ W2, W2 = (W1.setCell ⟨b, o + 1, none⟩ (.int .i64 (c.p + pp))).drew := ⟨_, rfl⟩
  have h2 : W2.cell? ⟨b, o + 2, none⟩ = some (.int .i64 c.s) := by rw [hW2]; clear hW2; simp [go_sem, *]
  have h3 : W2.cell? ⟨b, o + 3, none⟩ = some (.int .i64 c.d) := by rw [hW2]; clear hW2; simp [go_sem, *]
  have k2 : W2.cell? ⟨w.heap.size + 1 + 1, 0, none⟩ = some (.int .i64 kS) := by rw [hW2]; clear hW2; simp [go_sem, *]
  have k3 : W2.cell? ⟨w.heap.size + 1 + 1, 1, none⟩ = some (.int .i64 kD) := by rw [hW2]; clear hW2; simp [go_sem, *]
  have fr2 : ∀ o, W2.frozen? ⟨b, o, none⟩ = false := fun o => by rw [hW2]; clear hW2; simp [go_sem, *]
  have HV := Lib.hid hW2
  rw [← hW2]
  clear hW2
  go_region
  all_goals go_wp2
  all_goals
    go_end0
    exact ⟨⟨_, rfl⟩, lay_end w W1 W2 arr t b o c (kS, kD) (kk, pp) _ _ _ _ _ HB.out HW.out HV.out (by simp [layC] <;> omega) (by simp [layC] <;> omega)⟩
open Go.RowKit

/-- A house whose numbers are in their bounds. -/
structure HOK (h : House) : Prop where
  kl : h.ks.length ≤ 3
  f0 : 0 ≤ h.fl
  f1 : h.fl ≤ 9
  pl : h.ps.length ≤ 6
  bl : h.bs.length ≤ 4
  k : ∀ (i : Nat) (x : Int × Int), h.ks[i]? = some x → 0 ≤ x.1 ∧ x.1 ≤ 9 ∧ 0 ≤ x.2 ∧ x.2 ≤ 20
  p : ∀ (i : Nat) (x : Int × Int), h.ps[i]? = some x → 0 ≤ x.1 ∧ x.1 < h.ks.length ∧ 0 ≤ x.2 ∧ x.2 ≤ 40
  b : ∀ (i : Nat) (x : Int), h.bs[i]? = some x → 0 ≤ x ∧ x ≤ 99

def flatC : List Cask → List Value
  | [] => []
  | c :: l => .int .i64 c.n :: .int .i64 c.p :: .int .i64 c.s :: .int .i64 c.d :: flatC l
theorem flatC_len : ∀ l, (flatC l).length = l.length * 4
  | [] => rfl
  | c :: l => by simp only [flatC, List.length_cons, flatC_len l]; omega
theorem flatC_at : ∀ (l : List Cask) (j : Nat) (c : Cask), l[j]? = some c → (flatC l)[j * 4]? = some (.int .i64 c.n) ∧ (flatC l)[j * 4 + 1]? = some (.int .i64 c.p) ∧ (flatC l)[j * 4 + 2]? = some (.int .i64 c.s) ∧ (flatC l)[j * 4 + 3]? = some (.int .i64 c.d)
  | [], j, c, h => by simp at h
  | x :: l, 0, c, h => by simp at h; subst h; exact ⟨rfl, rfl, rfl, rfl⟩
  | x :: l, j + 1, c, h => by
    have := flatC_at l j c (by simpa using h)
    have e : (j + 1) * 4 = j * 4 + 1 + 1 + 1 + 1 := by omega
    rw [e]
    simp only [flatC, List.getElem?_cons_succ]
    exact this
theorem flatC_set : ∀ (l : List Cask) (j : Nat) (c : Cask), ((((flatC l).set (j * 4) (.int .i64 c.n)).set (j * 4 + 1) (.int .i64 c.p)).set (j * 4 + 2) (.int .i64 c.s)).set (j * 4 + 3) (.int .i64 c.d) = flatC (l.set j c)
  | [], j, c => by simp [flatC]
  | x :: l, 0, c => rfl
  | x :: l, j + 1, c => by
    have := flatC_set l j c
    have e : (j + 1) * 4 = j * 4 + 1 + 1 + 1 + 1 := by omega
    rw [e]
    simp only [flatC, List.set_cons_succ]
    rw [this]

/-- All casks of a house, in the block cb. -/
def CasksAt (W : World) (cb : Nat) (l : List Cask) : Prop := W.heap[cb]? = some (.cells (flatC l).toArray 169 (0, 0))
theorem CasksAt.at_ {W : World} {cb : Nat} {l : List Cask} (h : CasksAt W cb l) {j : Nat} {c : Cask} (hj : l[j]? = some c) : CaskAt W cb (j * 4) c := by
  obtain ⟨h1, h2, h3, h4⟩ := flatC_at l j c hj
  have h : W.heap[cb]? = some (.cells (flatC l).toArray 169 (0, 0)) := h
  exact ⟨by simp [World.cell?, h, h1], by simp [World.cell?, h, h2], by simp [World.cell?, h, h3], by simp [World.cell?, h, h4]⟩

def barrelOf (pack : List Int) (k : Nat) : Int := pack.getD k (-1)
def partOf (h : House) (k : Nat) : Int × Int := h.ps.getD k (0, 0)
def kindOf (h : House) (p : Int × Int) : Int × Int := h.ks.getD p.1.toNat (0, 0)
/-- The casks behind the first k parts. -/
def casksTo (h : House) (pack : List Int) : Nat → List Cask
  | 0 => [c0, c0, c0, c0, c0]
  | k + 1 => if barrelOf pack k = -1 then casksTo h pack k else
    (casksTo h pack k).set (barrelOf pack k).toNat (layC ((casksTo h pack k).getD (barrelOf pack k).toNat c0) (kindOf h (partOf h k)) (partOf h k))
theorem casksTo_len (h : House) (pack : List Int) : ∀ k, (casksTo h pack k).length = 5
  | 0 => rfl
  | k + 1 => by
    unfold casksTo
    split
    · exact casksTo_len h pack k
    · rw [List.length_set]; exact casksTo_len h pack k

theorem HOK.part {h : House} (hv : HOK h) {k : Nat} (hk : k < h.ps.length) : ∃ kk : Nat, h.ps[k]? = some (partOf h k) ∧ (partOf h k).1 = (kk : Int) ∧ h.ks[kk]? = some (kindOf h (partOf h k)) ∧ (0 ≤ (partOf h k).2 ∧ (partOf h k).2 ≤ 40) ∧
    0 ≤ (kindOf h (partOf h k)).1 ∧ (kindOf h (partOf h k)).1 ≤ 9 ∧ 0 ≤ (kindOf h (partOf h k)).2 ∧ (kindOf h (partOf h k)).2 ≤ 20 := by
  have e : h.ps[k]? = some (partOf h k) := by simp [partOf, List.getD, List.getElem?_eq_getElem hk]
  obtain ⟨p0, p1, p2, p3⟩ := hv.p k _ e
  obtain ⟨kk, hkk⟩ := Int.eq_ofNat_of_zero_le p0
  have hkk : (partOf h k).1 = (kk : Int) := hkk
  have hlt : kk < h.ks.length := by omega
  have e2 : h.ks[kk]? = some (kindOf h (partOf h k)) := by
    simp [kindOf, hkk, List.getD, List.getElem?_eq_getElem hlt]
  exact ⟨kk, e, hkk, e2, ⟨p2, p3⟩, hv.k kk _ e2⟩

/-- Bounds of a cask with at most k parts. -/
structure Cask.upto (c : Cask) (k : Nat) : Prop where
  n0 : 0 ≤ c.n
  n1 : c.n ≤ k
  p0 : 0 ≤ c.p
  p1 : c.p ≤ 40 * k
  s0 : 0 ≤ c.s
  s1 : c.s ≤ 9
  d0 : 0 ≤ c.d
  d1 : c.d ≤ 20
theorem Cask.upto.ok {c : Cask} {k : Nat} (h : c.upto k) (hk : k ≤ 100) : c.ok := ⟨h.n0, by have := h.n1; omega, h.p0, by have := h.p1; omega, h.s0, h.s1, h.d0, h.d1⟩
theorem casksTo_upto {h : House} (hv : HOK h) (pack : List Int) : ∀ k, k ≤ h.ps.length → ∀ (j : Nat) (c : Cask), (casksTo h pack k)[j]? = some c → c.upto k
  | 0, _, j, c, hc => by
    have : c = c0 := by
      simp only [casksTo] at hc
      have := List.mem_of_getElem? hc
      simpa using this
    subst this
    exact ⟨by decide, by decide, by decide, by decide, by decide, by decide, by decide, by decide⟩
  | k + 1, hk, j, c, hc => by
    have ih := casksTo_upto hv pack k (by omega)
    have up : ∀ {c : Cask}, c.upto k → c.upto (k + 1) := fun h => ⟨h.n0, by have := h.n1; omega, h.p0, by have := h.p1; omega, h.s0, h.s1, h.d0, h.d1⟩
    unfold casksTo at hc
    split at hc
    · exact up (ih j c hc)
    · rw [List.getElem?_set] at hc
      split at hc
      · split at hc
        · obtain rfl := Option.some.inj hc
          rename_i hlt
          have hb := ih (barrelOf pack k).toNat ((casksTo h pack k).getD (barrelOf pack k).toNat c0) (by simp [List.getD, List.getElem?_eq_getElem hlt])
          obtain ⟨kk, -, -, -, ⟨p2, p3⟩, k0, k1, k2, k3⟩ := hv.part (k := k) (by omega)
          obtain ⟨n0, n1, p0, p1, s0, s1, d0, d1⟩ := hb
          exact ⟨by simp only [layC]; omega, by simp only [layC]; omega, by simp only [layC]; omega, by simp only [layC]; omega, by simp only [layC]; omega, by simp only [layC]; omega, by simp only [layC]; omega, by simp only [layC]; omega⟩
        · cases hc
      · exact up (ih j c hc)
/-- All casks of a packing. -/
def packedC (h : House) (pack : List Int) : List Cask := casksTo h pack h.ps.length
def encCs (l : List Cask) : Value := .agg (flatC l).toArray
open Go.RowKit

/-- The box of a house. -/
def HBox (W : World) (b : Nat) (L : HL) (h : House) : Prop := W.heap[b]? = some (.cells #[.slice L.Ak h.ks.length L.ck, .int .i64 h.fl, .slice L.Ap h.ps.length L.cp, .slice L.Ab h.bs.length L.cb] 27 (0, 0))
theorem HBox.cells {W : World} {b : Nat} {L : HL} {h : House} (hb : HBox W b L h) : W.cell? ⟨b, 0, none⟩ = some (.slice L.Ak h.ks.length L.ck) ∧ W.cell? ⟨b, 1, none⟩ = some (.int .i64 h.fl) ∧ W.cell? ⟨b, 2, none⟩ = some (.slice L.Ap h.ps.length L.cp) ∧ W.cell? ⟨b, 3, none⟩ = some (.slice L.Ab h.bs.length L.cb) := by
  simp [World.cell?, show W.heap[b]? = _ from hb]
theorem HBox.new (W : World) (L : HL) (h : House) : HBox (W.alloc (.cells #[.slice L.Ak h.ks.length L.ck, .int .i64 h.fl, .slice L.Ap h.ps.length L.cp, .slice L.Ab h.bs.length L.cb] 27)) W.heap.size L h := World.alloc_heap_new W _
theorem HBox.lt {W : World} {b : Nat} {L : HL} {h : House} (hb : HBox W b L h) : b < W.heap.size := (Array.getElem?_eq_some_iff.1 hb).1
theorem HBox.of {W W' : World} {b : Nat} {L : HL} {h : House} (hb : HBox W b L h) (e : W'.heap[b]? = W.heap[b]?) : HBox W' b L h := e.trans hb

theorem HouseAt.drew {W : World} {B : Nat} {L : HL} {h : House} (hh : HouseAt W B L h) : HouseAt W.drew B L h := ⟨hh.k, hh.p, hh.b⟩
theorem CaskAt.drew {W : World} {b o : Nat} {c : Cask} (h : CaskAt W b o c) : CaskAt W.drew b o c := ⟨h.n, h.p, h.s, h.d⟩
theorem setIf_same {c : Array Value} {o : Nat} {v : Value} (h : c[o]? = some v) : c.setIfInBounds o v = c := by
  obtain ⟨hlt, e⟩ := Array.getElem?_eq_some_iff.1 h
  apply Array.ext
  · simp
  · intro i h1 h2
    rw [Array.getElem_setIfInBounds]
    split
    · rename_i ei; subst ei; exact e.symm
    · rfl
theorem set_same {W : World} {b o : Nat} {v : Value} (h : W.cell? ⟨b, o, none⟩ = some v) : W.setCell ⟨b, o, none⟩ v = W := by
  unfold World.cell? at h
  cases hb : W.heap[b]? with
  | none => simp [hb] at h
  | some ob =>
    obtain ⟨hlt, e⟩ := Array.getElem?_eq_some_iff.1 hb
    have hh : (W.setCell ⟨b, o, none⟩ v).heap = W.heap := by
      apply Array.ext
      · simp [World.setCell]
      · intro i h1 h2
        simp only [World.setCell]
        by_cases ei : i = b
        · subst ei
          rw [Array.getElem_modify_self, e]
          cases ob <;> simp_all [setIf_same]
        · rw [Array.getElem_modify_of_ne (Ne.symm ei)]
    show ({ W with heap := (W.setCell ⟨b, o, none⟩ v).heap } : World) = W
    rw [hh]

theorem casks_set {W : World} {cb : Nat} {l : List Cask} {j : Nat} {c : Cask} (h : W.heap[cb]? = some (.cells (((((flatC l).toArray.setIfInBounds (j * 4) (.int .i64 c.n)).setIfInBounds (j * 4 + 1) (.int .i64 c.p)).setIfInBounds (j * 4 + 2) (.int .i64 c.s)).setIfInBounds (j * 4 + 3) (.int .i64 c.d)) 169 (0, 0))) : CasksAt W cb (l.set j c) := by
  unfold CasksAt
  rw [← flatC_set, h]
  simp
theorem KpB.ofDrew {S : Nat → Prop} {n : Nat} {W W' : World} (h : KpB S n W.drew W') : KpB S n W W' := ⟨h.os, h.tape, h.output, h.size, h.block⟩

theorem list5 {α : Type} {l : List α} (h : l.length = 5) : ∃ a b c d e, l = [a, b, c, d, e] := by
  match l, h with
  | [a, b, c, d, e], _ => exact ⟨a, b, c, d, e, rfl⟩

theorem results_cell {P : Program} {fn : Func} {t : Tmp} {ty : TypeId} (h : fn.results = #[.cell t ty]) {tmps : Array Value} {w : World} {v : Value} {p : Addr} (ht : tmps.getD t undef = .pointer (some p))
    (hl : (Instr.loadAt ty (.pointer (some p))).run P w = .ok v w) : (results fn tmps).run P w = .ok v w := by
  have e : (results fn tmps).run P w = (Instr.loadAt ty (tmps.getD t undef)).run P w := by
    have ht' : tmps[t]?.getD undef = .pointer (some p) := by simpa using ht
    rw [ht]
    simp [results, h, ht', Instr.loadAt, Instr.sureAddr, asAddr]
  rw [e, ht]; exact hl
theorem casks_range {W : World} {cb : Nat} {l : List Cask} (hC : CasksAt W cb l) : W.rangeAt cb 0 (flatC l) := fun j v hj => by
  simp [World.cell?, show W.heap[cb]? = _ from hC, hj]
theorem load81 {W : World} {cb : Nat} {l : List Cask} (hl : l.length = 5) (hC : CasksAt W cb l) : (Instr.loadAt 169 (.pointer (some ⟨cb, 0, none⟩))).run Try.prog W = .ok (encCs l) W :=
  run_loadAt_mid W cb 0 169 (flatC l) _ (casks_range hC) Try.underlying169 rfl (by rw [flatC_len, hl]; kernel_rfl)
theorem setCells_same (W : World) (b : Nat) : ∀ (l : List Value) (o : Nat), W.rangeAt b o l → W.setCells b o l = W
  | [], o, _ => rfl
  | v :: l, o, h => by
    have h0 := h 0 v rfl
    simp only [Nat.add_zero] at h0
    rw [World.setCells, set_same h0]
    exact setCells_same W b l (o + 1) (fun j u hj => by have := h (j + 1) u (by simpa using hj); rwa [show o + (j + 1) = o + 1 + j by omega] at this)
theorem flatC_one : ∀ l, (flatC l).all (·.oneCell') = true
  | [] => rfl
  | c :: l => by simp only [flatC, List.all_cons, flatC_one l]; rfl
theorem casks_there {W : World} {cb : Nat} {l : List Cask} (hC : CasksAt W cb l) : W.there cb 0 (flatC l).toArray.size := fun j hj => by
  have hj' : j < (flatC l).length := by simpa using hj
  exact ⟨by simp [World.cell?, show W.heap[cb]? = _ from hC, hj'], by simp [World.frozen?, show W.heap[cb]? = _ from hC]⟩
theorem info81 {l : List Cask} (hl : l.length = 5) : (Try.prog.info? 169).map (·.size) = some (flatC l).length := by rw [flatC_len, hl]; kernel_rfl
theorem info81' {l : List Cask} (hl : l.length = 5) : (Try.prog.info? 169).map (·.size) = some (flatC l).toArray.size := by rw [List.size_toArray, flatC_len, hl]; kernel_rfl
theorem flatC_one' (l : List Cask) : (flatC l).toArray.all (·.oneCell') = true := by have := flatC_one l; simpa using this
/-- The load of a whole array of casks, and the store of what is there already, as the walk meets them. -/
theorem wpl_load81 {ops : Array Oper} {rest : List Oper} {o : Oper} {a : Act} {w : World} {Q : Exit → Act → World → Prop} (hgd : o.guard = none) (x : Operand) (ho : o.op = .load 169 x) (cb : Nat)
    (hx : a.eval x = .pointer (some ⟨cb, 0, none⟩)) (l : List Cask) (hl : l.length = 5) (hC : CasksAt w cb l) (h : wpList Try.prog ops Q rest (a.put o.dst (encCs l)) w) : wpList Try.prog ops Q (o :: rest) a w :=
  wpList_load_mid hgd 169 x ho cb 0 hx (flatC l) _ (casks_range hC) Try.underlying169 rfl (info81 hl) h
theorem wpl_store81 {ops : Array Oper} {rest : List Oper} {o : Oper} {a : Act} {w : World} {Q : Exit → Act → World → Prop} (hgd : o.guard = none) (x y : Operand) (ho : o.op = .store 169 x y) (cb : Nat)
    (hx : a.eval x = .pointer (some ⟨cb, 0, none⟩)) (l : List Cask) (hy : a.eval y = encCs l) (hl : l.length = 5) (hC : CasksAt w cb l) (h : wpList Try.prog ops Q rest (a.put o.dst undef) w) : wpList Try.prog ops Q (o :: rest) a w := by
  refine wpList_store_mid hgd 169 x y ho cb 0 (flatC l).toArray hx hy (casks_there hC) (info81' hl) (flatC_one' l) ?_
  rw [List.toList_toArray, setCells_same w cb _ 0 (casks_range hC)]
  exact h
set_option maxRecDepth 100000 in
set_option maxHeartbeats 4000000 in
theorem packed_any (L : HL) (h : House) (hv : HOK h) (pack : List Int) (hl : pack.length = h.ps.length) (hr : ∀ (k : Nat) (b : Int), pack[k]? = some b → -1 ≤ b ∧ b ≤ 4) (A : Option Addr) (c : Nat) (w : World)
    (hH : HouseAt w w.heap.size L h) (hP : IntsAt w w.heap.size A pack) :
    Calls Try.prog 175 #[L.enc h, .slice A pack.length c] w fun e w' => e = .returned (encCs (packedC h pack)) ∧ Below w.heap.size w w' := by
  have hpl := hv.pl
  have hkl := hv.kl
  have HH := Lib.hid hH
  have HP := Lib.hid hP
  have HR := Lib.hid hr
  have HV := Lib.hid hv
  have HL' := Lib.hid hl
  have hp6 : pack.length ≤ 6 := by omega
  clear hH hP hr hv hl
  go_enter Try.func175, Try.ntmps175
  go_wp2
  go_loopw [9] (fun i wr => ∃ k : Nat, k ≤ pack.length ∧ i = .int .i64 k ∧ Below w.heap.size w wr ∧ HBox wr w.heap.size L h ∧ CasksAt wr (w.heap.size + 1) (casksTo h pack k)) (fun i _ => pack.length - (intOf i).toNat)
  case atStart =>
    refine ⟨0, Nat.zero_le _, rfl, ((Below.refl _ _).alloc (Nat.le_refl _) _).alloc (by simp) _, (HBox.new w L h).of (Below.heap_alloc _ _ _ (by simp)), ?_⟩
    have := World.alloc_heap_new (w.alloc (.cells #[.slice L.Ak h.ks.length L.ck, .int .i64 h.fl, .slice L.Ap h.ps.length L.cp, .slice L.Ab h.bs.length L.cb] 27)) (.cells (flatC [c0, c0, c0, c0, c0]).toArray 169)
    rw [World.size_alloc] at this
    exact this
  case round =>
    obtain ⟨k, hk, rfl, hb, hB, hC⟩ := hrel
    by_cases hlt : k < pack.length
    · as_aux_lemma =>
      obtain ⟨x, hx⟩ : ∃ x, pack[k]? = some x := ⟨_, List.getElem?_eq_getElem hlt⟩
      obtain ⟨b1, o1, rfl, b1lt, d1⟩ := IntsAt.at_ (HP.out.keep hb.size fun _ _ hlt => hb.cell (p := ⟨_, _, none⟩) hlt) hx
      obtain ⟨hx0, hx4⟩ := HR.out k x hx
      obtain ⟨e0, e1, e2, e3⟩ := hB.cells
      have hbx : barrelOf pack k = x := by simp [barrelOf, List.getD, hx]
      by_cases hm : x = -1
      · have hd : (x != -1) = false := by simp [hm]
        go_wp2
        go_roundw
        case rel => exact ⟨k + 1, by omega, by go_num, hb, hB, by rw [casksTo, if_pos (hbx.trans hm)]; exact hC⟩
        case measure => simp [intOf]; omega
      · obtain ⟨xn, rfl⟩ : ∃ xn : Nat, x = (xn : Int) := ⟨x.toNat, by omega⟩
        have hd : decide ((xn : Int) ≠ -1) = true := by simp <;> omega
        obtain ⟨kk, p1, p2, p3, p4, p5⟩ := HV.out.part (k := k) (by rw [← HL'.out]; exact hlt)
        have hxl : xn < (casksTo h pack k).length := by rw [casksTo_len]; omega
        obtain ⟨cc, hcc⟩ : ∃ cc, (casksTo h pack k)[xn]? = some cc := ⟨_, List.getElem?_eq_getElem hxl⟩
        have hcok := (casksTo_upto HV.out pack k (by rw [← HL'.out]; exact hk) xn cc hcc).ok (by omega)
        have hCC := hC.at_ hcc
        have hHr := HH.out.below hb
        have P1 := Lib.hid p1
        have P2 := Lib.hid p2
        have P3 := Lib.hid p3
        have X1 := Lib.hid hx
        have C1 := Lib.hid hcc
        clear p1 p2 p3 hx hcc
        go_wp2
        go_region_with (go_at_call 197; go_must (refine (lay_any L h k kk _ _ cc hcok (w.heap.size + 1) (xn * 4) wr.drew (flatC (casksTo h pack k)).toArray 169 hHr.drew P1.out P2.out P3.out p4 p5 ⟨by omega, by omega⟩ hC hCC.drew).mono ?_); rintro e W5 ⟨⟨v, rfl⟩, g1, g2⟩)
        all_goals go_wp2
        all_goals
          go_roundw
          case rel =>
            have hle := hb.size
            have g1' : KpB (fun j => j = w.heap.size + 1) wr.heap.size wr W5 := g1.ofDrew
            refine ⟨k + 1, by omega, by go_num, hb.trans ((g1'.mono hle (S' := fun j => j = w.heap.size + 1) fun _ _ h => h).below fun j hj => by have hj' : j = w.heap.size + 1 := hj; omega), hB.of (g1'.block _ hB.lt (fun hj => by have hj' : w.heap.size = w.heap.size + 1 := hj; omega)), ?_⟩
            have hne : ¬ barrelOf pack k = -1 := by rw [hbx]; exact hm
            rw [casksTo, if_neg hne, hbx]
            have e5 : ((casksTo h pack k).getD (xn : Int).toNat c0) = cc := by simp [List.getD, C1.out]
            rw [e5, Int.toNat_natCast]
            exact casks_set g2
          case measure => simp [intOf]; omega
    · obtain rfl : k = pack.length := by omega
      have hl5 := casksTo_len h pack pack.length
      have e1 := HL'.out
      as_aux_lemma =>
        go_wp2_with (first
          | (refine wpl_load81 rfl (.tmp 4) rfl (w.heap.size + 1) rfl _ hl5 hC ?_)
          | (refine wpl_store81 rfl (.tmp 4) (.tmp 22) rfl (w.heap.size + 1) rfl (casksTo h pack pack.length) rfl hl5 hC ?_))
        refine bodyPost_ret (results_cell rfl rfl (load81 hl5 hC)) rfl ⟨?_, hb⟩
        rw [packedC, e1]
end Go.Proofs.Ytmbcpmnigggbaaa
