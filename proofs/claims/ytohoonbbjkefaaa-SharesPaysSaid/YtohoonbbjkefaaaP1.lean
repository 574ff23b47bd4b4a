import Derived.Test.YtohoonbbjkefaaaK6
namespace Go.Proofs.Ytohoonbbjkefaaa
open Go.RowKit

/-! The plain law of old payments. -/
/-- A payment as the custom itself would have it. -/
def ownOf (ns : List Node) (p : Node) : Node := ⟨p.u, p.w, gotS ns p.u p.w.toNat⟩
def ownP (ns ps : List Node) : List Node := ps.map (ownOf ns)
theorem own_agrees (ns : List Node) (p : Node) : agreesB ns (ownOf ns p) = true := decide_eq_true rfl
theorem own_pay {ns : List Node} (h : GoodC ns) {p : Node} (hp : payOK ns.length p = true) : payOK ns.length (ownOf ns p) = true := by
  obtain ⟨h1, h2, _⟩ := payOK_of hp
  have := gotS_bd h h1.1 p.w.toNat (by omega)
  unfold payOK
  simp only [Bool.and_eq_true, inR_true]
  exact ⟨h1, h2, by show 0 ≤ gotS ns p.u p.w.toNat ∧ gotS ns p.u p.w.toNat ≤ 400; omega⟩
theorem own_all {ns ps : List Node} (h : GoodC ns) (hp : ps.all (payOK ns.length) = true) : (ownP ns ps).all (payOK ns.length) = true := by
  unfold ownP
  rw [List.all_map, List.all_eq_true]
  intro p hp'
  exact own_pay h ((List.all_eq_true.1 hp) p hp')
theorem wrong_own (ns ps : List Node) : ∀ k, k ≤ (ownP ns ps).length → wrongTo ns (ownP ns ps) k = []
  | 0, _ => rfl
  | k + 1, hk => by
    have hx : (ownP ns ps)[k]? = some (nodeAt (ownP ns ps) k) := GoodC.at_ (by omega)
    have hm := List.mem_of_getElem? hx
    unfold ownP at hm
    obtain ⟨p, _, hp⟩ := List.mem_map.1 hm
    change ownOf ns p = nodeAt (ownP ns ps) k at hp
    rw [wrongTo_yes (by rw [← hp]; exact own_agrees ns p)]
    exact wrong_own ns ps k (by omega)
theorem setW_same {ns : List Node} {m : Nat} (hm : m < ns.length) : setW ns m (nodeAt ns m).w = ns := by
  unfold setW
  refine List.ext_getElem? (fun i => ?_)
  rw [List.getElem?_set]
  split
  · rename_i e
    subst e
    rw [GoodC.at_ hm]
  · rfl
/-- The Weights that a node could have, as places. -/
def okW (ns : List Node) (m : Nat) (ps : List Node) (j : Nat) : Bool := !(ps.any (fun p => !agreesB (setW ns m j) p))
def wN (ns : List Node) (m : Nat) (ps : List Node) : List Nat := (List.range 10).filter (okW ns m ps)
theorem wtsTo_filter (ns : List Node) (m : Nat) (ps : List Node) : ∀ k, wtsTo ns m ps k = ((List.range k).filter (okW ns m ps)).map (fun j : Nat => (j : Int))
  | 0 => rfl
  | k + 1 => by
    have ih := wtsTo_filter ns m ps k
    rw [List.range_succ, List.filter_append, List.map_append, ← ih]
    cases hq : ps.any (fun p => !agreesB (setW ns m k) p)
    · rw [wts_yes hq]
      have : okW ns m ps k = true := by unfold okW; rw [hq]; rfl
      simp [this]
    · rw [wts_no hq]
      have : okW ns m ps k = false := by unfold okW; rw [hq]; rfl
      simp [this]
theorem wts_wN (ns : List Node) (m : Nat) (ps : List Node) : wtsTo ns m ps 10 = (wN ns m ps).map (fun j : Nat => (j : Int)) := wtsTo_filter ns m ps 10
theorem okW_own {ns : List Node} {m : Nat} (hm : m < ns.length) (ps : List Node) {w0 : Nat} (hw : (nodeAt ns m).w = (w0 : Int)) : okW ns m (ownP ns ps) w0 = true := by
  unfold okW
  have : setW ns m (w0 : Int) = ns := by rw [← hw]; exact setW_same hm
  rw [this, Bool.not_eq_true', List.any_eq_false]
  intro p hp
  unfold ownP at hp
  obtain ⟨q, _, rfl⟩ := List.mem_map.1 hp
  rw [own_agrees]
  simp
theorem wN_own {ns : List Node} {m : Nat} (h : GoodC ns) (hm : m < ns.length) (ps : List Node) {w0 : Nat} (hw : (nodeAt ns m).w = (w0 : Int)) : w0 ∈ wN ns m (ownP ns ps) := by
  have := h.ws m _ (GoodC.at_ hm)
  exact List.mem_filter.2 ⟨List.mem_range.2 (by omega), okW_own hm ps hw⟩
theorem wN_nodup (ns : List Node) (m : Nat) (ps : List Node) : (wN ns m ps).Nodup := List.Pairwise.filter _ List.nodup_range
theorem okW_tail {ns : List Node} {m : Nat} {p : Node} {ps : List Node} {j : Nat} (h : okW ns m (p :: ps) j = true) : okW ns m ps j = true := by
  unfold okW at *
  simp only [List.any_cons, Bool.not_or, Bool.and_eq_true] at h
  exact h.2
theorem filter_less {α : Type} {p q : α → Bool} (h : ∀ x, p x = true → q x = true) : ∀ l : List α, (l.filter p).length ≤ (l.filter q).length
  | [] => Nat.le_refl _
  | x :: xs => by
    have ih := filter_less h xs
    by_cases hp : p x = true
    · rw [List.filter_cons_of_pos hp, List.filter_cons_of_pos (h x hp)]
      simp only [List.length_cons]
      omega
    · rw [List.filter_cons_of_neg hp]
      by_cases hq : q x = true
      · rw [List.filter_cons_of_pos hq]; simp only [List.length_cons]; omega
      · rw [List.filter_cons_of_neg hq]; exact ih
/-- With one payment less there are no fewer Weights. -/
theorem wts_tail (ns : List Node) (m : Nat) (p : Node) (ps : List Node) : (wtsTo ns m (p :: ps) 10).length ≤ (wtsTo ns m ps 10).length ∧ ∀ x ∈ wtsTo ns m (p :: ps) 10, x ∈ wtsTo ns m ps 10 := by
  rw [wts_wN, wts_wN, List.length_map, List.length_map]
  refine ⟨filter_less (fun j hj => okW_tail hj) _, fun x hx => ?_⟩
  obtain ⟨j, hj, rfl⟩ := List.mem_map.1 hx
  obtain ⟨h1, h2⟩ := List.mem_filter.1 hj
  exact List.mem_map.2 ⟨j, List.mem_filter.2 ⟨h1, okW_tail h2⟩, rfl⟩
/-- Strictly ascending, each from 0 to 9. -/
theorem wts_rise (ns : List Node) (m : Nat) (ps : List Node) : (wtsTo ns m ps 10).Pairwise (· < ·) ∧ ∀ x ∈ wtsTo ns m ps 10, 0 ≤ x ∧ x ≤ 9 := by
  refine ⟨?_, fun x hx => by have := wtsTo_bd ns m ps 10 x hx; omega⟩
  rw [wts_wN, List.pairwise_map]
  refine (List.Pairwise.filter _ List.pairwise_lt_range).imp (fun h => ?_)
  omega
theorem okW_snoc (ns : List Node) (m : Nat) (ps : List Node) (q : Node) (j : Nat) : okW ns m (ps ++ [q]) j = (okW ns m ps j && agreesB (setW ns m j) q) := by
  unfold okW
  rw [List.any_append]
  simp only [List.any_cons, List.any_nil, Bool.or_false, Bool.not_or, Bool.not_not]
theorem nodup_filter_eq {α : Type} [DecidableEq α] {a : α} : ∀ {l : List α}, l.Nodup → a ∈ l → l.filter (fun x => decide (x = a)) = [a]
  | [], _, h => by simp at h
  | x :: xs, hn, h => by
    obtain ⟨h1, h2⟩ := List.nodup_cons.1 hn
    by_cases e : x = a
    · subst e
      rw [List.filter_cons_of_pos (by simp)]
      have : xs.filter (fun y => decide (y = x)) = [] := by
        rw [List.filter_eq_nil_iff]
        intro y hy hyx
        have := of_decide_eq_true hyx
        subst this
        exact h1 hy
      rw [this]
    · rw [List.filter_cons_of_neg (by simpa using e)]
      exact nodup_filter_eq h2 ((List.mem_cons.1 h).resolve_left (fun h => e h.symm))
/-- One payment more, of the pence that tell the Weights apart, leaves one Weight. -/
theorem wts_ask {ns : List Node} {m : Nat} (h : GoodC ns) (hm : m < ns.length) (ps : List Node) {P : Nat} {w0 : Nat} (hw : (nodeAt ns m).w = (w0 : Int)) (hd : (askKeys ns m (wtsTo ns m (ownP ns ps) 10) P).Nodup) :
    wtsTo ns m (ownP ns ps ++ [⟨(P : Int), (m : Int), gotS ns P m⟩]) 10 = [(w0 : Int)] := by
  rw [wts_wN] at hd ⊢
  have hmem := wN_own h hm ps hw
  have e : wN ns m (ownP ns ps ++ [⟨(P : Int), (m : Int), gotS ns P m⟩]) = (wN ns m (ownP ns ps)).filter (fun j => decide (j = w0)) := by
    unfold wN
    rw [List.filter_filter]
    refine List.filter_congr (fun j hj => ?_)
    rw [okW_snoc, Bool.and_comm]
    cases ho : okW ns m (ownP ns ps) j
    · simp
    · rw [Bool.and_true, Bool.and_true]
      have hjm : j ∈ wN ns m (ownP ns ps) := List.mem_filter.2 ⟨hj, ho⟩
      rw [Bool.eq_iff_iff, decide_eq_true_eq]
      unfold agreesB
      rw [decide_eq_true_eq]
      show gotS (setW ns m (j : Int)) P (m : Int).toNat = gotS ns P m ↔ j = w0
      have hws : setW ns m (w0 : Int) = ns := by rw [← hw]; exact setW_same hm
      constructor
      · intro hh
        unfold askKeys at hd
        rw [List.map_map] at hd
        have hinj : ∀ (l : List Nat) (f : Nat → Int), (l.map f).Nodup → ∀ a ∈ l, ∀ b ∈ l, f a = f b → a = b := by
          intro l f
          induction l with
          | nil => intro _ a ha; simp at ha
          | cons y ys ih =>
            intro hn a ha b hb hab
            rw [List.map_cons, List.nodup_cons] at hn
            rcases List.mem_cons.1 ha with e1 | h1
            · rcases List.mem_cons.1 hb with e2 | h2
              · rw [e1, e2]
              · exact absurd (List.mem_map.2 ⟨b, h2, by rw [← hab, e1]⟩) hn.1
            · rcases List.mem_cons.1 hb with e2 | h2
              · exact absurd (List.mem_map.2 ⟨a, h1, by rw [hab, e2]⟩) hn.1
              · exact ih hn.2 a h1 b h2 hab
        refine hinj _ _ hd j hjm w0 hmem ?_
        show gotS (setW ns m (j : Int)) P m = gotS (setW ns m (w0 : Int)) P m
        rw [hws]
        exact hh
      · intro hh
        subst hh
        rw [hws]
        rfl
  rw [e, nodup_filter_eq (wN_nodup _ _ _) hmem]
  rfl
end Go.Proofs.Ytohoonbbjkefaaa
