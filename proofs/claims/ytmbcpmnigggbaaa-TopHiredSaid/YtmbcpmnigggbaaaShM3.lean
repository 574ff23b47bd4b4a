import Derived.Test.YtmbcpmnigggbaaaShM2
import Derived.Test.YtmbcpmnigggbaaaShB1
namespace Go.Proofs.Ytmbcpmnigggbaaa.Sh
/-! What each node gets, in plain Lean. -/
def nodeAt (ns : List Node) (i : Nat) : Node := ns[i]?.getD ⟨0, 0, 0⟩
def isKid (ns : List Node) (k i : Nat) : Bool := decide (0 < i) && decide ((nodeAt ns i).u = (k : Int))
/-- The nodes below a node, ascending. -/
def kidsN (ns : List Node) (k : Nat) : List Nat := (List.range ns.length).filter (isKid ns k)
def look (n : Nat) : List (Nat × Int) → Int
  | [] => 0
  | (k, v) :: r => if k = n then v else look n r
/-- What a node gets (the number bounds the way up). -/
def getS (ns : List Node) (pence : Int) : Nat → Nat → Int
  | 0, _ => pence
  | f + 1, n => if n = 0 then pence else look n ((kidsN ns (nodeAt ns n).u.toNat).zip (splitL (getS ns pence f (nodeAt ns n).u.toNat) ((kidsN ns (nodeAt ns n).u.toNat).map (nodeAt ns))).1)
def gotS (ns : List Node) (pence : Int) (n : Nat) : Int := getS ns pence n n
def keptS (ns : List Node) (pence : Int) (n : Nat) : Int := (splitL (gotS ns pence n) ((kidsN ns n).map (nodeAt ns))).2

/-- What a valid custom is good for. -/
structure GoodC (ns : List Node) : Prop where
  l1 : 1 ≤ ns.length
  l8 : ns.length ≤ 8
  up : ∀ (i : Nat) (x : Node), ns[i]? = some x → 0 < i → 0 ≤ x.u ∧ x.u < i
  top : ∀ (x : Node), ns[0]? = some x → x.u = -1
  ws : ∀ (i : Nat) (x : Node), ns[i]? = some x → 0 ≤ x.w ∧ x.w ≤ 9
  fs : ∀ (i : Nat) (x : Node), ns[i]? = some x → 0 ≤ x.f ∧ x.f ≤ 20
theorem good_of {ns : List Node} (h : validB ns = true) : GoodC ns := by
  simp only [validB, Bool.and_eq_true] at h
  obtain ⟨h1, h2⟩ := h
  rw [inR_true] at h1
  have ha : ∀ i x, ns[i]? = some x → nodeOK i x = true := fun i x hx => by
    have hi : i < ns.length := (List.getElem?_eq_some_iff.1 hx).1
    have := (List.all_eq_true.1 h2) i (List.mem_range.2 hi)
    simpa only [hx] using this
  have hb : ∀ i x, ns[i]? = some x → upOK i x = true ∧ inR x.w 0 9 = true ∧ inR x.f 0 20 = true := fun i x hx => by
    have := ha i x hx
    simp only [nodeOK, Bool.and_eq_true] at this
    exact this
  refine ⟨by omega, by omega, fun i x hx hi => ?_, fun x hx => ?_, fun i x hx => inR_true.1 (hb i x hx).2.1, fun i x hx => inR_true.1 (hb i x hx).2.2⟩
  · have := (hb i x hx).1
    rw [upOK, if_neg (by omega), inR_true] at this
    omega
  · have := (hb 0 x hx).1
    rw [upOK, if_pos rfl] at this
    simpa using this
theorem GoodC.ok {ns : List Node} (h : GoodC ns) : ∀ i x, ns[i]? = some x → OKp ns.length (i, x) := fun i x hx =>
  ⟨(List.getElem?_eq_some_iff.1 hx).1, h.l8, (h.ws i x hx).1, (h.ws i x hx).2, (h.fs i x hx).1, (h.fs i x hx).2⟩
theorem GoodC.at_ {ns : List Node} {i : Nat} (hi : i < ns.length) : ns[i]? = some (nodeAt ns i) := by
  rw [nodeAt, List.getElem?_eq_getElem hi]; rfl
theorem GoodC.upN {ns : List Node} (h : GoodC ns) {n : Nat} (hn : n < ns.length) (h0 : 0 < n) : (nodeAt ns n).u.toNat < n ∧ ((nodeAt ns n).u.toNat : Int) = (nodeAt ns n).u := by
  have := h.up n _ (GoodC.at_ hn) h0
  omega

theorem kidsTo_keys {ns : List Node} (h : GoodC ns) (k : Nat) : ∀ j, j ≤ ns.length → keysOf (kidsTo ns.length ns k j) = (List.range j).filter (isKid ns k) ∧ nodesOf (kidsTo ns.length ns k j) = ((List.range j).filter (isKid ns k)).map (nodeAt ns)
  | 0, _ => by simp [kidsTo, keysOf, nodesOf]
  | j + 1, hj => by
    obtain ⟨i1, i2⟩ := kidsTo_keys h k j (by omega)
    have hx := GoodC.at_ (ns := ns) (i := j) (by omega)
    have hok := h.ok j _ hx
    by_cases hc : 0 < j ∧ (nodeAt ns j).u = (k : Int)
    · rw [kidsTo_yes hx hok hc.1 hc.2]
      have hk : isKid ns k j = true := by simp [isKid, hc.1, hc.2]
      rw [List.range_succ, List.filter_append]
      simp only [List.filter_cons, hk, if_true, List.filter_nil, keysOf, nodesOf, List.map_append, List.map_cons, List.map_nil] at i1 i2 ⊢
      rw [i1, i2]
      exact ⟨rfl, rfl⟩
    · rw [kidsTo_no hx hc]
      have hk : isKid ns k j = false := by
        cases he : isKid ns k j
        · rfl
        · simp only [isKid, Bool.and_eq_true, decide_eq_true_eq] at he
          exact absurd he hc
      rw [List.range_succ, List.filter_append]
      simp only [List.filter_cons, hk, List.filter_nil, List.append_nil, Bool.false_eq_true, if_false]
      exact ⟨i1, i2⟩
theorem kids_keys {ns : List Node} (h : GoodC ns) (k : Nat) : keysOf (kidsTo ns.length ns k ns.length) = kidsN ns k := (kidsTo_keys h k _ (Nat.le_refl _)).1
theorem kids_nodes {ns : List Node} (h : GoodC ns) (k : Nat) : nodesOf (kidsTo ns.length ns k ns.length) = (kidsN ns k).map (nodeAt ns) := (kidsTo_keys h k _ (Nat.le_refl _)).2
theorem kids_nodup (ns : List Node) (k : Nat) : (kidsN ns k).Nodup := List.Pairwise.filter _ List.nodup_range
theorem kids_keyd {ns : List Node} (h : GoodC ns) (k : Nat) : Keyd (kidsTo ns.length ns k ns.length) := by
  have := kids_nodup ns k
  rw [← kids_keys h k, keysOf] at this
  exact List.pairwise_map.1 this
theorem mem_kids {ns : List Node} {k i : Nat} : i ∈ kidsN ns k ↔ i < ns.length ∧ 0 < i ∧ (nodeAt ns i).u = (k : Int) := by
  simp [kidsN, isKid, List.mem_filter, List.mem_range]

/-! ### the step of share -/
theorem set_getD (l : List Int) (k n : Nat) (v : Int) : (l.set k v)[n]?.getD 0 = if k = n ∧ n < l.length then v else l[n]?.getD 0 := by
  rw [List.getElem?_set]
  by_cases h : k = n
  · subst h
    by_cases hl : k < l.length
    · simp [hl]
    · simp [hl]
  · simp [h]
theorem applyG_get (gs : List (Nat × Int)) : ∀ (l : List Int) (n : Nat), (gs.map (·.1)).Nodup → n < l.length → (applyG l gs)[n]?.getD 0 = if n ∈ gs.map (·.1) then look n gs else l[n]?.getD 0 := by
  induction gs with
  | nil => intro l n _ _; simp [applyG]
  | cons p gs ih =>
    intro l n hd hn
    obtain ⟨k, v⟩ := p
    simp only [List.map_cons, List.nodup_cons] at hd
    have := ih (l.set k v) n hd.2 (by simpa using hn)
    simp only [applyG, List.foldl_cons, List.map_cons, List.mem_cons, look] at this ⊢
    rw [this, set_getD]
    by_cases e : k = n
    · subst e
      rw [if_neg hd.1, if_pos ⟨rfl, hn⟩, if_pos (.inl rfl), if_pos rfl]
    · have e2 : ¬ (k = n ∧ n < l.length) := fun h => e h.1
      by_cases hm : n ∈ gs.map (·.1)
      · rw [if_pos hm, if_pos (.inr hm), if_neg e]
      · rw [if_neg hm, if_neg e2, if_neg (fun h => h.elim (fun h => e h.symm) hm)]

theorem zip_fst (ks : List Nat) (vs : List Int) (h : vs.length = ks.length) : (ks.zip vs).map (·.1) = ks := List.map_fst_zip (by omega)

theorem getS_more {ns : List Node} (h : GoodC ns) (pence : Int) : ∀ (n f : Nat), n < ns.length → n ≤ f → getS ns pence f n = gotS ns pence n := by
  intro n
  induction n using Nat.strongRecOn with
  | _ n ih =>
    intro f hn hf
    by_cases h0 : n = 0
    · subst h0
      cases f <;> simp [getS, gotS]
    · obtain ⟨u1, u2⟩ := h.upN hn (by omega)
      rcases f with _ | f
      · omega
      obtain ⟨m, rfl⟩ : ∃ m, n = m + 1 := ⟨n - 1, by omega⟩
      have e1 := ih _ u1 f (by omega) (by omega)
      have e2 := ih _ u1 m (by omega) (by omega)
      rw [gotS]
      simp only [getS]
      rw [e1, e2]
theorem gotS_zero (ns : List Node) (pence : Int) : gotS ns pence 0 = pence := rfl
/-- What a node gets is its place in what its Up splits. -/
theorem gotS_up {ns : List Node} (h : GoodC ns) (pence : Int) {n : Nat} (hn : n < ns.length) (h0 : 0 < n) :
    gotS ns pence n = look n ((kidsN ns (nodeAt ns n).u.toNat).zip (splitL (gotS ns pence (nodeAt ns n).u.toNat) ((kidsN ns (nodeAt ns n).u.toNat).map (nodeAt ns))).1) := by
  obtain ⟨u1, u2⟩ := h.upN hn h0
  obtain ⟨m, rfl⟩ : ∃ m, n = m + 1 := ⟨n - 1, by omega⟩
  rw [gotS]
  simp only [getS]
  rw [if_neg (by omega), getS_more h pence _ m (by omega) (by omega)]

theorem look_mem : ∀ (gs : List (Nat × Int)) (n : Nat), n ∈ gs.map (·.1) → (n, look n gs) ∈ gs
  | [], n, h => by simp at h
  | (k, v) :: gs, n, h => by
    simp only [look]
    by_cases e : k = n
    · subst e; rw [if_pos rfl]; simp
    · rw [if_neg e]
      simp only [List.map_cons, List.mem_cons] at h
      exact List.mem_cons_of_mem _ (look_mem gs n (h.elim (fun h => absurd h.symm e) id))
theorem le_sum : ∀ (l : List Int), (∀ v ∈ l, 0 ≤ v) → ∀ v ∈ l, v ≤ l.sum
  | [], _, v, hv => by simp at hv
  | x :: xs, h, v, hv => by
    have hx := h x (by simp)
    have hs : 0 ≤ xs.sum := by
      clear hv
      have h' : ∀ v ∈ xs, 0 ≤ v := fun v hv => h v (by simp [hv])
      clear h hx
      induction xs with
      | nil => simp
      | cons y ys ih => have := ih (fun v hv => h' v (by simp [hv])); have := h' y (by simp); simp only [List.sum_cons]; omega
    simp only [List.sum_cons]
    rcases List.mem_cons.1 hv with rfl | hv
    · omega
    · have := le_sum xs (fun v hv => h v (by simp [hv])) v hv
      omega

theorem kidW {ns : List Node} (h : GoodC ns) (k : Nat) : ∀ x ∈ (kidsN ns k).map (nodeAt ns), 0 ≤ x.w := fun x hx => by
  obtain ⟨i, hi, rfl⟩ := List.mem_map.1 hx
  exact (h.ws i _ (GoodC.at_ (mem_kids.1 hi).1)).1
theorem kidF {ns : List Node} (h : GoodC ns) (k : Nat) : ∀ x ∈ (kidsN ns k).map (nodeAt ns), 0 ≤ x.f := fun x hx => by
  obtain ⟨i, hi, rfl⟩ := List.mem_map.1 hx
  exact (h.fs i _ (GoodC.at_ (mem_kids.1 hi).1)).1

theorem look_bd {ns : List Node} (h : GoodC ns) {k n : Nat} {p : Int} (hp : 0 ≤ p) (hn : n ∈ kidsN ns k) :
    0 ≤ look n ((kidsN ns k).zip (splitL p ((kidsN ns k).map (nodeAt ns))).1) ∧ look n ((kidsN ns k).zip (splitL p ((kidsN ns k).map (nodeAt ns))).1) ≤ p := by
  have hl : (splitL p ((kidsN ns k).map (nodeAt ns))).1.length = (kidsN ns k).length := by rw [splitL_len]; simp
  have hm := look_mem ((kidsN ns k).zip (splitL p ((kidsN ns k).map (nodeAt ns))).1) n (by rw [zip_fst _ _ hl]; exact hn)
  have hv := (List.of_mem_zip hm).2
  obtain ⟨n1, n2⟩ := splitL_nonneg p _ hp (kidW h k) (kidF h k)
  have hs := splitL_sum p _ hp (kidW h k) (kidF h k)
  have := le_sum _ n1 _ hv
  exact ⟨n1 _ hv, by omega⟩
theorem gotS_bd {ns : List Node} (h : GoodC ns) {pence : Int} (hp : 0 ≤ pence) : ∀ n, n < ns.length → 0 ≤ gotS ns pence n ∧ gotS ns pence n ≤ pence := by
  intro n
  induction n using Nat.strongRecOn with
  | _ n ih =>
    intro hn
    by_cases h0 : n = 0
    · subst h0; rw [gotS_zero]; omega
    · obtain ⟨u1, u2⟩ := h.upN hn (by omega)
      obtain ⟨i1, i2⟩ := ih _ u1 (by omega)
      rw [gotS_up h pence hn (by omega)]
      obtain ⟨b1, b2⟩ := look_bd h (k := (nodeAt ns n).u.toNat) (n := n) i1 (mem_kids.2 ⟨hn, by omega, u2.symm⟩)
      omega

/-- **What share comes to, when k nodes have been divided.** -/
theorem shTo_eq {ns : List Node} (h : GoodC ns) {pence : Int} (hp : 0 ≤ pence) : ∀ k, k ≤ ns.length →
    (∀ n, n < ns.length → (shTo ns pence k).1[n]?.getD 0 = if n = 0 then pence else if (nodeAt ns n).u.toNat < k then gotS ns pence n else 0) ∧
    (∀ n, n < ns.length → (shTo ns pence k).2[n]?.getD 0 = if n < k then keptS ns pence n else 0)
  | 0, _ => by
    refine ⟨fun n hn => ?_, fun n hn => ?_⟩
    · simp only [shTo, set_getD]
      by_cases e : n = 0
      · subst e; simp [hn]
      · have e' : ¬ (0 = n ∧ n < (List.replicate ns.length (0 : Int)).length) := fun hh => e hh.1.symm
        rw [if_neg e', if_neg e, if_neg (by omega)]
        simp [hn]
    · simp [shTo, hn]
  | k + 1, hk => by
    obtain ⟨i1, i2⟩ := shTo_eq h hp k (by omega)
    obtain ⟨l1, l2⟩ := shTo_len ns pence k
    have hgk : (shTo ns pence k).1[k]?.getD 0 = gotS ns pence k := by
      rw [i1 k (by omega)]
      by_cases e : k = 0
      · subst e; simp [gotS_zero]
      · rw [if_neg e, if_pos (h.upN (by omega) (by omega)).1]
    have hkd := kids_keyd h k
    have hlen : (splitL (gotS ns pence k) ((kidsN ns k).map (nodeAt ns))).1.length = (kidsN ns k).length := by rw [splitL_len]; simp
    refine ⟨fun n hn => ?_, fun n hn => ?_⟩
    · simp only [shTo, shStep]
      rw [gives_eq _ _ hkd, kids_keys h, kids_nodes h, hgk, applyG_get _ _ _ (by rw [zip_fst _ _ hlen]; exact kids_nodup ns k) (by rw [l1]; exact hn), zip_fst _ _ hlen, i1 n hn]
      by_cases hm : n ∈ kidsN ns k
      · obtain ⟨m1, m2, m3⟩ := mem_kids.1 hm
        have hu : (nodeAt ns n).u.toNat = k := by omega
        rw [if_pos hm, if_neg (by omega), if_pos (by omega), gotS_up h pence hn m2, hu]
      · rw [if_neg hm]
        by_cases e : n = 0
        · rw [if_pos e, if_pos e]
        · rw [if_neg e, if_neg e]
          have hu := h.upN hn (by omega)
          have hne : (nodeAt ns n).u.toNat ≠ k := fun hh => hm (mem_kids.2 ⟨hn, by omega, by omega⟩)
          by_cases hlt : (nodeAt ns n).u.toNat < k
          · rw [if_pos hlt, if_pos (by omega)]
          · rw [if_neg hlt, if_neg (by omega)]
    · simp only [shTo, shStep]
      rw [(splitF_eq _ _ hkd).1, kids_nodes h, hgk, set_getD, i2 n hn]
      by_cases e : k = n
      · subst e
        rw [if_pos ⟨rfl, by rw [l2]; omega⟩, if_pos (by omega)]
        rfl
      · rw [if_neg (fun hh => e hh.1)]
        by_cases hlt : n < k
        · rw [if_pos hlt, if_pos (by omega)]
        · rw [if_neg hlt, if_neg (by omega)]
theorem shTo_bd {ns : List Node} (h : GoodC ns) {pence : Int} (hp : 0 ≤ pence) (hp4 : pence ≤ 400) : ∀ k, k < ns.length → 0 ≤ (shTo ns pence k).1[k]?.getD 0 ∧ (shTo ns pence k).1[k]?.getD 0 ≤ 400 := fun k hk => by
  rw [(shTo_eq h hp k (by omega)).1 k hk]
  have := gotS_bd h hp k hk
  split
  · omega
  · rw [if_pos (h.upN hk (by omega)).1]; omega
theorem ext_getD {l l' : List Int} (hl : l.length = l'.length) (h : ∀ n, n < l.length → l[n]?.getD 0 = l'[n]?.getD 0) : l = l' := by
  apply List.ext_getElem hl
  intro i h1 h2
  have := h i h1
  simpa [h1, h2] using this
def gotsS (ns : List Node) (pence : Int) : List Int := (List.range ns.length).map (gotS ns pence)
def keptsS (ns : List Node) (pence : Int) : List Int := (List.range ns.length).map (keptS ns pence)
theorem shTo_gots {ns : List Node} (h : GoodC ns) {pence : Int} (hp : 0 ≤ pence) : (shTo ns pence ns.length).1 = gotsS ns pence := by
  refine ext_getD (by rw [(shTo_len ns pence _).1]; simp [gotsS]) (fun n hn => ?_)
  rw [(shTo_len ns pence _).1] at hn
  rw [(shTo_eq h hp _ (Nat.le_refl _)).1 n hn]
  have e : (gotsS ns pence)[n]?.getD 0 = gotS ns pence n := by simp [gotsS, hn]
  rw [e]
  split
  · rename_i h0; subst h0; rfl
  · rw [if_pos (by have := (h.upN hn (by omega)).1; omega)]
theorem shTo_kepts {ns : List Node} (h : GoodC ns) {pence : Int} (hp : 0 ≤ pence) : (shTo ns pence ns.length).2 = keptsS ns pence := by
  refine ext_getD (by rw [(shTo_len ns pence _).2]; simp [keptsS]) (fun n hn => ?_)
  rw [(shTo_len ns pence _).2] at hn
  rw [(shTo_eq h hp _ (Nat.le_refl _)).2 n hn, if_pos hn]
  simp [keptsS, hn]
end Go.Proofs.Ytmbcpmnigggbaaa.Sh
