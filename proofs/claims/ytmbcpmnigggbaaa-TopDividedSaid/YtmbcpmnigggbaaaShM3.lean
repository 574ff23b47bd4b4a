import Derived.Test.YtmbcpmnigggbaaaShE0
import Derived.Test.YtmbcpmnigggbaaaShA1
import Derived.Test.YtmbcpmnigggbaaaShM2
namespace Go.Proofs.Ytmbcpmnigggbaaa.Sh
open Go.RowKit

theorem within_any (n lo hi : Int) (w : World) : Calls Try.prog 161 #[.int .i64 n, .int .i64 lo, .int .i64 hi] w fun e w' => e = .returned (.bool (inR n lo hi)) ∧ w = w' := by
  by_cases h : lo ≤ n <;> by_cases h2 : n ≤ hi
  all_goals
    have e : inR n lo hi = (decide (lo ≤ n) && decide (n ≤ hi)) := rfl
    have E := Lib.hid e
    clear e
    go_enter Try.func161, Try.ntmps161
    go_wp2
    go_ret
    exact ⟨by rw [E.out]; simp <;> omega, rfl⟩
theorem refWithin_any (n lo hi : Int) (w : World) : Calls Try.prog 28 #[.int .i64 n, .int .i64 lo, .int .i64 hi] w fun e w' => e = .returned (.bool (inR n lo hi)) ∧ w = w' := by
  by_cases h : lo ≤ n <;> by_cases h2 : n ≤ hi
  all_goals
    have e : inR n lo hi = (decide (lo ≤ n) && decide (n ≤ hi)) := rfl
    have E := Lib.hid e
    clear e
    go_enter Try.func28, Try.ntmps28
    go_wp2
    go_ret
    exact ⟨by rw [E.out]; simp <;> omega, rfl⟩
theorem refWithin2_any (n lo hi : Int) (w : World) : Calls Try.prog 106 #[.int .i64 n, .int .i64 lo, .int .i64 hi] w fun e w' => e = .returned (.bool (inR n lo hi)) ∧ w = w' := by
  go_enter Try.func106, Try.ntmps106
  go_wp2_with (go_at_call 28; refine (refWithin_any _ _ _ _).mono ?_; rintro e w' ⟨rfl, rfl⟩)
  go_ret
  exact ⟨rfl, rfl⟩
theorem isPence_any (n : Int) (w : World) : Calls Try.prog 108 #[.int .i64 n] w fun e w' => e = .returned (.bool (inR n 0 400)) ∧ w = w' := by
  go_enter Try.func108, Try.ntmps108
  go_wp2_with (go_at_call 161; refine (within_any _ _ _ _).mono ?_; rintro e w' ⟨rfl, rfl⟩)
  go_ret
  exact ⟨rfl, rfl⟩
theorem isNode_any (A : Option Addr) (n c : Nat) (k : Int) (w : World) (hn : n ≤ 1000) : Calls Try.prog 147 #[.agg #[.slice A n c], .int .i64 k] w fun e w' => e = .returned (.bool (inR k 0 (n - 1))) ∧ Below w.heap.size w w' := by
  go_enter Try.func147, Try.ntmps147
  go_wp2_with (go_at_call 161; refine (within_any _ _ _ _).mono ?_; rintro e w' ⟨rfl, rfl⟩)
  go_ret
  exact ⟨rfl, (Below.refl _ _).alloc (Nat.le_refl _) _⟩
theorem refIsNode_any (A : Option Addr) (n c : Nat) (k : Int) (w : World) (hn : n ≤ 1000) : Calls Try.prog 50 #[.agg #[.slice A n c], .int .i64 k] w fun e w' => e = .returned (.bool (inR k 0 (n - 1))) ∧ Below w.heap.size w w' := by
  go_enter Try.func50, Try.ntmps50
  go_wp2_with (go_at_call 106; refine (refWithin2_any _ _ _ _).mono ?_; rintro e w' ⟨rfl, rfl⟩)
  go_ret
  exact ⟨rfl, (Below.refl _ _).alloc (Nat.le_refl _) _⟩

theorem Nodes.at_ {W : World} {B : Nat} {A : Option Addr} {ns : List Node} (h : Nodes W B A ns) {k : Nat} {x : Node} (hx : ns[k]? = some x) : ∃ b off, A = some ⟨b, off, none⟩ ∧ b < B ∧
    W.cell? ⟨b, off + k * 3, none⟩ = some (.int .i64 x.u) ∧ W.cell? ⟨b, off + k * 3 + 1, none⟩ = some (.int .i64 x.w) ∧ W.cell? ⟨b, off + k * 3 + 2, none⟩ = some (.int .i64 x.f) := by
  rcases h with h | ⟨b, off, hA, hb, hc⟩
  · subst h; simp at hx
  · exact ⟨b, off, hA, hb, hc k x hx⟩

/-- A custom that is valid. -/
def upOK (i : Nat) (x : Node) : Bool := if i = 0 then decide (x.u = -1) else inR x.u 0 (i - 1)
def nodeOK (i : Nat) (x : Node) : Bool := upOK i x && (inR x.w 0 9 && inR x.f 0 20)
def allOK (ns : List Node) : Bool := (List.range ns.length).all fun i => match ns[i]? with | some x => nodeOK i x | none => true
def validB (ns : List Node) : Bool := inR ns.length 1 8 && allOK ns
def ckE (ns : List Node) : Int := if validB ns then 0 else 100
theorem ckE_yes {ns : List Node} (h : validB ns = true) : ckE ns = 0 := by simp [ckE, h]
theorem ckE_no {ns : List Node} (h : validB ns = false) : ckE ns = 100 := by simp [ckE, h]
theorem validB_bad {ns : List Node} {i : Nat} {x : Node} (hx : ns[i]? = some x) (h : nodeOK i x = false) : validB ns = false := by
  have hi : i < ns.length := (List.getElem?_eq_some_iff.1 hx).1
  have : allOK ns = false := by
    rw [allOK, List.all_eq_false]
    exact ⟨i, List.mem_range.2 hi, by simp only [hx]; simp [h]⟩
  simp [validB, this]
theorem okStep {ns : List Node} {k : Nat} {x : Node} (h : ∀ j x, j < k → ns[j]? = some x → nodeOK j x = true) (hx : ns[k]? = some x) (hk : nodeOK k x = true) : ∀ j x, j < k + 1 → ns[j]? = some x → nodeOK j x = true := by
  intro j y hj hy
  by_cases e : j = k
  · subst e; rw [hx] at hy; cases hy; exact hk
  · exact h j y (by omega) hy
theorem validB_good {ns : List Node} (hl : inR ns.length 1 8 = true) (h : ∀ i x, ns[i]? = some x → nodeOK i x = true) : validB ns = true := by
  have : allOK ns = true := by
    rw [allOK, List.all_eq_true]
    intro i hi
    cases hx : ns[i]? with
    | none => rfl
    | some x => exact h i x hx
  simp [validB, this, hl]

set_option maxRecDepth 100000 in
set_option maxHeartbeats 4000000 in
theorem check_any (A : Option Addr) (c : Nat) (ns : List Node) (hn : ns.length ≤ 1000) (w : World) (hN : Nodes w w.heap.size A ns) : Calls Try.prog 105 #[.agg #[.slice A ns.length c]] w fun e w' => e = .returned (.int .i64 (ckE ns)) ∧ Below w.heap.size w w' := by
  by_cases hl : inR ns.length 1 8 = true
  · go_enter Try.func105, Try.ntmps105
    go_wp2_with (go_at_call 161; refine (within_any _ _ _ _).mono ?_; rintro e w' ⟨rfl, rfl⟩)
    have HL := Lib.hid hl
    go_loopw [3, 4, 5, 14] (fun _ _ _ i wr => ∃ k : Nat, k ≤ ns.length ∧ i = .int .i64 k ∧ (∀ j x, j < k → ns[j]? = some x → nodeOK j x = true) ∧ Below w.heap.size w wr) (fun _ _ _ i _ => ns.length - (intOf i).toNat)
    case atStart => exact ⟨0, Nat.zero_le _, rfl, fun j x hj => by omega, (Below.refl _ _).alloc (Nat.le_refl _) _⟩
    case round =>
      obtain ⟨k, hk, rfl, hok, hb⟩ := hrel
      by_cases hlt : k < ns.length
      · obtain ⟨x, hx⟩ : ∃ x, ns[k]? = some x := ⟨_, List.getElem?_eq_getElem hlt⟩
        obtain ⟨b, off, rfl, hbb, c1, c2, c3⟩ := hN.at_ hx
        have d1 := below_cell hb c1
        have d2 := below_cell hb c2
        have d3 := below_cell hb c3
        have HX := Lib.hid hx
        have HO := Lib.hid hok
        clear hx hok c1 c2 c3
        have hwr : w.heap.size ≤ wr.heap.size := hb.size
        cases hup : upOK k x <;> cases hw : inR x.w 0 9 <;> cases hf : inR x.f 0 20
        all_goals
          have HUP := Lib.hid hup
          clear hup
          by_cases hk0 : k = 0
          · have hk1 : k ≤ 0 := by omega
            have hkb : ((k : Int) == 0) = true := by simpa using hk0
            have hub : (x.u == -1) = upOK k x := by rw [upOK, if_pos hk0, Bool.eq_iff_iff]; simp
            rw [HUP.out] at hub
            clear hk0
            have hno : Hid (nodeOK k x = _) := Lib.hid (show nodeOK k x = _ from by rw [nodeOK, HUP.out, hw, hf])
            go_wp2_with (go_at_call 161; refine (within_any _ _ _ _).mono ?_; rintro e w' ⟨rfl, rfl⟩)
            first
              | (go_ret; exact ⟨by rw [ckE_no (validB_bad HX.out hno.out)]; rfl, hb.alloc hwr _⟩)
              | (go_roundw
                 case rel => exact ⟨k + 1, by omega, by go_num, okStep HO.out HX.out hno.out, hb.alloc hwr _⟩
                 case measure => simp [intOf]; omega)
          · have hk1 : 0 < k := by omega
            have hkb : ((k : Int) == 0) = false := by simpa using hk0
            have hub : inR x.u 0 (k - 1) = upOK k x := by rw [upOK, if_neg hk0]
            rw [HUP.out] at hub
            clear hk0
            have hno : Hid (nodeOK k x = _) := Lib.hid (show nodeOK k x = _ from by rw [nodeOK, HUP.out, hw, hf])
            go_wp2_with (go_at_call 161; refine (within_any _ _ _ _).mono ?_; rintro e w' ⟨rfl, rfl⟩)
            first
              | (go_ret; exact ⟨by rw [ckE_no (validB_bad HX.out hno.out)]; rfl, hb.alloc hwr _⟩)
              | (go_roundw
                 case rel => exact ⟨k + 1, by omega, by go_num, okStep HO.out HX.out hno.out, hb.alloc hwr _⟩
                 case measure => simp [intOf]; omega)
      · obtain rfl : k = ns.length := by omega
        go_wp2
        go_ret
        exact ⟨by rw [ckE_yes (validB_good HL.out (fun i x hx => hok i x (List.getElem?_eq_some_iff.1 hx).1 hx))]; rfl, hb⟩
  · go_enter Try.func105, Try.ntmps105
    have hl' : inR ns.length 1 8 = false := by simpa using hl
    have hv : validB ns = false := by simp [validB, hl']
    have HV := Lib.hid hv
    clear hv
    go_wp2_with (go_at_call 161; refine (within_any _ _ _ _).mono ?_; rintro e w' ⟨rfl, rfl⟩)
    go_ret
    exact ⟨by rw [ckE_no HV.out]; rfl, (Below.refl _ _).alloc (Nat.le_refl _) _⟩
end Go.Proofs.Ytmbcpmnigggbaaa.Sh
namespace Go.Proofs.Ytmbcpmnigggbaaa.Sh
/-! What each node gets, in plain Lean. -/
def nodeAt (ns : List Node) (i : Nat) : Node := ns[i]?.getD ⟨0, 0, 0⟩
def isKid (ns : List Node) (k i : Nat) : Bool := decide (0 < i) && decide ((nodeAt ns i).u = (k : Int))
/-- The nodes below a node, ascending. -/
def kidsN (ns : List Node) (k : Nat) : List Nat := (List.range ns.length).filter (isKid ns k)
def look (n : Nat) : List (Nat × Int) → Int
  | [] => 0
  | (k, v) :: r => if k = n then v else look n r
/-- What a node gets (the number bounds the way up). -/
def getS (ns : List Node) (pence : Int) : Nat → Nat → Int
  | 0, _ => pence
  | f + 1, n => if n = 0 then pence else look n ((kidsN ns (nodeAt ns n).u.toNat).zip (splitL (getS ns pence f (nodeAt ns n).u.toNat) ((kidsN ns (nodeAt ns n).u.toNat).map (nodeAt ns))).1)
def gotS (ns : List Node) (pence : Int) (n : Nat) : Int := getS ns pence n n
def keptS (ns : List Node) (pence : Int) (n : Nat) : Int := (splitL (gotS ns pence n) ((kidsN ns n).map (nodeAt ns))).2

/-- What a valid custom is good for. -/
structure GoodC (ns : List Node) : Prop where
  l1 : 1 ≤ ns.length
  l8 : ns.length ≤ 8
  up : ∀ (i : Nat) (x : Node), ns[i]? = some x → 0 < i → 0 ≤ x.u ∧ x.u < i
  top : ∀ (x : Node), ns[0]? = some x → x.u = -1
  ws : ∀ (i : Nat) (x : Node), ns[i]? = some x → 0 ≤ x.w ∧ x.w ≤ 9
  fs : ∀ (i : Nat) (x : Node), ns[i]? = some x → 0 ≤ x.f ∧ x.f ≤ 20
theorem good_of {ns : List Node} (h : validB ns = true) : GoodC ns := by
  simp only [validB, Bool.and_eq_true] at h
  obtain ⟨h1, h2⟩ := h
  rw [inR_true] at h1
  have ha : ∀ i x, ns[i]? = some x → nodeOK i x = true := fun i x hx => by
    have hi : i < ns.length := (List.getElem?_eq_some_iff.1 hx).1
    have := (List.all_eq_true.1 h2) i (List.mem_range.2 hi)
    simpa only [hx] using this
  have hb : ∀ i x, ns[i]? = some x → upOK i x = true ∧ inR x.w 0 9 = true ∧ inR x.f 0 20 = true := fun i x hx => by
    have := ha i x hx
    simp only [nodeOK, Bool.and_eq_true] at this
    exact this
  refine ⟨by omega, by omega, fun i x hx hi => ?_, fun x hx => ?_, fun i x hx => inR_true.1 (hb i x hx).2.1, fun i x hx => inR_true.1 (hb i x hx).2.2⟩
  · have := (hb i x hx).1
    rw [upOK, if_neg (by omega), inR_true] at this
    omega
  · have := (hb 0 x hx).1
    rw [upOK, if_pos rfl] at this
    simpa using this
theorem GoodC.ok {ns : List Node} (h : GoodC ns) : ∀ i x, ns[i]? = some x → OKp ns.length (i, x) := fun i x hx =>
  ⟨(List.getElem?_eq_some_iff.1 hx).1, h.l8, (h.ws i x hx).1, (h.ws i x hx).2, (h.fs i x hx).1, (h.fs i x hx).2⟩
theorem GoodC.at_ {ns : List Node} {i : Nat} (hi : i < ns.length) : ns[i]? = some (nodeAt ns i) := by
  rw [nodeAt, List.getElem?_eq_getElem hi]; rfl
theorem GoodC.upN {ns : List Node} (h : GoodC ns) {n : Nat} (hn : n < ns.length) (h0 : 0 < n) : (nodeAt ns n).u.toNat < n ∧ ((nodeAt ns n).u.toNat : Int) = (nodeAt ns n).u := by
  have := h.up n _ (GoodC.at_ hn) h0
  omega

theorem kidsTo_keys {ns : List Node} (h : GoodC ns) (k : Nat) : ∀ j, j ≤ ns.length → keysOf (kidsTo ns.length ns k j) = (List.range j).filter (isKid ns k) ∧ nodesOf (kidsTo ns.length ns k j) = ((List.range j).filter (isKid ns k)).map (nodeAt ns)
  | 0, _ => by simp [kidsTo, keysOf, nodesOf]
  | j + 1, hj => by
    obtain ⟨i1, i2⟩ := kidsTo_keys h k j (by omega)
    have hx := GoodC.at_ (ns := ns) (i := j) (by omega)
    have hok := h.ok j _ hx
    by_cases hc : 0 < j ∧ (nodeAt ns j).u = (k : Int)
    · rw [kidsTo_yes hx hok hc.1 hc.2]
      have hk : isKid ns k j = true := by simp [isKid, hc.1, hc.2]
      rw [List.range_succ, List.filter_append]
      simp only [List.filter_cons, hk, if_true, List.filter_nil, keysOf, nodesOf, List.map_append, List.map_cons, List.map_nil] at i1 i2 ⊢
      rw [i1, i2]
      exact ⟨rfl, rfl⟩
    · rw [kidsTo_no hx hc]
      have hk : isKid ns k j = false := by
        cases he : isKid ns k j
        · rfl
        · simp only [isKid, Bool.and_eq_true, decide_eq_true_eq] at he
          exact absurd he hc
      rw [List.range_succ, List.filter_append]
      simp only [List.filter_cons, hk, List.filter_nil, List.append_nil, Bool.false_eq_true, if_false]
      exact ⟨i1, i2⟩
theorem kids_keys {ns : List Node} (h : GoodC ns) (k : Nat) : keysOf (kidsTo ns.length ns k ns.length) = kidsN ns k := (kidsTo_keys h k _ (Nat.le_refl _)).1
theorem kids_nodes {ns : List Node} (h : GoodC ns) (k : Nat) : nodesOf (kidsTo ns.length ns k ns.length) = (kidsN ns k).map (nodeAt ns) := (kidsTo_keys h k _ (Nat.le_refl _)).2
theorem kids_nodup (ns : List Node) (k : Nat) : (kidsN ns k).Nodup := List.Pairwise.filter _ List.nodup_range
theorem kids_keyd {ns : List Node} (h : GoodC ns) (k : Nat) : Keyd (kidsTo ns.length ns k ns.length) := by
  have := kids_nodup ns k
  rw [← kids_keys h k, keysOf] at this
  exact List.pairwise_map.1 this
theorem mem_kids {ns : List Node} {k i : Nat} : i ∈ kidsN ns k ↔ i < ns.length ∧ 0 < i ∧ (nodeAt ns i).u = (k : Int) := by
  simp [kidsN, isKid, List.mem_filter, List.mem_range]

/-! ### the step of share -/
theorem set_getD (l : List Int) (k n : Nat) (v : Int) : (l.set k v)[n]?.getD 0 = if k = n ∧ n < l.length then v else l[n]?.getD 0 := by
  rw [List.getElem?_set]
  by_cases h : k = n
  · subst h
    by_cases hl : k < l.length
    · simp [hl]
    · simp [hl]
  · simp [h]
theorem applyG_get (gs : List (Nat × Int)) : ∀ (l : List Int) (n : Nat), (gs.map (·.1)).Nodup → n < l.length → (applyG l gs)[n]?.getD 0 = if n ∈ gs.map (·.1) then look n gs else l[n]?.getD 0 := by
  induction gs with
  | nil => intro l n _ _; simp [applyG]
  | cons p gs ih =>
    intro l n hd hn
    obtain ⟨k, v⟩ := p
    simp only [List.map_cons, List.nodup_cons] at hd
    have := ih (l.set k v) n hd.2 (by simpa using hn)
    simp only [applyG, List.foldl_cons, List.map_cons, List.mem_cons, look] at this ⊢
    rw [this, set_getD]
    by_cases e : k = n
    · subst e
      rw [if_neg hd.1, if_pos ⟨rfl, hn⟩, if_pos (.inl rfl), if_pos rfl]
    · have e2 : ¬ (k = n ∧ n < l.length) := fun h => e h.1
      by_cases hm : n ∈ gs.map (·.1)
      · rw [if_pos hm, if_pos (.inr hm), if_neg e]
      · rw [if_neg hm, if_neg e2, if_neg (fun h => h.elim (fun h => e h.symm) hm)]

theorem zip_fst (ks : List Nat) (vs : List Int) (h : vs.length = ks.length) : (ks.zip vs).map (·.1) = ks := List.map_fst_zip (by omega)

theorem getS_more {ns : List Node} (h : GoodC ns) (pence : Int) : ∀ (n f : Nat), n < ns.length → n ≤ f → getS ns pence f n = gotS ns pence n := by
  intro n
  induction n using Nat.strongRecOn with
  | _ n ih =>
    intro f hn hf
    by_cases h0 : n = 0
    · subst h0
      cases f <;> simp [getS, gotS]
    · obtain ⟨u1, u2⟩ := h.upN hn (by omega)
      rcases f with _ | f
      · omega
      obtain ⟨m, rfl⟩ : ∃ m, n = m + 1 := ⟨n - 1, by omega⟩
      have e1 := ih _ u1 f (by omega) (by omega)
      have e2 := ih _ u1 m (by omega) (by omega)
      rw [gotS]
      simp only [getS]
      rw [e1, e2]
theorem gotS_zero (ns : List Node) (pence : Int) : gotS ns pence 0 = pence := rfl
/-- What a node gets is its place in what its Up splits. -/
theorem gotS_up {ns : List Node} (h : GoodC ns) (pence : Int) {n : Nat} (hn : n < ns.length) (h0 : 0 < n) :
    gotS ns pence n = look n ((kidsN ns (nodeAt ns n).u.toNat).zip (splitL (gotS ns pence (nodeAt ns n).u.toNat) ((kidsN ns (nodeAt ns n).u.toNat).map (nodeAt ns))).1) := by
  obtain ⟨u1, u2⟩ := h.upN hn h0
  obtain ⟨m, rfl⟩ : ∃ m, n = m + 1 := ⟨n - 1, by omega⟩
  rw [gotS]
  simp only [getS]
  rw [if_neg (by omega), getS_more h pence _ m (by omega) (by omega)]

theorem look_mem : ∀ (gs : List (Nat × Int)) (n : Nat), n ∈ gs.map (·.1) → (n, look n gs) ∈ gs
  | [], n, h => by simp at h
  | (k, v) :: gs, n, h => by
    simp only [look]
    by_cases e : k = n
    · subst e; rw [if_pos rfl]; simp
    · rw [if_neg e]
      simp only [List.map_cons, List.mem_cons] at h
      exact List.mem_cons_of_mem _ (look_mem gs n (h.elim (fun h => absurd h.symm e) id))
theorem le_sum : ∀ (l : List Int), (∀ v ∈ l, 0 ≤ v) → ∀ v ∈ l, v ≤ l.sum
  | [], _, v, hv => by simp at hv
  | x :: xs, h, v, hv => by
    have hx := h x (by simp)
    have hs : 0 ≤ xs.sum := by
      clear hv
      have h' : ∀ v ∈ xs, 0 ≤ v := fun v hv => h v (by simp [hv])
      clear h hx
      induction xs with
      | nil => simp
      | cons y ys ih => have := ih (fun v hv => h' v (by simp [hv])); have := h' y (by simp); simp only [List.sum_cons]; omega
    simp only [List.sum_cons]
    rcases List.mem_cons.1 hv with rfl | hv
    · omega
    · have := le_sum xs (fun v hv => h v (by simp [hv])) v hv
      omega

theorem kidW {ns : List Node} (h : GoodC ns) (k : Nat) : ∀ x ∈ (kidsN ns k).map (nodeAt ns), 0 ≤ x.w := fun x hx => by
  obtain ⟨i, hi, rfl⟩ := List.mem_map.1 hx
  exact (h.ws i _ (GoodC.at_ (mem_kids.1 hi).1)).1
theorem kidF {ns : List Node} (h : GoodC ns) (k : Nat) : ∀ x ∈ (kidsN ns k).map (nodeAt ns), 0 ≤ x.f := fun x hx => by
  obtain ⟨i, hi, rfl⟩ := List.mem_map.1 hx
  exact (h.fs i _ (GoodC.at_ (mem_kids.1 hi).1)).1

theorem look_bd {ns : List Node} (h : GoodC ns) {k n : Nat} {p : Int} (hp : 0 ≤ p) (hn : n ∈ kidsN ns k) :
    0 ≤ look n ((kidsN ns k).zip (splitL p ((kidsN ns k).map (nodeAt ns))).1) ∧ look n ((kidsN ns k).zip (splitL p ((kidsN ns k).map (nodeAt ns))).1) ≤ p := by
  have hl : (splitL p ((kidsN ns k).map (nodeAt ns))).1.length = (kidsN ns k).length := by rw [splitL_len]; simp
  have hm := look_mem ((kidsN ns k).zip (splitL p ((kidsN ns k).map (nodeAt ns))).1) n (by rw [zip_fst _ _ hl]; exact hn)
  have hv := (List.of_mem_zip hm).2
  obtain ⟨n1, n2⟩ := splitL_nonneg p _ hp (kidW h k) (kidF h k)
  have hs := splitL_sum p _ hp (kidW h k) (kidF h k)
  have := le_sum _ n1 _ hv
  exact ⟨n1 _ hv, by omega⟩
theorem gotS_bd {ns : List Node} (h : GoodC ns) {pence : Int} (hp : 0 ≤ pence) : ∀ n, n < ns.length → 0 ≤ gotS ns pence n ∧ gotS ns pence n ≤ pence := by
  intro n
  induction n using Nat.strongRecOn with
  | _ n ih =>
    intro hn
    by_cases h0 : n = 0
    · subst h0; rw [gotS_zero]; omega
    · obtain ⟨u1, u2⟩ := h.upN hn (by omega)
      obtain ⟨i1, i2⟩ := ih _ u1 (by omega)
      rw [gotS_up h pence hn (by omega)]
      obtain ⟨b1, b2⟩ := look_bd h (k := (nodeAt ns n).u.toNat) (n := n) i1 (mem_kids.2 ⟨hn, by omega, u2.symm⟩)
      omega

/-- **What share comes to, when k nodes have been divided.** -/
theorem shTo_eq {ns : List Node} (h : GoodC ns) {pence : Int} (hp : 0 ≤ pence) : ∀ k, k ≤ ns.length →
    (∀ n, n < ns.length → (shTo ns pence k).1[n]?.getD 0 = if n = 0 then pence else if (nodeAt ns n).u.toNat < k then gotS ns pence n else 0) ∧
    (∀ n, n < ns.length → (shTo ns pence k).2[n]?.getD 0 = if n < k then keptS ns pence n else 0)
  | 0, _ => by
    refine ⟨fun n hn => ?_, fun n hn => ?_⟩
    · simp only [shTo, set_getD]
      by_cases e : n = 0
      · subst e; simp [hn]
      · have e' : ¬ (0 = n ∧ n < (List.replicate ns.length (0 : Int)).length) := fun hh => e hh.1.symm
        rw [if_neg e', if_neg e, if_neg (by omega)]
        simp [hn]
    · simp [shTo, hn]
  | k + 1, hk => by
    obtain ⟨i1, i2⟩ := shTo_eq h hp k (by omega)
    obtain ⟨l1, l2⟩ := shTo_len ns pence k
    have hgk : (shTo ns pence k).1[k]?.getD 0 = gotS ns pence k := by
      rw [i1 k (by omega)]
      by_cases e : k = 0
      · subst e; simp [gotS_zero]
      · rw [if_neg e, if_pos (h.upN (by omega) (by omega)).1]
    have hkd := kids_keyd h k
    have hlen : (splitL (gotS ns pence k) ((kidsN ns k).map (nodeAt ns))).1.length = (kidsN ns k).length := by rw [splitL_len]; simp
    refine ⟨fun n hn => ?_, fun n hn => ?_⟩
    · simp only [shTo, shStep]
      rw [gives_eq _ _ hkd, kids_keys h, kids_nodes h, hgk, applyG_get _ _ _ (by rw [zip_fst _ _ hlen]; exact kids_nodup ns k) (by rw [l1]; exact hn), zip_fst _ _ hlen, i1 n hn]
      by_cases hm : n ∈ kidsN ns k
      · obtain ⟨m1, m2, m3⟩ := mem_kids.1 hm
        have hu : (nodeAt ns n).u.toNat = k := by omega
        rw [if_pos hm, if_neg (by omega), if_pos (by omega), gotS_up h pence hn m2, hu]
      · rw [if_neg hm]
        by_cases e : n = 0
        · rw [if_pos e, if_pos e]
        · rw [if_neg e, if_neg e]
          have hu := h.upN hn (by omega)
          have hne : (nodeAt ns n).u.toNat ≠ k := fun hh => hm (mem_kids.2 ⟨hn, by omega, by omega⟩)
          by_cases hlt : (nodeAt ns n).u.toNat < k
          · rw [if_pos hlt, if_pos (by omega)]
          · rw [if_neg hlt, if_neg (by omega)]
    · simp only [shTo, shStep]
      rw [(splitF_eq _ _ hkd).1, kids_nodes h, hgk, set_getD, i2 n hn]
      by_cases e : k = n
      · subst e
        rw [if_pos ⟨rfl, by rw [l2]; omega⟩, if_pos (by omega)]
        rfl
      · rw [if_neg (fun hh => e hh.1)]
        by_cases hlt : n < k
        · rw [if_pos hlt, if_pos (by omega)]
        · rw [if_neg hlt, if_neg (by omega)]
theorem shTo_bd {ns : List Node} (h : GoodC ns) {pence : Int} (hp : 0 ≤ pence) (hp4 : pence ≤ 400) : ∀ k, k < ns.length → 0 ≤ (shTo ns pence k).1[k]?.getD 0 ∧ (shTo ns pence k).1[k]?.getD 0 ≤ 400 := fun k hk => by
  rw [(shTo_eq h hp k (by omega)).1 k hk]
  have := gotS_bd h hp k hk
  split
  · omega
  · rw [if_pos (h.upN hk (by omega)).1]; omega
theorem ext_getD {l l' : List Int} (hl : l.length = l'.length) (h : ∀ n, n < l.length → l[n]?.getD 0 = l'[n]?.getD 0) : l = l' := by
  apply List.ext_getElem hl
  intro i h1 h2
  have := h i h1
  simpa [h1, h2] using this
def gotsS (ns : List Node) (pence : Int) : List Int := (List.range ns.length).map (gotS ns pence)
def keptsS (ns : List Node) (pence : Int) : List Int := (List.range ns.length).map (keptS ns pence)
theorem shTo_gots {ns : List Node} (h : GoodC ns) {pence : Int} (hp : 0 ≤ pence) : (shTo ns pence ns.length).1 = gotsS ns pence := by
  refine ext_getD (by rw [(shTo_len ns pence _).1]; simp [gotsS]) (fun n hn => ?_)
  rw [(shTo_len ns pence _).1] at hn
  rw [(shTo_eq h hp _ (Nat.le_refl _)).1 n hn]
  have e : (gotsS ns pence)[n]?.getD 0 = gotS ns pence n := by simp [gotsS, hn]
  rw [e]
  split
  · rename_i h0; subst h0; rfl
  · rw [if_pos (by have := (h.upN hn (by omega)).1; omega)]
theorem shTo_kepts {ns : List Node} (h : GoodC ns) {pence : Int} (hp : 0 ≤ pence) : (shTo ns pence ns.length).2 = keptsS ns pence := by
  refine ext_getD (by rw [(shTo_len ns pence _).2]; simp [keptsS]) (fun n hn => ?_)
  rw [(shTo_len ns pence _).2] at hn
  rw [(shTo_eq h hp _ (Nat.le_refl _)).2 n hn, if_pos hn]
  simp [keptsS, hn]
end Go.Proofs.Ytmbcpmnigggbaaa.Sh
