import Derived.Test.YtohoonbbjkefaaaP2
import Derived.Deep.RegionHeld3
import Derived.Deep.AppendLies
namespace Go.Proofs.Ytohoonbbjkefaaa
open Go.RowKit

/-- The first k have been turned into the custom's own. -/
def ownTo (ns ps : List Node) (k : Nat) : List Node := (ps.take k).map (ownOf ns) ++ ps.drop k
theorem ownTo_len (ns ps : List Node) (k : Nat) : (ownTo ns ps k).length = ps.length := by
  unfold ownTo
  rw [List.length_append, List.length_map, ← List.length_append, List.take_append_drop]
theorem ownTo_zero (ns ps : List Node) : ownTo ns ps 0 = ps := by simp [ownTo]
theorem ownTo_all (ns ps : List Node) : ownTo ns ps ps.length = ownP ns ps := by simp [ownTo, ownP]
theorem ownTo_at {ns ps : List Node} {k : Nat} (hk : k < ps.length) : (ownTo ns ps k)[k]? = some (nodeAt ps k) := by
  unfold ownTo
  rw [List.getElem?_append_right (by rw [List.length_map, List.length_take]; omega), List.length_map, List.length_take, List.getElem?_drop]
  rw [show k + (k - min k ps.length) = k by omega]
  exact GoodC.at_ hk
theorem ownTo_set {ns ps : List Node} {k : Nat} (hk : k < ps.length) : ownTo ns ps (k + 1) = (ownTo ns ps k).set k (ownOf ns (nodeAt ps k)) := by
  unfold ownTo
  have hx : ps[k]? = some (nodeAt ps k) := GoodC.at_ hk
  have hd : ps.drop k = nodeAt ps k :: ps.drop (k + 1) := by
    rw [List.drop_eq_getElem_cons hk]
    congr 1
    rw [List.getElem?_eq_getElem hk] at hx
    exact Option.some.inj hx
  rw [List.take_add_one, hx, hd, List.set_append_right _ _ (by rw [List.length_map, List.length_take]; omega), List.length_map, List.length_take]
  rw [show k - min k ps.length = 0 by omega]
  simp
theorem owns_free {W : World} {t : TypeId} {base : Nat} {A : Option Addr} {n c : Nat} {ps : List Node} (h : OwnsN W t base (.slice A n c) ps) : ∀ b o, A = some ⟨b, o, none⟩ → base ≤ b ∧ ∀ j, W.frozen? ⟨b, j, none⟩ = false := fun b o e => by
  subst e
  rcases h.2 with ⟨e2, _⟩ | ⟨g, cap, cur, e2, hb, hg, _⟩
  · cases e2
  · cases e2
    exact ⟨hb, fun j => by simp [World.frozen?, hg]⟩
/-- The law's memory in its first loop. -/
structure EnvW (w : World) (A : Option Addr) (c : Nat) (ns : List Node) (w2 : World) (B : Option Addr) (qs : List Node) (W : World) : Prop where
  hb : Below w2.heap.size w2 W
  e : Env w A c ns W
  q : Nodes W W.heap.size B qs
  f : ∀ b o, B = some ⟨b, o, none⟩ → w2.heap.size ≤ b ∧ ∀ j, W.frozen? ⟨b, j, none⟩ = false

/-- The law's memory behind its first loop. -/
structure EnvN (w : World) (A : Option Addr) (c : Nat) (ns : List Node) (B : Option Addr) (qs : List Node) (W : World) : Prop where
  e : Env w A c ns W
  q : Nodes W W.heap.size B qs
theorem EnvN.next {w : World} {A : Option Addr} {c : Nat} {ns : List Node} {B : Option Addr} {qs : List Node} {W W' : World} (h : EnvN w A c ns B qs W) (hb : Below W.heap.size W W') : EnvN w A c ns B qs W' := ⟨h.e.next hb, Nodes.lt h.q hb⟩
theorem askE_yes {ns ps : List Node} (hv : validB ns = true) (h6 : ps.length ≤ 6) (ha : ps.all (payOK ns.length) = true) : askE ns true ps = 0 := by
  rw [askE, hv, if_pos rfl, if_neg (by omega), ha]
  rfl
theorem wts_good {ns ps : List Node} (hv : validB ns = true) {m : Nat} (hm : m < ns.length) (hm0 : ¬ m = 0) (h6 : ps.length ≤ 6) (ha : ps.all (payOK ns.length) = true) : wtsE ns m ps = 0 := by
  have hi : inR (m : Int) 0 (ns.length - 1) = true := inR_true.2 (by omega)
  have h0 : decide ((0 : Int) < (m : Int)) = true := decide_eq_true (by omega)
  unfold wtsE
  rw [hi, h0]
  exact askE_yes hv h6 ha
theorem wtsV_good {ns ps : List Node} {m : Nat} (h : wtsE ns m ps = 0) : wtsV ns m ps = wtsTo ns m ps 10 := if_pos h
theorem wtsR_good {ns ps : List Node} {m : Nat} (h : wtsE ns m ps = 0) (hl : (wtsTo ns m ps 10).length ≠ 0) : wtsR ns m ps = 0 := by
  unfold wtsR
  rw [if_pos h]
  exact if_neg hl

theorem owns_cap {W : World} {t : TypeId} {base : Nat} {A : Option Addr} {n c : Nat} {ps : List Node} (h : OwnsN W t base (.slice A n c) ps) : n ≤ c := by
  rcases h.2 with ⟨e2, _⟩ | ⟨g, cap, cur, e2, hb, hg, h4, _⟩
  · cases e2; exact Nat.le_refl _
  · cases e2; exact h4
set_option maxRecDepth 100000 in
/-- 'own[1:]'. -/
theorem tail_slice (b off n d : Nat) (hn : 1 ≤ n) (hd : n ≤ d) : ∃ Bt : Addr, (∀ W, (Instr.slice 57 (.slice (some ⟨b, off, none⟩) n d) (some (.int .i64 1)) none none).run Try.prog W = .ok (.slice (some Bt) (n - 1) (d - 1)) W) ∧
    ∀ (W : World) (x : Node) (qs : List Node), Nodes W W.heap.size (some ⟨b, off, none⟩) (x :: qs) → qs.length = n - 1 → Nodes W W.heap.size (some Bt) qs := by
  have hs : Try.prog.cellsOf 72 = 3 := by kernel_rfl
  by_cases h1 : d = 1
  · refine ⟨⟨b, off, none⟩, fun W => ?_, fun W x qs _ hq => .inl (List.length_eq_zero_iff.1 (by omega))⟩
    subst h1
    have hn1 : n = 1 := by omega
    subst hn1
    simp [Instr.slice, Instr.sliceBounds, Instr.sliceBound, go_sem]
  · refine ⟨⟨b, off + 3, none⟩, fun W => ?_, fun W x qs h hq => ?_⟩
    · simp [Instr.slice, Instr.sliceBounds, Instr.sliceBound, go_sem, h1]
      intro h
      omega
    · rcases h with h | ⟨b', off', e, hlt, hc⟩
      · cases h
      · cases e
        refine .inr ⟨b, off + 3, rfl, hlt, fun i y hy => ?_⟩
        have := hc (i + 1) y (by simpa using hy)
        rw [show off + 3 + i * 3 = off + (i + 1) * 3 by omega]
        exact this
theorem OwnsN_mono {W : World} {t : TypeId} {base base' : Nat} {v : Value} {ps : List Node} (h : OwnsN W t base v ps) (hb : base' ≤ base) : OwnsN W t base' v ps := by
  refine ⟨h.1, ?_⟩
  rcases h.2 with h2 | ⟨g, cap, cur, e, hg, r⟩
  · exact .inl h2
  · exact .inr ⟨g, cap, cur, e, Nat.le_trans hb hg, r⟩
theorem nodeCells_app : ∀ (xs ys : List Node), nodeCells (xs ++ ys) = nodeCells xs ++ nodeCells ys
  | [], _ => rfl
  | x :: xs, ys => by simp [nodeCells, nodeCells_app xs ys]
/-- 'append(xs, x)' of a payment at a step of a region that draws its order. -/
theorem step_app72 {ops : Array Oper} {o : Oper} {a : Act} {w : World} {K : Act → World → Prop} {Q : Exit → Act → World → Prop} {E : Prop} (hgd : o.guard = none) (s x : Operand)
    (ho : o.op = .call { callee := .builtin .append, args := #[s, x], argTypes := #[57, 57] }) (n₀ : Nat) (v : Value) (hs : a.eval s = v) (os : List Node) (hown : OwnsN w 72 n₀ v os)
    (ad : Addr) (cx : Nat) (y : Node) (hx : a.eval x = .slice (some ad) 1 cx) (hc : ∀ j u, (nodeCells [y])[j]? = some u → w.cell? (ad.add j) = some u) (hl : os.length ≤ 1000) (hn : n₀ ≤ w.heap.size)
    (h : ∀ v' w', OwnsN w' 72 n₀ v' (os ++ [y]) → Below n₀ w w' → K (a.put o.dst v') w') :
    if Region.wanted o (yielded ops a.tmps) = true then Oper.wp Try.prog o a w K Q else E := by
  have hw : Region.wanted o (yielded ops a.tmps) = true := by simp [Region.wanted, hgd]
  rw [if_pos hw]
  obtain ⟨i0, hi, hz0, hz1, hz2⟩ := info_parts info72
  refine wp_append_own w s x 57 ho n₀ 72 i0 _ 3 24 Try.underlying57 hi hz0 hz1 hz2 rfl (by decide) v os.length (nodeCells os) hs hown ad 1 cx (nodeCells [y]) hx rfl hc (nodeCells_one [y]) ?_ ?_ hn ?_
  · unfold maxLen; omega
  · omega
  · intro v' w' h2 h3 _
    refine h v' w' ?_ (own_below hown h3 hn (Nat.le_refl _))
    unfold OwnsN
    rw [List.length_append, nodeCells_app]
    exact h2
theorem three_cells {w : World} {b : Nat} {y : Node} (h : Three w b y) : ∀ j u, (nodeCells [y])[j]? = some u → w.cell? ((⟨b, 0, none⟩ : Addr).add j) = some u := fun j u hj => by
  rw [addr_add, Nat.zero_add]
  match j, hj with
  | 0, hj => simp [nodeCells] at hj; subst hj; exact h.c0
  | 1, hj => simp [nodeCells] at hj; subst hj; exact h.c1
  | 2, hj => simp [nodeCells] at hj; subst hj; exact h.c2
  | j + 3, hj => simp [nodeCells] at hj
theorem same1 (Ao : Option Addr) (co p : Nat) (x : Int) (W : World) (h1 : IntsAt W W.heap.size Ao [x]) (h2 : IntsAt W W.heap.size (some ⟨p, 0, none⟩) [x]) :
    Calls Try.prog 37 #[.slice Ao 1 co, .slice (some ⟨p, 0, none⟩) 1 1] W fun e w' => e = .returned (.bool true) ∧ Below W.heap.size W w' :=
  sameInts_is Ao (some ⟨p, 0, none⟩) co 1 [x] (by simp) W h1 h2
theorem pays_ask {ns : List Node} {os : List Node} {m : Nat} (hte : wtsE ns m os = 0) {L : List Int} (hL : wtsTo ns m os 10 = L) {x : Int} (hx : x ∈ L) (hr : wtsR ns m os = 0) {n e : Int} (h : askS ns m os = (n, e)) :
    (∃ P : Nat, P < 401 ∧ n = P ∧ e = 0 ∧ (askKeys ns m L P).Nodup ∧ (L.length = 1 → P = 0)) ∨ (n = 0 ∧ e = 3 ∧ 1 < L.length) := by
  have h1 := askS_first hr
  rw [wtsV_good hte, hL, h] at h1
  have h0 : L.length = 1 → decide (askKeys ns (m : Int).toNat L 0).Nodup = true := fun hl => by
    obtain ⟨y, hy⟩ := List.length_eq_one_iff.1 hl
    subst hy
    simp [askKeys]
  rcases firstE_cases (fun n => decide (askKeys ns (m : Int).toNat L n).Nodup) 401 with ⟨k, k1, k2, k3, k4⟩ | ⟨k1, k4⟩
  · rw [k4] at h1
    cases h1
    refine .inl ⟨k, k1, rfl, rfl, of_decide_eq_true k2, fun hl => ?_⟩
    by_cases hk : k = 0
    · exact hk
    · have := k3 0 (by omega)
      rw [h0 hl] at this
      cases this
  · rw [k4] at h1
    cases h1
    refine .inr ⟨rfl, rfl, ?_⟩
    by_cases hl : 1 < L.length
    · exact hl
    · have hp := List.length_pos_of_mem hx
      have := k1 0 (by omega)
      rw [h0 (by omega)] at this
      cases this

set_option maxRecDepth 100000 in
set_option maxHeartbeats 8000000 in
theorem pays_in (A A2 : Option Addr) (c c2 : Nat) (ns ps : List Node) (hA : A = none → c = 0 ∧ ns = []) (hA2 : A2 = none → c2 = 0 ∧ ps = []) (hn : ns.length ≤ 9223372036854775807) (hp : ps.length ≤ 9223372036854775807) (m : Nat) (hv : validB ns = true) (hm : m < ns.length) (hm0 : ¬ m = 0) (hp6 : ¬ 6 ≤ ps.length) (hpa : ps.all (payOK ns.length) = true) (w : World) (hN : Nodes w w.heap.size A ns) (hP : Nodes w w.heap.size A2 ps) :
    Calls Try.prog 15 #[.agg #[.slice A ns.length c], .int .i64 m, .slice A2 ps.length c2] w fun e w' => e = .returned (.bool true) ∧ Below w.heap.size w w' := by
  obtain ⟨W0, hW0⟩ : ∃ W0, w.alloc (.cells #[.slice A ns.length c] 24) = W0 := ⟨_, rfl⟩
  have E0 : Env w A c ns W0 := by rw [← hW0]; exact Env.new c hN
  have HP0 := Lib.hid (show Nodes W0 W0.heap.size A2 ps by rw [← hW0]; exact Nodes.alloc hP _)
  have q0 := E0.bC.cell
  clear hN hP
  have HR := Lib.hid (ready_is A c ns hn W0 E0.hN true hv)
  have hn8 := validB_len hv
  have hi : inR (m : Int) 0 (ns.length - 1) = true := inR_true.2 (by omega)
  have HI := Lib.hid hi
  have hic := inR_true.1 hi
  have g0 : ((m : Int) == 0) = false := by simpa using hm0
  have hg := good_of hv
  have HV := Lib.hid hv
  have HPA := Lib.hid hpa
  have HAA := Lib.hid hA
  have HAA2 := Lib.hid hA2
  have h1 := hg.l1
  clear hv hi hpa hA hA2
  go_enter Try.func15, Try.ntmps15
  go_wp2_with (first
    | (go_at_call 26; go_must (refine HR.out.mono ?_; rintro e w1 ⟨rfl, hb1⟩; have E1 := E0.next hb1; have m0 := E1.bC.cell))
    | (go_at_call 27; go_must (refine (refIsNode_is A _ c _ w1 (by omega) _ HI.out).mono ?_; rintro e w2 ⟨rfl, hb2⟩; have E2 := E1.next hb2; have m2 := E2.bC.cell))
    | (go_at_call 56; go_must (refine (arePays_is A A2 ns.length c c2 ps (by omega) hp w2 (Nodes.lt (Nodes.lt HP0.out hb1) hb2) _ HPA.out).mono ?_; rintro e w3 ⟨rfl, hb3⟩; have E3 := E2.next hb3))
    | (go_at_call 38; go_must (refine (paid_is A2 c2 ps HAA2.out (by omega) w3 (Nodes.lt (Nodes.lt (Nodes.lt HP0.out hb1) hb2) hb3)).mono ?_; rintro e w4 ⟨B, d, rfl, hB, hO, hb4⟩; have X4 : EnvW w A c ns w3 B ps w4 := ⟨hb4, E3.next hb4, owns_nodes hO, owns_free hO⟩; have hcap := owns_cap hO)))
  have HB := Lib.hid hB
  have X4H := Lib.hid X4
  have E3H := Lib.hid E3
  clear m0 m2 E1 E2 E3 X4 hO hB hb4
  go_loopw [8] (fun i wr => ∃ k : Nat, k ≤ ps.length ∧ i = .int .i64 k ∧ EnvW w A c ns w3 B (ownTo ns ps k) wr) (fun i _ => ps.length - (intOf i).toNat)
  case atStart => exact ⟨0, Nat.zero_le _, rfl, by rw [ownTo_zero]; exact X4H.out⟩
  case round =>
    obtain ⟨k, hk, rfl, X⟩ := hrel
    by_cases hlt : k < ps.length
    · have hpay := pay_at HPA.out hlt
      obtain ⟨x, hx⟩ : ∃ x, nodeAt ps k = x := ⟨_, rfl⟩
      have hxx := ownTo_at (ns := ns) hlt
      rw [hx] at hxx hpay
      obtain ⟨u, wv, f⟩ := x
      obtain ⟨hu, hw, _⟩ := payOK_of hpay
      simp only at hu hw
      obtain ⟨mm, rfl⟩ : ∃ mm : Nat, wv = mm := ⟨wv.toNat, by omega⟩
      have hmm : mm < ns.length := by omega
      obtain ⟨b, off, rfl, hbl, c1, c3, c5⟩ := X.q.at_ hxx
      simp only at c1 c3 c5
      obtain ⟨hgb, hfz⟩ := X.f b off rfl
      obtain ⟨g, hgg⟩ : ∃ g, gotS ns u mm = g := ⟨_, rfl⟩
      have HG := Lib.hid hgg
      have HX := Lib.hid hx
      have HZ := Lib.hid (penceE_of HV.out (p := u) hu)
      have XH := Lib.hid X
      have mc := X.e.bC.cell
      have nc := World.new_ne wr _ mc
      have nb := World.new_ne wr _ c1
      clear hx hxx hpay hgg X
      go_wp2
      go_region_held3 (fun w' => w'.cell? ⟨w.heap.size, 0, none⟩ = some (.slice A ns.length c) ∧ w'.cell? ⟨b, off + k * 3, none⟩ = some (.int .i64 u)) (first | go_keep)
        (first
          | (go_at_call 35; refine (lawGets_ok A c ns u (by omega) _ (Nodes.lt XH.out.e.hN (drew_below wr)) HZ.out).mono ?_; rintro e w5 ⟨bg, rfl, hr, hb5⟩; have hbw : Below wr.heap.size wr w5 := hb0to (drew_below wr) hb5; have mc5 := below_cell hbw mc; have c15 := below_cell hbw c1))
      have c25 := below_cell hbw c3
      have c35 := below_cell hbw c5
      have hfz5 : ∀ j, w5.frozen? ⟨b, j, none⟩ = false := fun j => (hbw.frozen (p := ⟨b, j, none⟩) hbl).trans (hfz j)
      have r1 := Row.cell hr (k := mm) (by rw [gotsS_len]; exact hmm)
      rw [gotsS_at hmm, HG.out] at r1
      have nb5 := World.new_ne w5 _ c15
      have nr5 := World.new_ne w5 _ r1
      have hA4 := (Below.refl _ w5).alloc (Nat.le_refl _) (.cells #[.int .i64 u, .int .i64 mm, .int .i64 f] 72)
      have r2 := below_cell hA4 r1
      have hA5 := (Below.refl _ w5).alloc (Nat.le_refl _) (.cells #[.int .i64 u, .int .i64 mm, .int .i64 g] 72)
      have d1 := below_cell hA5 c15
      have d2 := below_cell hA5 c25
      have d3 := below_cell hA5 c35
      have hbl5 : b < w5.heap.size := Nat.lt_of_lt_of_le hbl hbw.size
      have hfz6 : ∀ j, (w5.alloc (.cells #[.int .i64 u, .int .i64 mm, .int .i64 g] 72)).frozen? ⟨b, j, none⟩ = false := fun j => (hA5.frozen (p := ⟨b, j, none⟩) hbl5).trans (hfz5 j)
      have X5 := Lib.hid (show EnvW w A c ns w3 (some ⟨b, off, none⟩) (ownTo ns ps (k + 1)) ((putN w5 b (off + k * 3) ⟨u, mm, g⟩).alloc (.cells #[.int .i64 u, .int .i64 mm, .int .i64 g] 72)) from by
        have hB5 := hb0to XH.out.hb hbw
        have hBe := (putN_below hB5 hgb (off + k * 3) ⟨u, mm, g⟩).alloc (by rw [putN_size]; exact hB5.size) (.cells #[.int .i64 u, .int .i64 mm, .int .i64 g] 72)
        have N5 := nodes_put (Nodes.lt XH.out.q hbw) (k := k) (by rw [ownTo_len]; exact hlt) ⟨u, mm, g⟩
        have e : ownOf ns (nodeAt ps k) = ⟨u, mm, g⟩ := by rw [HX.out]; unfold ownOf; rw [← HG.out]; rfl
        rw [← e, ← ownTo_set hlt, e] at N5
        refine ⟨hBe, E3H.out.next hBe, Nodes.alloc (by rw [putN_size]; exact N5) _, fun b' o' eb => ?_⟩
        cases eb
        refine ⟨hgb, fun j => ?_⟩
        have h1 := ((Below.refl _ (putN w5 b (off + k * 3) ⟨u, mm, g⟩)).alloc (Nat.le_refl _) (.cells #[.int .i64 u, .int .i64 mm, .int .i64 g] 72)).frozen (p := ⟨b, j, none⟩) (by rw [putN_size]; exact hbl5)
        rw [h1, putN_frozen]
        exact hfz5 j)
      clear mc5 mc hfz hfz6
      go_wp2
      go_roundw
      case rel => first | exact ⟨k + 1, by omega, by go_num, X5.out⟩ | ((repeat apply Exists.intro); exact ⟨⟨k + 1, by omega, by go_num, X5.out⟩, rfl⟩)
      case measure => simp [intOf]; omega
    · obtain rfl : k = ps.length := by omega
      have hq := X.q
      rw [ownTo_all] at hq
      obtain ⟨os, hos⟩ : ∃ os, ownP ns ps = os := ⟨_, rfl⟩
      have hol : os.length = ps.length := by rw [← hos]; simp [ownP]
      have hoa : os.all (payOK ns.length) = true := by rw [← hos]; exact own_all hg HPA.out
      have hB2 : B = none → d = 0 ∧ os = [] := fun e => by
        obtain ⟨e1, e2⟩ := HB.out e
        refine ⟨e1, ?_⟩
        rw [← hos, e2]; rfl
      have hwe : wrongE ns os = 0 := askE_yes HV.out (by omega) hoa
      have hwl : wrongL ns os = [] := by
        unfold wrongL
        rw [if_pos hwe, ← hos]
        exact wrong_own ns ps _ (Nat.le_refl _)
      have hte := wts_good HV.out hm hm0 (by omega) hoa
      have htv := wtsV_good hte
      obtain ⟨w0, hw0⟩ : ∃ w0 : Nat, (nodeAt ns m).w = (w0 : Int) := ⟨(nodeAt ns m).w.toNat, by have := hg.ws m _ (GoodC.at_ hm); omega⟩
      have hmem : (w0 : Int) ∈ wtsTo ns m os 10 := by
        rw [← hos, wts_wN]
        exact List.mem_map.2 ⟨w0, wN_own hg hm ps hw0, rfl⟩
      have htr := wtsR_good hte (fun h => by rw [List.length_eq_zero_iff.1 h] at hmem; simp at hmem)
      obtain ⟨L, hL⟩ : ∃ L, wtsTo ns m os 10 = L := ⟨_, rfl⟩
      have hrise := wts_rise ns m os
      have hLl := wtsTo_len ns m os 10
      rw [hL] at hmem htv hrise hLl
      obtain ⟨n3, e3, h3⟩ : ∃ n e, askS ns m os = (n, e) := ⟨_, _, rfl⟩
      have K38 := fun W h => paid_is B d os hB2 (by omega) W h
      have K39 := fun A3 c3 W h1 h2 => wrong_all A A3 c c3 ns os (by omega) (by omega) W h1 h2 [] hwl 0 hwe
      have K41 := fun A3 c3 W h1 h2 => weights_is A A3 c c3 ns os m (by omega) (by omega) W h1 h2 L htv 0 htr
      have K43 := fun A3 c3 W h1 h2 => askPays_is A A3 c c3 ns os m (by omega) (by omega) W h1 h2 n3 e3 h3
      simp only [hol, List.length_nil] at K38 K39 K41 K43
      have K38H := Lib.hid K38
      have K39H := Lib.hid K39
      have K41H := Lib.hid K41
      have K43H := Lib.hid K43
      rw [hos] at hq
      have Y0 := Lib.hid (show EnvN w A c ns B os wr from ⟨X.e, hq⟩)
      have mc := X.e.bC.cell
      have nc := World.new_ne wr _ mc
      have HOS := Lib.hid hos
      have HOL := Lib.hid hol
      have HOA := Lib.hid hoa
      have HTE := Lib.hid hte
      have HTR := Lib.hid htr
      have HLL := Lib.hid hL
      have HRI := Lib.hid hrise
      have HME := Lib.hid hmem
      have HW0 := Lib.hid hw0
      have H3 := Lib.hid h3
      have HB2 := Lib.hid hB2
      clear K38 K39 K41 K43 hos hol hoa hB2 hwe hwl hte htv hmem htr hL hrise h3 hw0 hq X
      go_wp2
      go_region_held3 (fun w' => w'.cell? ⟨w.heap.size, 0, none⟩ = some (.slice A ns.length c)) (first | go_keep)
        (first
          | (go_at_call 38; refine (K38H.out _ (Nodes.lt Y0.out.q (drew_below wr))).mono ?_; rintro e w5 ⟨A3, c3, rfl, hA3, hO3, hb5⟩; have hbw : Below wr.heap.size wr w5 := hb0to (drew_below wr) hb5; have mc5 := below_cell hbw mc; have HO3 := Lib.hid (owns_nodes hO3); clear hA3 hO3)
          | (go_at_call 39; refine (K39H.out A3 c3 _ (Nodes.lt Y0.out.e.hN hbw) HO3.out).mono ?_; rintro e w6 ⟨B1, d1, rfl, hi1, hb6⟩; have hbw6 := hb0to hbw hb6; have mc6 := below_cell hbw6 mc; clear hi1))
      have Y6 := Lib.hid (Y0.out.next hbw6)
      have nc6 := World.new_ne w6 _ mc6
      go_wp2
      go_region_held3 (fun w' => w'.cell? ⟨w.heap.size, 0, none⟩ = some (.slice A ns.length c)) (first | go_keep)
        (first
          | (go_at_call 38; refine (K38H.out _ (Nodes.lt Y6.out.q (drew_below w6))).mono ?_; rintro e w7 ⟨A4, c4, rfl, hA4, hO4, hb7⟩; have hbw7 : Below w6.heap.size w6 w7 := hb0to (drew_below w6) hb7; have mc7 := below_cell hbw7 mc6; have HO4 := Lib.hid (owns_nodes hO4); clear hA4 hO4)
          | (go_at_call 41; refine (K41H.out A4 c4 _ (Nodes.lt Y6.out.e.hN hbw7) HO4.out).mono ?_; rintro e w8 ⟨Ao, co, rfl, hi8, hb8⟩; have hbw8 := hb0to hbw7 hb8; have mc8 := below_cell hbw8 mc6; have I8 := Lib.hid hi8; clear hi8))
      have Y8 := Lib.hid (Y6.out.next hbw8)
      have hw0' := HW0.out
      obtain ⟨ba, oa, rfl, _, cA1, cA2, cA3⟩ := Y8.out.e.hN.at_ (GoodC.at_ hm)
      rw [HW0.out] at cA2
      clear cA1 cA3 mc mc5 mc6 mc7 mc8 nc nc6
      have mc8 := Y8.out.e.bC.cell
      have HCA := Lib.hid cA2
      go_upto_if 128 with (first
        | (go_at_call 57; go_must (refine (rising_ok Ao co L (by omega) HRI.out.1 HRI.out.2 w8 I8.out).mono ?_; rintro e w9 ⟨rfl, hb9⟩; have Y9 := Lib.hid (Y8.out.next hb9); have I9 := Lib.hid (ilt I8.out hb9); have mc9 := Y9.out.e.bC.cell; have cA9 := below_cell hb9 HCA.out))
        | (go_at_call 58; go_must (refine (in_is Ao co L w0 (by omega) w9 I9.out true (decide_eq_true HME.out)).mono ?_; rintro e w' ⟨rfl, rfl⟩))
        | fail)
      have nm9 := World.new_ne w9 _ mc9
      clear mc8 cA9 cA2
      go_cut [] (fun wx => Below w9.heap.size w9 wx)
      case first =>
        as_aux_lemma =>
        by_cases hpos : 0 < ps.length
        · cases os with
          | nil => exfalso; have := HOL.out; simp at this; omega
          | cons x0 qs =>
            obtain ⟨bq, oq, rfl, _⟩ := Y9.out.q.at_ (k := 0) (x := x0) rfl
            have hqs : qs.length = ps.length - 1 := by have := HOL.out; simp at this; omega
            obtain ⟨Bt, hsl, htn⟩ := tail_slice bq oq ps.length d (by omega) hcap
            have hqa : qs.all (payOK ns.length) = true := by have := HOA.out; rw [List.all_cons, Bool.and_eq_true] at this; exact this.2
            have hqe := wts_good HV.out hm hm0 (by omega) hqa
            obtain ⟨ht1, ht2⟩ := wts_tail ns m x0 qs
            rw [HLL.out] at ht1 ht2
            have hq0 : (wtsTo ns m qs 10).length ≠ 0 := fun h => by
              have := ht2 _ HME.out
              rw [List.length_eq_zero_iff.1 h] at this
              simp at this
            have hql := wtsTo_len ns m qs 10
            obtain ⟨L2, hL2⟩ : ∃ L2, wtsTo ns m qs 10 = L2 := ⟨_, rfl⟩
            have K38t := fun W h => paid_is (some Bt) (d - 1) qs (by simp) (by omega) W h
            have K41t := fun A3 c3 W h1 h2 => weights_is (some ⟨ba, oa, none⟩) A3 c c3 ns qs m (by omega) (by omega) W h1 h2 L2 (by rw [wtsV_good hqe]; exact hL2) 0 (wtsR_good hqe hq0)
            simp only [hqs] at K38t K41t
            have K38T := Lib.hid K38t
            have K41T := Lib.hid K41t
            rw [hL2] at ht1 ht2 hql
            have HT2 := Lib.hid ht2
            have HTN := Lib.hid (fun W h => htn W x0 qs h hqs)
            clear K38t K41t hqs hqa hqe hq0 hL2 ht2 htn
            go_wp2
            go_region_held3 (fun w' => w'.cell? ⟨w.heap.size, 0, none⟩ = some (.slice (some ⟨ba, oa, none⟩) ns.length c)) (first | go_keep)
              (first
                | (go_at_call 38; refine (K38T.out _ (HTN.out _ (Nodes.lt Y9.out.q (drew_below w9)))).mono ?_; rintro e w10 ⟨A5, c5, rfl, hA5, hO5, hb10⟩; have hbw10 : Below w9.heap.size w9 w10 := hb0to (drew_below w9) hb10; have mc10 := below_cell hbw10 mc9; have HO5 := Lib.hid (owns_nodes hO5); clear hA5 hO5)
                | (go_at_call 41; refine (K41T.out A5 c5 _ (Nodes.lt Y9.out.e.hN hbw10) HO5.out).mono ?_; rintro e w11 ⟨Av, cv, rfl, hi11, hb11⟩; have hbw11 := hb0to hbw10 hb11; have mc11 := below_cell hbw11 mc9; have I11 := Lib.hid hi11; clear hi11))
            have J11 := Lib.hid (ilt I9.out hbw11)
            clear hsl mc9 mc10 mc11 nm9
            have g3 : decide (L2.length < L.length) = false := decide_eq_false (by omega)
            have g4 : decide (10 < (L2.length : Int)) = false := decide_eq_false (by omega)
            go_wp2
            go_loopw [18] (fun i wq => ∃ k : Nat, k ≤ L.length ∧ i = .int .i64 k ∧ w11 = wq) (fun i _ => L.length - (intOf i).toNat)
            case atStart => exact ⟨0, Nat.zero_le _, rfl, rfl⟩
            case round =>
              obtain ⟨k, hk, rfl, rfl⟩ := hrel
              by_cases hlt : k < L.length
              · obtain ⟨x, hx⟩ : ∃ x, L[k]? = some x := ⟨_, List.getElem?_eq_getElem hlt⟩
                have HM2 := Lib.hid (decide_eq_true (HT2.out x (List.mem_of_getElem? hx)))
                obtain ⟨b1, o1, rfl, _, cx⟩ := J11.out.at_ hx
                clear hx
                go_wp2_with (go_at_call 58; go_must (refine (in_is Av cv L2 x (by omega) w11 I11.out true HM2.out).mono ?_; rintro e w' ⟨rfl, rfl⟩))
                go_roundw
                case rel => first | exact ⟨k + 1, by omega, by go_num, by trivial⟩ | ((repeat apply Exists.intro); exact ⟨⟨k + 1, by omega, by go_num, by trivial⟩, rfl⟩)
                case measure => simp [intOf]; omega
              · obtain rfl : k = L.length := by omega
                go_wp2_with fail
                go_meet
                exact hbw11
        · go_wp2_with fail
          go_meet
          exact Below.refl _ _
      case rest =>
        as_aux_lemma =>
        have Yc := Lib.hid (Y9.out.next hcut)
        have Ic := Lib.hid (ilt I9.out hcut)
        clear mc9 nm9
        have mt := Yc.out.e.bC.cell
        have nt := World.new_ne wc _ mt
        rcases pays_ask HTE.out HLL.out HME.out HTR.out H3.out with ⟨P, hP, rfl, rfl, hnd, hP1⟩ | ⟨rfl, rfl, hl2⟩
        · have HND := Lib.hid hnd
          clear hnd
          go_wp2
          go_region_held3 (fun w' => w'.cell? ⟨w.heap.size, 0, none⟩ = some (.slice (some ⟨ba, oa, none⟩) ns.length c)) (first | go_keep)
            (first
              | (go_at_call 38; refine (K38H.out _ (Nodes.lt Yc.out.q (drew_below wc))).mono ?_; rintro e w20 ⟨A5, c5, rfl, hA5, hO5, hb20⟩; have hbw20 : Below wc.heap.size wc w20 := hb0to (drew_below wc) hb20; have mc20 := below_cell hbw20 mt; have HO5 := Lib.hid (owns_nodes hO5); clear hA5 hO5)
              | (go_at_call 43; refine (K43H.out A5 c5 _ (Nodes.lt Yc.out.e.hN hbw20) HO5.out).mono ?_; rintro e w21 ⟨rfl, hb21⟩; have hbw21 := hb0to hbw20 hb21; have mc21 := below_cell hbw21 mt))
          have Y21 := Lib.hid (Yc.out.next hbw21)
          have I21 := Lib.hid (ilt Ic.out hbw21)
          have HPI := Lib.hid (show inR (P : Int) 0 400 = true from inR_true.2 (by omega))
          have HZP := Lib.hid (penceE_of HV.out (p := P) (by omega))
          obtain ⟨g9, hg9⟩ : ∃ g, gotS ns P m = g := ⟨_, rfl⟩
          have hgb9 := gotS_bd hg (show (0 : Int) ≤ P by omega) m hm
          rw [hg9] at hgb9
          have hask := wts_ask hg hm ps (P := P) hw0' (by rw [HOS.out, HLL.out]; exact HND.out)
          rw [HOS.out, hg9] at hask
          have hqa : (os ++ [(⟨(P : Int), (m : Int), g9⟩ : Node)]).all (payOK ns.length) = true := by
            rw [List.all_append, HOA.out]
            have : payOK ns.length ⟨(P : Int), (m : Int), g9⟩ = true := by
              unfold payOK
              simp only [Bool.and_eq_true, inR_true]
              exact ⟨by omega, by omega, by omega⟩
            simp [this]
          have hql : (os ++ [(⟨(P : Int), (m : Int), g9⟩ : Node)]).length ≤ 6 := by rw [List.length_append, HOL.out]; simp; omega
          have hqe := wts_good HV.out hm hm0 hql hqa
          have K41q := fun A6 c6 W h1 h2 => weights_is (some ⟨ba, oa, none⟩) A6 c c6 ns (os ++ [(⟨(P : Int), (m : Int), g9⟩ : Node)]) m (by omega) (by omega) W h1 h2 [(w0 : Int)] (by rw [wtsV_good hqe]; exact hask) 0 (wtsR_good hqe (by rw [hask]; simp))
          simp only [List.length_cons, List.length_nil, Nat.zero_add] at K41q
          have K41R := Lib.hid K41q
          simp only [List.length_append, List.length_cons, List.length_nil, Nat.zero_add] at K41q
          have K41Q := Lib.hid K41q
          have HG9 := Lib.hid hg9
          have hol9 : os.length ≤ 1000 := by rw [HOL.out]; omega
          have HOL9 := Lib.hid hol9
          clear hg9 hask hqa hql hqe K41q hol9
          obtain ⟨bz, oz, ez, _, z1, z2, z3⟩ := Y21.out.e.hN.at_ (GoodC.at_ hm)
          cases ez
          rw [HW0.out] at z2
          have HZ2 := Lib.hid z2
          clear z1 z2 z3
          go_upto_region 29 with fail
          go_cut [196] (fun s196 wx => s196 = .bool false ∧ w21 = wx)
          case first =>
            by_cases hL1 : L.length = 1
            · have g1 : ((L.length : Int) == 1) = true := by simp; omega
              have g2 : ((P : Int) != 0) = false := by have := hP1 hL1; subst this; rfl
              clear hL1 hP1
              go_wp2_with (go_at_call 32; go_must (refine (refIsPence_is _ _ _ HPI.out).mono ?_; rintro e w' ⟨rfl, rfl⟩))
              go_meet
              exact ⟨rfl, rfl⟩
            · have g1 : ((L.length : Int) == 1) = false := by simp; omega
              clear hL1 hP1
              go_wp2_with (go_at_call 32; go_must (refine (refIsPence_is _ _ _ HPI.out).mono ?_; rintro e w' ⟨rfl, rfl⟩))
              go_meet
              exact ⟨rfl, rfl⟩
          case rest =>
            obtain ⟨rfl, rfl⟩ := hcut
            clear hP1
            go_wp2_with (first
              | (go_at_call 35; go_must (refine (lawGets_ok _ c ns (P : Int) (by omega) w21 Y21.out.e.hN HZP.out).mono ?_; rintro e w22 ⟨bg, rfl, hr22, hb22⟩; have Y22 := Lib.hid (Y21.out.next hb22); have z22 := below_cell hb22 HZ2.out))
              | fail)
            have mc22 := Y22.out.e.bC.cell
            have r22 := Row.cell hr22 (k := m) (by rw [gotsS_len]; exact hm)
            rw [gotsS_at hm, HG9.out] at r22
            have nm22 := World.new_ne w22 _ mc22
            have nr22 := World.new_ne w22 _ r22
            have hA22 := ((Below.refl _ w22).alloc (Nat.le_refl _) (.cells #[.int .i64 P, .int .i64 m, .int .i64 g9] 72)).drew
            have hD22 := drew_below w22
            have T22 : Three (w22.alloc (.cells #[.int .i64 P, .int .i64 m, .int .i64 g9] 72)).drew w22.heap.size ⟨P, m, g9⟩ := World.alloc_heap_new w22 _
            clear hr22
            go_cut [23, 24] (fun s23 s24 wx => ∃ Ax cx, s23 = .slice Ax 1 cx ∧ s24 = .int .i64 0 ∧ IntsAt wx wx.heap.size Ax [(w0 : Int)] ∧ Below w22.heap.size w22 wx)
            case first =>
              as_aux_lemma =>
              go_region_held3 (fun w' => w'.cell? ⟨w.heap.size, 0, none⟩ = some (.slice (some ⟨ba, oa, none⟩) ns.length c) ∧ w'.cell? ⟨bg, m, none⟩ = some (.int .i64 g9)) (first | go_keep)
                (first
                  | (go_at_call 38; (with_reducible refine (K38H.out _ (Nodes.lt Y22.out.q hD22)).mono ?_); rintro e w23 ⟨A6, c6, rfl, hA6, hO6, hb23⟩; have hbw23 := hb0to hD22 hb23; have mc23 := below_cell hbw23 mc22; have r23 := below_cell hbw23 r22; have nm23 := World.new_ne w23 _ mc23; have nr23 := World.new_ne w23 _ r23; have OA := Lib.hid hO6; clear hA6 hO6)
                  | (go_at_call 38; (with_reducible refine (K38H.out _ (Nodes.lt Y22.out.q hA22)).mono ?_); rintro e w23 ⟨A6, c6, rfl, hA6, hO6, hb23⟩; have hbw23 := hb0to hA22 hb23; have mc23 := below_cell hbw23 mc22; have r23 := below_cell hbw23 r22; have T23 := Lib.hid (show Three w23 w22.heap.size ⟨P, m, g9⟩ from (hb23.block _ (Array.getElem?_eq_some_iff.1 T22).1).trans T22); have OB := Lib.hid hO6; clear hA6 hO6)
                  | (refine step_app72 (by rfl) _ _ (by rfl) w22.heap.size _ (by rfl) os (OwnsN.alloc OA.out (.cells #[.int .i64 P, .int .i64 m, .int .i64 g9] 72)) ⟨w23.heap.size, 0, none⟩ 1 ⟨P, m, g9⟩ (by rfl) (three_cells (World.alloc_heap_new w23 _)) HOL9.out (by have := hbw23.size; simp; omega) ?_; intro v' w24 hown24 hb24; obtain ⟨A7, c7, rfl, _, hN7⟩ := OwnsN.lay hown24; have hbw24 : Below w22.heap.size w22 w24 := (hbw23.alloc hbw23.size _).trans hb24; have mc24 := below_cell hbw24 mc22; have r24 := below_cell hbw24 r22)
                  | (refine step_app72 (by rfl) _ _ (by rfl) w22.heap.size _ (by rfl) os (OwnsN_mono OB.out (by simp)) ⟨w22.heap.size, 0, none⟩ 1 ⟨P, m, g9⟩ (by rfl) (three_cells T23.out) HOL9.out hbw23.size ?_; intro v' w24 hown24 hb24; obtain ⟨A7, c7, rfl, _, hN7⟩ := OwnsN.lay hown24; have hbw24 : Below w22.heap.size w22 w24 := hbw23.trans hb24; have mc24 := below_cell hbw24 mc22; have r24 := below_cell hbw24 r22)
                  | (go_at_call 41; (with_reducible refine (K41Q.out A7 c7 _ (Nodes.lt Y22.out.e.hN hbw24) hN7).mono ?_); rintro e w25 ⟨Ax, cx, rfl, hi25, hb25⟩; have hbw25 := hb0to hbw24 hb25; have mc25 := below_cell hbw25 mc22; have r25 := below_cell hbw25 r22)
                  | (go_at_call 41; (with_reducible refine (K41R.out A7 c7 _ (Nodes.lt Y22.out.e.hN hbw24) hN7).mono ?_); rintro e w25 ⟨Ax, cx, rfl, hi25, hb25⟩; have hbw25 := hb0to hbw24 hb25; have mc25 := below_cell hbw25 mc22; have r25 := below_cell hbw25 r22))
              all_goals (go_wp2_with fail; go_meet; exact ⟨Ax, cx, rfl, rfl, hi25, hbw25⟩)
            case rest =>
              as_aux_lemma =>
              obtain ⟨Ax, cx, rfl, rfl, hix, hbx⟩ := hcut
              have Yx := Lib.hid (Y22.out.next hbx)
              have mcx := Yx.out.e.bC.cell
              have zx := below_cell hbx z22
              have hix2 := ilt hix ((Below.refl _ wc).alloc (Nat.le_refl _) (.cells #[.int .i64 w0] 3))
              have J := row_ints (l := [(w0 : Int)]) (row_lay (World.alloc_heap_new wc (.cells #[.int .i64 w0] 3)) rfl)
              have HIX := Lib.hid hix2
              have HJ := Lib.hid J
              clear hix hix2 J T22 hA22 hD22
              go_wp2_with (first
                | (go_at_call 37; go_must (refine (same1 Ax cx wc.heap.size w0 _ HIX.out HJ.out).mono ?_; rintro e w26 ⟨rfl, hb26⟩; have Y26 := (Yx.out.next ((Below.refl _ wc).alloc (Nat.le_refl _) (.cells #[.int .i64 w0] 3))).next hb26))
                | (go_at_call 17; go_must (refine (works_any _).mono ?_; rintro e w27 ⟨rfl, hb27⟩; have Y27 := Y26.next hb27)))
              go_ret
              exact ⟨rfl, Y27.e.hb⟩
        · have hl3 := hl2
          go_wp2
          go_region_held3 (fun w' => w'.cell? ⟨w.heap.size, 0, none⟩ = some (.slice (some ⟨ba, oa, none⟩) ns.length c)) (first | go_keep)
            (first
              | (go_at_call 38; refine (K38H.out _ (Nodes.lt Yc.out.q (drew_below wc))).mono ?_; rintro e w20 ⟨A5, c5, rfl, hA5, hO5, hb20⟩; have hbw20 : Below wc.heap.size wc w20 := hb0to (drew_below wc) hb20; have mc20 := below_cell hbw20 mt; have HO5 := Lib.hid (owns_nodes hO5); clear hA5 hO5)
              | (go_at_call 43; refine (K43H.out A5 c5 _ (Nodes.lt Yc.out.e.hN hbw20) HO5.out).mono ?_; rintro e w21 ⟨rfl, hb21⟩; have hbw21 := hb0to hbw20 hb21; have mc21 := below_cell hbw21 mt))
          have Y21 := Lib.hid (Yc.out.next hbw21)
          have I21 := Lib.hid (ilt Ic.out hbw21)
          go_wp2_with (go_at_call 17; go_must (refine (works_any _).mono ?_; rintro e w22 ⟨rfl, hb22⟩; have Y22 := Y21.out.next hb22))
          go_ret
          exact ⟨rfl, Y22.e.hb⟩
set_option maxRecDepth 100000 in
set_option maxHeartbeats 8000000 in
theorem pays_law (A A2 : Option Addr) (c c2 : Nat) (ns ps : List Node) (hA : A = none → c = 0 ∧ ns = []) (hA2 : A2 = none → c2 = 0 ∧ ps = []) (hn : ns.length ≤ 9223372036854775807) (hp : ps.length ≤ 9223372036854775807) (node : Int) (w : World) (hN : Nodes w w.heap.size A ns) (hP : Nodes w w.heap.size A2 ps) :
    Calls Try.prog 15 #[.agg #[.slice A ns.length c], .int .i64 node, .slice A2 ps.length c2] w fun e w' => e = .returned (.bool true) ∧ Below w.heap.size w w' := by
  obtain ⟨W0, hW0⟩ : ∃ W0, w.alloc (.cells #[.slice A ns.length c] 24) = W0 := ⟨_, rfl⟩
  have E0 : Env w A c ns W0 := by rw [← hW0]; exact Env.new c hN
  have HP0 := Lib.hid (show Nodes W0 W0.heap.size A2 ps by rw [← hW0]; exact Nodes.alloc hP _)
  have q0 := E0.bC.cell
  have hN' := hN
  have hP' := hP
  clear hN hP
  cases hv : validB ns
  · have HR := Lib.hid (ready_is A c ns hn W0 E0.hN false hv)
    clear hv
    go_enter Try.func15, Try.ntmps15
    go_wp2_with (first
      | (go_at_call 26; go_must (refine HR.out.mono ?_; rintro e w1 ⟨rfl, hb1⟩; have E1 := E0.next hb1))
      | (go_at_call 17; go_must (refine (works_any w1).mono ?_; rintro e w2 ⟨rfl, hb2⟩; have E2 := E1.next hb2)))
    go_ret
    exact ⟨rfl, E2.hb⟩
  · have HR := Lib.hid (ready_is A c ns hn W0 E0.hN true hv)
    have hn8 := validB_len hv
    cases hi : inR node 0 (ns.length - 1)
    · have HI := Lib.hid hi
      clear hv hi
      go_enter Try.func15, Try.ntmps15
      go_wp2_with (first
        | (go_at_call 26; go_must (refine HR.out.mono ?_; rintro e w1 ⟨rfl, hb1⟩; have E1 := E0.next hb1; have m0 := E1.bC.cell))
        | (go_at_call 27; go_must (refine (refIsNode_is A _ c _ w1 (by omega) _ HI.out).mono ?_; rintro e w2 ⟨rfl, hb2⟩; have E2 := E1.next hb2))
        | (go_at_call 17; go_must (refine (works_any w2).mono ?_; rintro e w3 ⟨rfl, hb3⟩; have E3 := E2.next hb3)))
      go_ret
      exact ⟨rfl, E3.hb⟩
    · have HI := Lib.hid hi
      have hic := inR_true.1 hi
      obtain ⟨m, rfl⟩ : ∃ m : Nat, node = m := ⟨node.toNat, by omega⟩
      have hm : m < ns.length := by omega
      by_cases hm0 : m = 0
      · have g0 : ((m : Int) == 0) = true := by simpa using hm0
        clear hv hi hm0
        go_enter Try.func15, Try.ntmps15
        go_wp2_with (first
          | (go_at_call 26; go_must (refine HR.out.mono ?_; rintro e w1 ⟨rfl, hb1⟩; have E1 := E0.next hb1; have m0 := E1.bC.cell))
          | (go_at_call 27; go_must (refine (refIsNode_is A _ c _ w1 (by omega) _ HI.out).mono ?_; rintro e w2 ⟨rfl, hb2⟩; have E2 := E1.next hb2))
          | (go_at_call 17; go_must (refine (works_any w2).mono ?_; rintro e w3 ⟨rfl, hb3⟩; have E3 := E2.next hb3)))
        go_ret
        exact ⟨rfl, E3.hb⟩
      · have g0 : ((m : Int) == 0) = false := by simpa using hm0
        by_cases hp6 : 6 ≤ ps.length
        · clear hv hi hm0
          go_enter Try.func15, Try.ntmps15
          go_wp2_with (first
            | (go_at_call 26; go_must (refine HR.out.mono ?_; rintro e w1 ⟨rfl, hb1⟩; have E1 := E0.next hb1; have m0 := E1.bC.cell))
            | (go_at_call 27; go_must (refine (refIsNode_is A _ c _ w1 (by omega) _ HI.out).mono ?_; rintro e w2 ⟨rfl, hb2⟩; have E2 := E1.next hb2))
            | (go_at_call 17; go_must (refine (works_any w2).mono ?_; rintro e w3 ⟨rfl, hb3⟩; have E3 := E2.next hb3)))
          go_ret
          exact ⟨rfl, E3.hb⟩
        · cases hpa : ps.all (payOK ns.length)
          · have HPA := Lib.hid hpa
            clear hv hi hm0 hpa
            go_enter Try.func15, Try.ntmps15
            go_wp2_with (first
              | (go_at_call 26; go_must (refine HR.out.mono ?_; rintro e w1 ⟨rfl, hb1⟩; have E1 := E0.next hb1; have m0 := E1.bC.cell))
              | (go_at_call 27; go_must (refine (refIsNode_is A _ c _ w1 (by omega) _ HI.out).mono ?_; rintro e w2 ⟨rfl, hb2⟩; have E2 := E1.next hb2; have m2 := E2.bC.cell))
              | (go_at_call 56; go_must (refine (arePays_is A A2 ns.length c c2 ps (by omega) hp w2 (Nodes.lt (Nodes.lt HP0.out hb1) hb2) _ HPA.out).mono ?_; rintro e w3 ⟨rfl, hb3⟩; have E3 := E2.next hb3))
              | (go_at_call 17; go_must (refine (works_any w3).mono ?_; rintro e w4 ⟨rfl, hb4⟩; have E4 := E3.next hb4)))
            go_ret
            exact ⟨rfl, E4.hb⟩
          · exact pays_in A A2 c c2 ns ps hA hA2 hn hp m hv hm hm0 hp6 hpa w hN' hP'
end Go.Proofs.Ytohoonbbjkefaaa
