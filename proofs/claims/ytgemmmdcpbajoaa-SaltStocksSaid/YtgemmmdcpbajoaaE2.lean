import Derived.Test.YtgemmmdcpbajoaaE1
namespace Go.Proofs.Ytgemmmdcpbajoaa
open Go.RowKit

/-! Appends at a step of a region that draws its order: what else is kept is told. -/
/-- 'append(out, xs...)'. -/
theorem step_copyG {ops : Array Oper} {o : Oper} {a : Act} {w : World} {K : Act → World → Prop} {Q : Exit → Act → World → Prop} {E : Prop} (hgd : o.guard = none) (s x : Operand)
    (ho : o.op = .call { callee := .builtin .append, args := #[s, x], argTypes := #[24, 24] }) (n₀ : Nat) (v : Value) (l0 : List Int) (hs : a.eval s = v) (hown : Ints w n₀ v l0)
    (A : Option Addr) (c : Nat) (l : List Int) (m : Nat) (hm : l.length = m) (hA : A = none → c = 0 ∧ l = []) (hx : a.eval x = .slice A m c) (hI : IntsAt w w.heap.size A l) (hl0 : l0.length ≤ 1000) (hl : m ≤ 1000) (hn : n₀ ≤ w.heap.size)
    (h : ∀ v' w', Ints w' n₀ v' (l0 ++ l) → Below n₀ w w' → w.grownBy w' v.ownBlock → K (a.put o.dst v') w') :
    if Region.wanted o (yielded ops a.tmps) = true then Oper.wp Try.prog o a w K Q else E := by
  subst hm
  have hw : Region.wanted o (yielded ops a.tmps) = true := by simp [Region.wanted, hgd]
  rw [if_pos hw]
  obtain ⟨i0, hi, hz0, hz1, hz2⟩ := info_parts info3'
  cases A with
  | none =>
    obtain ⟨rfl, rfl⟩ := hA rfl
    have hrun := run_append_owned_none (P := Try.prog) (w := w) n₀ 24 o.type 3 i0 1 Try.underlying24 hi v l0.length _ hown
    have hk := h v w (by rw [List.append_nil]; exact hown) (Below.refl _ _) ⟨rfl, rfl, rfl, Nat.le_refl _, fun _ _ _ => rfl⟩
    unfold Oper.wp
    simp [execOp, ho, resolve, invoke, builtin, hs, hx, hrun, Result.andThen]
    exact hk
  | some ad =>
    refine wp_append_own w s x 24 ho n₀ 3 i0 (.int .i64 0) 1 8 Try.underlying24 hi hz0 hz1 hz2 rfl (by decide) v l0.length _ hs hown ad l.length c (l.map (.int .i64)) hx (by simp) (ints_news hI) (ints_one l) ?_ ?_ hn ?_
    · unfold maxLen; omega
    · omega
    · intro v' w' h2 h3 _
      refine h v' w' ?_ (own_below hown h3 hn (Nat.le_refl _)) h3
      unfold Ints
      rw [List.length_append, List.map_append]
      exact h2
/-- 'append(out, x)'. -/
theorem step_appG {ops : Array Oper} {o : Oper} {a : Act} {w : World} {K : Act → World → Prop} {Q : Exit → Act → World → Prop} {E : Prop} (hgd : o.guard = none) (s x : Operand)
    (ho : o.op = .call { callee := .builtin .append, args := #[s, x], argTypes := #[24, 24] }) (n₀ : Nat) (v : Value) (l : List Int) (hs : a.eval s = v) (hown : Ints w n₀ v l)
    (ad : Addr) (c : Nat) (k : Int) (hx : a.eval x = .slice (some ad) 1 c) (hc : w.cell? ad = some (.int .i64 k)) (hl : l.length ≤ 1000) (hn : n₀ ≤ w.heap.size)
    (h : ∀ v' w', Ints w' n₀ v' (l ++ [k]) → Below n₀ w w' → K (a.put o.dst v') w') :
    if Region.wanted o (yielded ops a.tmps) = true then Oper.wp Try.prog o a w K Q else E := by
  have hw : Region.wanted o (yielded ops a.tmps) = true := by simp [Region.wanted, hgd]
  rw [if_pos hw]
  obtain ⟨i0, hi, hz0, hz1, hz2⟩ := info_parts info3'
  refine wp_append_own w s x 24 ho n₀ 3 i0 (.int .i64 0) 1 8 Try.underlying24 hi hz0 hz1 hz2 rfl (by decide) v l.length _ hs hown ad 1 c [.int .i64 k] hx rfl ?_ ?_ ?_ ?_ hn ?_
  · intro j u hj
    match j, hj with
    | 0, hj => simp at hj; subst hj; simpa [Addr.add] using hc
  · intro u hu; simp at hu; subst hu; rfl
  · unfold maxLen; omega
  · omega
  · intro v' w' h2 h3 _
    refine h v' w' ?_ (own_below hown h3 hn (Nat.le_refl _))
    unfold Ints
    rw [List.length_append, List.map_append]
    exact h2
theorem run_appR {w : World} (ty st : TypeId) (hst : Try.prog.underlying st = some (.slice 24)) (n₀ lo base : Nat) (v : Value) (rs : List (List Int)) (hown : OwnsR w lo base v rs)
    (A : Option Addr) (c lo2 : Nat) (rs2 : List (List Int)) (hA : A = none → c = 0 ∧ rs2 = []) (hR : RowsIn w lo2 w.heap.size A rs2) (hlo2 : lo ≤ lo2) (hab : ∀ k, v.ownBlock = some k → k < lo2) (hl : rs.length ≤ 1000000) (hl2 : rs2.length ≤ 1000000) (hbase : base ≤ w.heap.size) (hn : n₀ ≤ base) :
    ∃ v' w', (Builtin.append_ #[st, st] ty #[v, .slice A rs2.length c]).run Try.prog w = .ok v' w' ∧ OwnsR w' lo base v' (rs ++ rs2) ∧ Below n₀ w w' := by
  obtain ⟨i0, hi, hz0, hz1, hz2⟩ := info_parts info24'
  obtain ⟨vs, hown, hvs⟩ := hown
  cases A with
  | none =>
    obtain ⟨rfl, rfl⟩ := hA rfl
    exact ⟨v, w, run_append_owned_none (P := Try.prog) (w := w) base st ty 24 i0 1 hst hi v rs.length _ hown, by rw [List.append_nil]; exact ⟨vs, hown, hvs⟩, Below.refl _ _⟩
  | some ad =>
    obtain ⟨ws, hwl, hws⟩ : ∃ ws : List Value, ws.length = rs2.length ∧ ∀ i r, rs2[i]? = some r → ∃ A' c', ws[i]? = some (.slice A' r.length c') ∧ w.cell? (ad.add i) = some (.slice A' r.length c') ∧ (A' = none → c' = 0 ∧ r = []) ∧ IntsIn w lo2 w.heap.size A' r := by
      rcases hR with rfl | ⟨b, off, e, h1, h2, h3⟩
      · exact ⟨[], rfl, fun i r h => by simp at h⟩
      · cases e
        refine ⟨(List.range rs2.length).map fun i => (w.cell? ⟨b, off + i, none⟩).getD undef, by simp, fun i r hr => ?_⟩
        obtain ⟨A', c', g1, g2, g3⟩ := h3 i r hr
        have hlt := (List.getElem?_eq_some_iff.1 hr).1
        refine ⟨A', c', ?_, by rw [addr_add]; exact g1, g2, g3⟩
        rw [List.getElem?_map, List.getElem?_range hlt]
        simp [g1]
    obtain ⟨v', w', hrun, h2, h3, _, hat⟩ := run_append_own_at (P := Try.prog) w base st ty 24 i0 (.slice none 0 0) 1 24 hst hi hz0 hz1 hz2 rfl (by decide) v rs.length vs hown ad rs2.length c ws (by omega) (fun j u hj => by
        have hlt := (List.getElem?_eq_some_iff.1 hj).1
        obtain ⟨A', c', g1, g2, _⟩ := hws j _ (List.getElem?_eq_getElem (by omega))
        rw [g1] at hj; cases hj; exact g2) (fun u hu => by
        obtain ⟨j, hj⟩ := List.getElem?_of_mem hu
        have hlt := (List.getElem?_eq_some_iff.1 hj).1
        obtain ⟨A', c', g1, g2, _⟩ := hws j _ (List.getElem?_eq_getElem (by omega))
        rw [g1] at hj; cases hj; rfl) (by unfold maxLen; omega) (by omega) hbase
    have hne : ∀ b, b < w.heap.size → some b ≠ v.ownBlock → some b ≠ v'.ownBlock := fun b hb hb2 hb3 => by
      rcases hat with e | e
      · exact hb2 (hb3.trans e)
      · rw [e] at hb3; cases hb3; omega
    refine ⟨v', w', hrun, ⟨vs ++ ws, by rw [List.length_append]; exact h2, fun i r hr => ?_⟩, own_below hown h3 (by omega) hn⟩
    have hvl : vs.length = rs.length := by have := hown.1; omega
    by_cases hi : i < rs.length
    · rw [List.getElem?_append_left hi] at hr
      obtain ⟨u, hu, A', c', rfl, hA', hr'⟩ := hvs i r hr
      refine ⟨_, by rw [List.getElem?_append_left (by omega)]; exact hu, A', c', rfl, hA', ?_⟩
      rcases hr' with hr' | ⟨b, off, e, q1, q2, q3, q4⟩
      · exact .inl hr'
      · exact .inr ⟨b, off, e, q1, Nat.lt_of_lt_of_le q2 h3.size, hne b q2 q3, fun i x hx => (World.cell?_of_block (h3.block b q2 q3)).trans (q4 i x hx)⟩
    · rw [List.getElem?_append_right (by omega)] at hr
      obtain ⟨A', c', g1, g2, g3, g4⟩ := hws _ r hr
      refine ⟨_, by rw [List.getElem?_append_right (by omega), hvl]; exact g1, A', c', rfl, g3, ?_⟩
      rcases g4 with g4 | ⟨b, off, e, q1, q2, q4⟩
      · exact .inl g4
      · have q3 : some b ≠ v.ownBlock := fun e => by have := hab b e.symm; omega
        exact .inr ⟨b, off, e, by omega, Nat.lt_of_lt_of_le q2 h3.size, hne b q2 q3, fun i x hx => (World.cell?_of_block (h3.block b q2 q3)).trans (q4 i x hx)⟩
theorem step_appR {ops : Array Oper} {o : Oper} {a : Act} {w : World} {K : Act → World → Prop} {Q : Exit → Act → World → Prop} {E : Prop} (st : TypeId) (hst : Try.prog.underlying st = some (.slice 24)) (hgd : o.guard = none) (s x : Operand)
    (ho : o.op = .call { callee := .builtin .append, args := #[s, x], argTypes := #[st, st] }) (n₀ lo base : Nat) (v : Value) (rs : List (List Int)) (hs : a.eval s = v) (hown : OwnsR w lo base v rs)
    (A : Option Addr) (c lo2 : Nat) (rs2 : List (List Int)) (hA : A = none → c = 0 ∧ rs2 = []) (hx : a.eval x = .slice A rs2.length c) (hR : RowsIn w lo2 w.heap.size A rs2) (hlo2 : lo ≤ lo2) (hab : ∀ k, v.ownBlock = some k → k < lo2) (hl : rs.length ≤ 1000000) (hl2 : rs2.length ≤ 1000000) (hbase : base ≤ w.heap.size) (hn : n₀ ≤ base)
    (h : ∀ v' w', OwnsR w' lo base v' (rs ++ rs2) → Below n₀ w w' → K (a.put o.dst v') w') :
    if Region.wanted o (yielded ops a.tmps) = true then Oper.wp Try.prog o a w K Q else E := by
  have hw : Region.wanted o (yielded ops a.tmps) = true := by simp [Region.wanted, hgd]
  rw [if_pos hw]
  obtain ⟨v', w', hrun, h1, h2⟩ := run_appR (w := w) o.type st hst n₀ lo base v rs hown A c lo2 rs2 hA hR hlo2 hab hl hl2 hbase hn
  have hk := h v' w' h1 h2
  unfold Oper.wp
  simp [execOp, ho, resolve, invoke, builtin, hs, hx, hrun, Result.andThen]
  exact hk
end Go.Proofs.Ytgemmmdcpbajoaa
