import Derived.Test.YtohoonbbjkefaaaF10
import Derived.RangeFuncBox
namespace Go.Proofs.Ytohoonbbjkefaaa
open Go.RowKit

theorem wpl_appG {ops : Array Oper} {rest : List Oper} {o : Oper} {a : Act} {w : World} {Q : Exit → Act → World → Prop} (hgd : o.guard = none) (s x : Operand)
    (ho : o.op = .call { callee := .builtin .append, args := #[s, x], argTypes := #[40, 40] }) (base : Nat) (v : Value) (l : List Int) (k : Int) (hs : a.eval s = v) (hown : Ints w base v l)
    (ad : Addr) (c : Nat) (hx : a.eval x = .slice (some ad) 1 c) (hc : w.cell? ad = some (.int .i64 k)) (hl : l.length ≤ 1000) (hbase : base ≤ w.heap.size)
    (h : ∀ g cap w', Ints w' base (.slice (some ⟨g, 0, none⟩) (l.length + 1) cap) (l ++ [k]) → w.grownBy w' v.ownBlock → wpList Try.prog ops Q rest (a.put o.dst (.slice (some ⟨g, 0, none⟩) (l.length + 1) cap)) w') : wpList Try.prog ops Q (o :: rest) a w := by
  obtain ⟨i0, hi, hz0, hz1, hz2⟩ := info_parts info3
  refine wpList_append_own w hgd s x 40 ho base 3 i0 (.int .i64 0) 1 8 Try.underlying40 hi hz0 hz1 hz2 rfl (by decide) v l.length (l.map (.int .i64)) hs hown ad 1 c [.int .i64 k] hx rfl ?_ ?_ ?_ ?_ hbase ?_
  · intro j u hj
    match j, hj with
    | 0, hj => simp at hj; subst hj; simpa [Addr.add] using hc
  · intro u hu; simp at hu; subst hu; rfl
  · unfold maxLen; omega
  · omega
  · intro v' w' h2 h3 _
    obtain ⟨g, cap, rfl⟩ := ownsRow_succ h2
    refine h g cap w' ?_ h3
    unfold Ints
    rw [List.length_append, List.map_append]
    exact h2
/-- What Split's closure leaves. -/
theorem give73 (pb n₀ : Nat) (k : Nat) (v : Int) (l : List Int) (val : Value) (W : World) (hl : l.length ≤ 1000) (hn : n₀ ≤ W.heap.size) (hb : Boxed W pb 40 val) (hr : Ints W n₀ val l) :
    Calls Try.prog 73 #[.int .i64 k, .int .i64 v, .pointer (some ⟨pb, 0, none⟩)] W fun e W' => (∃ u, e = .returned u) ∧ (∃ val', Boxed W' pb 40 val' ∧ Ints W' n₀ val' (l ++ [v])) ∧ KeepsOthers W W' ∧ KpB (fun j => j = pb) n₀ W W' := by
  have hne := hb.not_row (by decide) hr
  have HR := Lib.hid hr
  have HB := Lib.hid hb
  obtain ⟨A0, c0, rfl, _, _⟩ := Ints.lay hr
  have c1 := hb.cell
  have c2 := (hb.alloc (.cells #[.int .i64 v] 3)).cell
  clear hr hb
  go_enter Try.func73, Try.ntmps73
  go_wp2_with (at_builtin; go_must (refine wpl_appG rfl (.tmp 5) (.tmp 7) rfl n₀ _ l v rfl (World.ownsRow.alloc HR.out _) ⟨W.heap.size, 0, none⟩ 1 rfl (Boxed.cell (Boxed.new W 3 (.int .i64 v))) hl (by simp; omega) ?_; intro g cap w1 hown hgrow; have hb1 : Boxed w1 pb 40 (.slice A0 l.length c0) := (HB.out.alloc _).kept hgrow hne; have d1 := hb1.cell; have d2 := hb1.frozen))
  have hg2 : (W.alloc (.cells #[.int .i64 v] 3)).grownBy w1 (Value.slice A0 l.length c0).ownBlock := hgrow
  have hne2 : some pb ≠ (Value.slice (some ⟨g, 0, none⟩) (l.length + 1) cap).ownBlock := hb1.not_row (by decide) hown
  have hkb : KpB (fun j => j = pb) n₀ W (w1.setCell ⟨pb, 0, none⟩ (.slice (some ⟨g, 0, none⟩) (l.length + 1) cap)) := by
    refine KpB.set (KpB.grown ((KpB.refl _ n₀ W).alloc (.cells #[.int .i64 v] 3) hn) hg2 (by simp; omega) (fun j ej => .inr ?_)) _ _ (.inl rfl)
    rcases HR.out.2 with ⟨e, _⟩ | ⟨g', cap', cur, e, hgb, _, _⟩
    · rw [e] at ej; simp [Value.ownBlock] at ej
    · rw [e] at ej
      obtain rfl : g' = j := by simpa [Value.ownBlock] using ej
      exact hgb
  have hko : KeepsOthers W (w1.setCell ⟨pb, 0, none⟩ (.slice (some ⟨g, 0, none⟩) (l.length + 1) cap)) := by
    refine ((KeepsOthers.alloc W _).trans (KeepsOthers.of_grownBy hg2 fun j o ej hj => ?_)).trans (KeepsOthers.setCell _ _ _)
    rcases (World.ownsRow.alloc HR.out (.cells #[.int .i64 v] 3)).2 with ⟨e, _⟩ | ⟨g', cap', cur, e, _, hgb, _⟩
    · rw [e] at ej; simp [Value.ownBlock] at ej
    · rw [e] at ej
      obtain rfl : g' = j := by simpa [Value.ownBlock] using ej
      rw [hgb] at hj; cases hj; rfl
  go_end0
  refine ⟨⟨_, rfl⟩, ⟨_, hb1.set _, ?_⟩, hko, hkb⟩
  exact World.ownsRow.kept (show w1.ownsRow n₀ 3 1 (.slice (some ⟨g, 0, none⟩) (l.length + 1) cap) (l ++ [v]).length ((l ++ [v]).map (.int .i64)) from hown) (grownBy_setCell' w1 pb _) (.inr hne2.symm)

theorem KeepsOthers_from {W W' : World} (h : KeepsOthers W W') (B : Nat) : KeepsFrom B W W' := h.from B
end Go.Proofs.Ytohoonbbjkefaaa
