import Derived.Test.YtohoonbbjkefaaaF10
import Derived.RangeFuncBox
namespace Go.Proofs.Ytohoonbbjkefaaa
open Go.RowKit

theorem wpl_appG {ops : Array Oper} {rest : List Oper} {o : Oper} {a : Act} {w : World} {Q : Exit → Act → World → Prop} (hgd : o.guard = none) (s x : Operand)
    (ho : o.op = .call { callee := .builtin .append, args := #[s, x], argTypes := #[40, 40] }) (base : Nat) (v : Value) (l : List Int) (k : Int) (hs : a.eval s = v) (hown : Ints w base v l)
    (ad : Addr) (c : Nat) (hx : a.eval x = .slice (some ad) 1 c) (hc : w.cell? ad = some (.int .i64 k)) (hl : l.length ≤ 1000) (hbase : base ≤ w.heap.size)
    (h : ∀ g cap w', Ints w' base (.slice (some ⟨g, 0, none⟩) (l.length + 1) cap) (l ++ [k]) → w.grownBy w' v.ownBlock → wpList Try.prog ops Q rest (a.put o.dst (.slice (some ⟨g, 0, none⟩) (l.length + 1) cap)) w') : wpList Try.prog ops Q (o :: rest) a w := by
  obtain ⟨i0, hi, hz0, hz1, hz2⟩ := info_parts info3
  refine wpList_append_own w hgd s x 40 ho base 3 i0 (.int .i64 0) 1 8 Try.underlying40 hi hz0 hz1 hz2 rfl (by decide) v l.length (l.map (.int .i64)) hs hown ad 1 c [.int .i64 k] hx rfl ?_ ?_ ?_ ?_ hbase ?_
  · intro j u hj
    match j, hj with
    | 0, hj => simp at hj; subst hj; simpa [Addr.add] using hc
  · intro u hu; simp at hu; subst hu; rfl
  · unfold maxLen; omega
  · omega
  · intro v' w' h2 h3 _
    obtain ⟨g, cap, rfl⟩ := ownsRow_succ h2
    refine h g cap w' ?_ h3
    unfold Ints
    rw [List.length_append, List.map_append]
    exact h2
/-- What Split's closure leaves. -/
theorem give73 (pb n₀ : Nat) (k : Nat) (v : Int) (l : List Int) (val : Value) (W : World) (hl : l.length ≤ 1000) (hn : n₀ ≤ W.heap.size) (hb : Boxed W pb 40 val) (hr : Ints W n₀ val l) :
    Calls Try.prog 73 #[.int .i64 k, .int .i64 v, .pointer (some ⟨pb, 0, none⟩)] W fun e W' => (∃ u, e = .returned u) ∧ (∃ val', Boxed W' pb 40 val' ∧ Ints W' n₀ val' (l ++ [v])) ∧ KeepsOthers W W' ∧ KpB (fun j => j = pb) n₀ W W' := by
  have hne := hb.not_row (by decide) hr
  have HR := Lib.hid hr
  have HB := Lib.hid hb
  obtain ⟨A0, c0, rfl, _, _⟩ := Ints.lay hr
  have c1 := hb.cell
  have c2 := (hb.alloc (.cells #[.int .i64 v] 3)).cell
  clear hr hb
  go_enter Try.func73, Try.ntmps73
  go_wp2_with (at_builtin; go_must (refine wpl_appG rfl (.tmp 5) (.tmp 7) rfl n₀ _ l v rfl (World.ownsRow.alloc HR.out _) ⟨W.heap.size, 0, none⟩ 1 rfl (Boxed.cell (Boxed.new W 3 (.int .i64 v))) hl (by simp; omega) ?_; intro g cap w1 hown hgrow; have hb1 : Boxed w1 pb 40 (.slice A0 l.length c0) := (HB.out.alloc _).kept hgrow hne; have d1 := hb1.cell; have d2 := hb1.frozen))
  have hg2 : (W.alloc (.cells #[.int .i64 v] 3)).grownBy w1 (Value.slice A0 l.length c0).ownBlock := hgrow
  have hne2 : some pb ≠ (Value.slice (some ⟨g, 0, none⟩) (l.length + 1) cap).ownBlock := hb1.not_row (by decide) hown
  have hkb : KpB (fun j => j = pb) n₀ W (w1.setCell ⟨pb, 0, none⟩ (.slice (some ⟨g, 0, none⟩) (l.length + 1) cap)) := by
    refine KpB.set (KpB.grown ((KpB.refl _ n₀ W).alloc (.cells #[.int .i64 v] 3) hn) hg2 (by simp; omega) (fun j ej => .inr ?_)) _ _ (.inl rfl)
    rcases HR.out.2 with ⟨e, _⟩ | ⟨g', cap', cur, e, hgb, _, _⟩
    · rw [e] at ej; simp [Value.ownBlock] at ej
    · rw [e] at ej
      obtain rfl : g' = j := by simpa [Value.ownBlock] using ej
      exact hgb
  have hko : KeepsOthers W (w1.setCell ⟨pb, 0, none⟩ (.slice (some ⟨g, 0, none⟩) (l.length + 1) cap)) := by
    refine ((KeepsOthers.alloc W _).trans (KeepsOthers.of_grownBy hg2 fun j o ej hj => ?_)).trans (KeepsOthers.setCell _ _ _)
    rcases (World.ownsRow.alloc HR.out (.cells #[.int .i64 v] 3)).2 with ⟨e, _⟩ | ⟨g', cap', cur, e, _, hgb, _⟩
    · rw [e] at ej; simp [Value.ownBlock] at ej
    · rw [e] at ej
      obtain rfl : g' = j := by simpa [Value.ownBlock] using ej
      rw [hgb] at hj; cases hj; rfl
  go_end0
  refine ⟨⟨_, rfl⟩, ⟨_, hb1.set _, ?_⟩, hko, hkb⟩
  exact World.ownsRow.kept (show w1.ownsRow n₀ 3 1 (.slice (some ⟨g, 0, none⟩) (l.length + 1) cap) (l ++ [v]).length ((l ++ [v]).map (.int .i64)) from hown) (grownBy_setCell' w1 pb _) (.inr hne2.symm)

theorem KeepsOthers_from {W W' : World} (h : KeepsOthers W W') (B : Nat) : KeepsFrom B W W' := h.from B
end Go.Proofs.Ytohoonbbjkefaaa
namespace Go.Proofs.Ytohoonbbjkefaaa
open Go.RowKit

def JS (pb n₀ : Nat) (pre : List (Nat × Int)) (W : World) : Prop := ∃ v, Boxed W pb 40 v ∧ W.ownsRow n₀ 3 1 v (pre.map (·.2)).length ((pre.map (·.2)).map (Value.int .i64)) ∧ True
/-- split, with Split's own closure. -/
theorem split_lists (c pb b0 : Nat) (A : Option Addr) (ns : List Node) (m : Nat) (p : Int) (hg : GoodC ns) (hp0 : 0 ≤ p) (hp4 : p ≤ 400) (w : World) (hb0 : b0 ≤ pb) (hN : Nodes w b0 A ns) (hpb : Boxed w pb 40 (.slice none 0 0)) :
    Calls Try.prog 72 #[.agg #[.slice A ns.length c], .int .i64 m, .int .i64 p, (.func (.func 73) #[] #[.pointer (some ⟨pb, 0, none⟩)])] w fun e w' => e = .returned (.int .i64 (splitL p (kidL ns m)).2) ∧
      (∃ val, Boxed w' pb 40 val ∧ Ints w' (w.heap.size + 5) val (splitL p (kidL ns m)).1) ∧ KpB (fun j => j = pb) w.heap.size w w' := by
  have hlt := hpb.lt
  have h := split_any b0 c 73 pb A ns m p hp0 hp4 hg.ok hg.l8 w (by omega) hN (enters_of Try.func73 (by kernel_rfl) rfl) (fun j => j = pb) (fun j hj => by subst hj; exact ⟨hb0, hlt⟩) (JS pb)
    (fun W hW => ⟨_, boxed_ext hW hpb, World.ownsRow_nil _ _ _ _, trivial⟩)
    (fun n₀ => (holdsRow_own n₀ pb 40 3 1 (fun pre : List (Nat × Int) => (pre.map (·.2)).length) (fun pre => (pre.map (·.2)).map (Value.int .i64)) (fun _ _ => True)).from _)
    (fun n₀ pre k v W h1 h2 h3 h4 h5 h6 h7 => by
      obtain ⟨val, hb, ho, _⟩ := h6
      refine (give73 pb n₀ k v (pre.map (fun x : Nat × Int => x.2)) val W (by simp; omega) h2 hb ho).mono ?_
      rintro e W' ⟨hu, ⟨val', hb', ho'⟩, hk, hkp⟩
      refine ⟨hu, ⟨val', hb', ?_, trivial⟩, hk.from _, hkp⟩
      have : (pre ++ [(k, v)]).map (·.2) = pre.map (·.2) ++ [v] := by simp
      rw [this]
      exact ho')
  refine h.mono ?_
  rintro e w' ⟨he, ⟨n₀, hn₀, val, hb, ho, _⟩, hk⟩
  have hkd := kids_keyd hg m
  have e1 : (splitF p (kidsTo ns.length ns m ns.length)).2 = (splitL p (kidL ns m)).2 := by
    rw [(splitF_eq p _ hkd).1, kids_nodes hg]; rfl
  have e2 : (gives (splitF p (kidsTo ns.length ns m ns.length)).1 (kidsTo ns.length ns m ns.length)).map (·.2) = (splitL p (kidL ns m)).1 := by
    rw [gives_eq p _ hkd, kids_nodes hg, List.map_snd_zip]
    · rfl
    · rw [splitL_len, kids_keys hg, List.length_map]; exact Nat.le_refl _
  rw [e1] at he
  rw [e2] at ho
  refine ⟨he, ⟨val, hb, ?_⟩, hk⟩
  refine ⟨ho.1, ?_⟩
  rcases ho.2 with h | ⟨g, cap, cur, h1, h2, h3⟩
  · exact .inl h
  · exact .inr ⟨g, cap, cur, h1, by omega, h3⟩
end Go.Proofs.Ytohoonbbjkefaaa
namespace Go.Proofs.Ytohoonbbjkefaaa
open Go.RowKit

set_option maxRecDepth 100000 in
set_option maxHeartbeats 4000000 in
theorem split_ok (A : Option Addr) (c : Nat) (ns : List Node) (m : Nat) (p : Int) (hn : ns.length ≤ 1000) (w : World) (hN : Nodes w w.heap.size A ns) (hz : splitE ns m p = 0) :
    Calls Try.prog 33 #[.agg #[.slice A ns.length c], .int .i64 m, .int .i64 p] w fun e w' => ∃ B d, e = .returned (.tuple #[.slice B (kidsN ns m).length d, .int .i64 (splitL p (kidL ns m)).2, .int .i64 0]) ∧ IntsAt w' w'.heap.size B (splitL p (kidL ns m)).1 ∧ Below w.heap.size w w' := by
  obtain ⟨hg, hm, hp0, hp4⟩ := splitE_zero hz
  obtain ⟨W0, hW0⟩ : ∃ W0, (w.alloc (.cells #[.slice A ns.length c] 24)).alloc (.cells #[.slice none 0 0] 40) = W0 := ⟨_, rfl⟩
  have E0 : Env w A c ns W0 := by rw [← hW0]; exact (Env.new c hN).alloc _
  have b2 : Boxed W0 (w.heap.size + 1) 40 (.slice none 0 0) := by
    have := Boxed.new (w.alloc (.cells #[.slice A ns.length c] 24)) 40 (.slice none 0 0)
    rw [← hW0]; simpa only [World.size_alloc] using this
  have EH := Lib.hid E0
  have HN := Lib.hid hN
  have l1 := extB_cell E0.bC.cell
  have g1 : inR (m : Int) 0 (ns.length - 1) = true := inR_true.2 hm
  have g2 : inR p 0 400 = true := inR_true.2 ⟨hp0, hp4⟩
  have G1 := Lib.hid g1
  have G2 := Lib.hid g2
  have HE : Hid (askE ns true [] = 0) := Lib.hid (by rw [splitE, g1, g2] at hz; exact hz)
  clear hz g1 g2 E0 hN
  go_enter Try.func33, Try.ntmps33
  go_wp2
  clear hW0
  refine wp_region_ext (by kernel_rfl) (by kernel_rfl) ?_
  repeat (go_big_quiet_step (first
    | (go_at_call 61; exact ext_call (isNode_is _ _ _ _ _ hn _ G1.out))
    | (go_at_call 62; exact ext_same (isPence_is _ _ _ G2.out))
    | (go_at_call 60; exact ext_call (ask_is _ none _ 0 ns [] _ hn (by simp) _ (Nodes.lt EH.out.hN (extB_below _ _)) nodes_nil _ HE.out))))
  refine wpQuiet_nil ?_
  rintro _ ⟨x1, rfl⟩
  obtain ⟨W1, hW1⟩ : ∃ W1, extB W0 x1 = W1 := ⟨_, rfl⟩
  have hb01 := extB_below W0 x1
  have E1 := Lib.hid (EH.out.next (extB_below W0 x1))
  rw [hW1] at E1 hb01 ⊢
  have q0 := E1.out.bC.cell
  have b3 := boxed_ext hb01 b2
  clear hW1 l1
  go_wp2_with (go_at_call 72; go_must (refine (split_lists c (w.heap.size + 1) w.heap.size A ns m p hg hp0 hp4 W1 (by omega) (HN.out.below E1.out.hb) b3).mono ?_; rintro e w2 ⟨rfl, ⟨val, hbx, hin⟩, hk⟩; obtain ⟨B, d, rfl, _, hI⟩ := Ints.lay hin; have r1 := hbx.cell; have r2 := hbx.frozen))
  have hs1 : w.heap.size + 1 < W1.heap.size := b3.lt
  have hb2 : Below w.heap.size w w2 := E1.out.hb.trans ((hk.mono (S' := fun j => j = w.heap.size + 1) (by omega) (fun _ _ h => h)).below (fun j hj => by subst hj; omega))
  have q := (hbx.set (.slice B (splitL p (kidL ns m)).1.length d)).cell
  have hl : (splitL p (kidL ns m)).1.length = (kidsN ns m).length := by rw [splitL_len, kidL_len]
  have hI3 : IntsAt (w2.setCell ⟨w.heap.size + 1, 0, none⟩ (.slice B (splitL p (kidL ns m)).1.length d)) (w2.setCell ⟨w.heap.size + 1, 0, none⟩ (.slice B (splitL p (kidL ns m)).1.length d)).heap.size B (splitL p (kidL ns m)).1 := by
    have hne := hbx.not_row (by decide) hin
    have h2 : Ints (w2.setCell ⟨w.heap.size + 1, 0, none⟩ (.slice B (splitL p (kidL ns m)).1.length d)) (W1.heap.size + 5) (.slice B (splitL p (kidL ns m)).1.length d) (splitL p (kidL ns m)).1 := World.ownsRow.kept hin (grownBy_setCell' w2 (w.heap.size + 1) _) (.inr hne.symm)
    obtain ⟨B', d', e', _, hI'⟩ := Ints.lay h2
    injection e' with h3 _ _
    rw [← h3] at hI'
    exact hI'
  refine bodyPost_ret (v := .tuple #[.slice B (splitL p (kidL ns m)).1.length d, .int .i64 (splitL p (kidL ns m)).2, .int .i64 0]) (by simp [results, Try.results33, go_sem, q]) rfl ⟨B, d, by rw [hl], hI3, hb2.setCell (p := ⟨w.heap.size + 1, 0, none⟩) (by simp) _⟩
end Go.Proofs.Ytohoonbbjkefaaa
namespace Go.Proofs.Ytohoonbbjkefaaa
open Go.RowKit

set_option maxRecDepth 100000 in
set_option maxHeartbeats 4000000 in
theorem split_no (A : Option Addr) (c : Nat) (ns : List Node) (node p : Int) (hn : ns.length ≤ 1000) (w : World) (hN : Nodes w w.heap.size A ns) (hz : splitE ns node p ≠ 0) :
    Calls Try.prog 33 #[.agg #[.slice A ns.length c], .int .i64 node, .int .i64 p] w fun e w' => e = .returned (.tuple #[.slice none 0 0, .int .i64 0, .int .i64 (splitE ns node p)]) ∧ Below w.heap.size w w' := by
  obtain ⟨ee, hee⟩ : ∃ ee, splitE ns node p = ee := ⟨_, rfl⟩
  rw [hee] at hz ⊢
  have hz2 : (ee != 0) = true := by simpa using hz
  obtain ⟨W0, hW0⟩ : ∃ W0, (w.alloc (.cells #[.slice A ns.length c] 24)).alloc (.cells #[.slice none 0 0] 40) = W0 := ⟨_, rfl⟩
  have E0 : Env w A c ns W0 := by rw [← hW0]; exact (Env.new c hN).alloc _
  have b2 : Boxed W0 (w.heap.size + 1) 40 (.slice none 0 0) := by
    have := Boxed.new (w.alloc (.cells #[.slice A ns.length c] 24)) 40 (.slice none 0 0)
    rw [← hW0]; simpa only [World.size_alloc] using this
  have EH := Lib.hid E0
  have l1 := extB_cell E0.bC.cell
  clear E0 hN
  cases g1 : inR node 0 (ns.length - 1) <;> cases g2 : inR p 0 400
  all_goals
    have G1 := Lib.hid g1
    have G2 := Lib.hid g2
    rw [splitE, g1, g2] at hee
    simp only [Bool.and_true, Bool.and_false] at hee
    have HE := Lib.hid hee
    clear hee g1 g2
    go_enter Try.func33, Try.ntmps33
    go_wp2
    clear hW0
    refine wp_region_ext (by kernel_rfl) (by kernel_rfl) ?_
    repeat (go_big_quiet_step (first
      | (go_at_call 61; exact ext_call (isNode_is _ _ _ _ _ hn _ G1.out))
      | (go_at_call 62; exact ext_same (isPence_is _ _ _ G2.out))
      | (go_at_call 60; exact ext_call (ask_is _ none _ 0 ns [] _ hn (by simp) _ (Nodes.lt EH.out.hN (extB_below _ _)) nodes_nil _ HE.out))))
    refine wpQuiet_nil ?_
    rintro _ ⟨x1, rfl⟩
    have hb1 := (EH.out.next (extB_below W0 x1)).hb
    have b3 := boxed_ext (extB_below W0 x1) b2
    have r1 := b3.cell
    have r2 := b3.frozen
    have q := (b3.set (.slice none 0 0)).cell
    go_wp2
    refine bodyPost_ret (v := .tuple #[.slice none 0 0, .int .i64 0, .int .i64 ee]) (by simp [results, Try.results33, go_sem, q]) rfl ⟨rfl, hb1.setCell (p := ⟨w.heap.size + 1, 0, none⟩) (by simp) _⟩
end Go.Proofs.Ytohoonbbjkefaaa
