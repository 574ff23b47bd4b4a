import Derived.Test.YtohoonbbjkefaaaB2
namespace Go.Proofs.Ytohoonbbjkefaaa
open Go.RowKit

/-- A payment of a custom of N nodes (Pence: u, Node: w, Coins: f). -/
def payOK (N : Nat) (p : Node) : Bool := inR p.u 0 400 && (inR p.w 0 (N - 1) && inR p.f 0 400)

set_option maxHeartbeats 1000000 in
theorem isPay_any (A : Option Addr) (N c : Nat) (hN : N ≤ 1000) (p : Node) (w : World) : Calls Try.prog 92 #[.agg #[.slice A N c], .agg #[.int .i64 p.u, .int .i64 p.w, .int .i64 p.f]] w fun e w' => e = .returned (.bool (payOK N p)) ∧ Below w.heap.size w w' := by
  cases h1 : inR p.u 0 400 <;> cases h2 : inR p.w 0 (N - 1) <;> cases h3 : inR p.f 0 400
  all_goals
    have HP := Lib.hid (show payOK N p = _ from by rw [payOK, h1, h2, h3])
    go_enter Try.func92, Try.ntmps92
    go_wp2_with (first
      | (go_at_call 62; refine (isPence_any _ _).mono ?_; rintro e w' ⟨rfl, rfl⟩)
      | (go_at_call 61; refine (isNode_any _ _ _ _ _ hN).mono ?_; rintro e w1 ⟨rfl, hb1⟩; have q2 := fun o : Nat => hb1.cell (p := ⟨w.heap.size + 1, o, none⟩) (by simp)))
    go_ret
    refine ⟨by rw [HP.out]; rfl, ?_⟩
    first
      | exact ((Below.refl _ _).alloc (Nat.le_refl _) _).alloc (by simp) _
      | exact (((Below.refl _ _).alloc (Nat.le_refl _) _).alloc (by simp) _).trans (hb1.mono (by simp; omega))

theorem ask1_any (pc N c : Nat) (hN : N ≤ 1000) (A : Option Addr) (p : Node) (w : World) (b1 : Boxed w pc 24 (.slice A N c)) :
    Calls Try.prog 91 #[.agg #[.int .i64 p.u, .int .i64 p.w, .int .i64 p.f], .pointer (some ⟨pc, 0, none⟩)] w fun e w' => e = .returned (.bool (!payOK N p)) ∧ Below w.heap.size w w' := by
  have c1 := (b1.alloc (.cells #[.int .i64 p.u, .int .i64 p.w, .int .i64 p.f] 72)).cell
  go_enter Try.func91, Try.ntmps91
  go_wp2_with (go_at_call 92; refine (isPay_any _ _ _ hN _ _).mono ?_; rintro e w1 ⟨rfl, hb1⟩)
  go_ret
  exact ⟨rfl, ((Below.refl _ w).alloc (Nat.le_refl _) _).trans (hb1.mono (by simp))⟩

/-- Where the first one stands of which something is so, or -1. -/
def IdxP (p : Node → Bool) (l : List Node) (r : Int) : Prop := decide (0 ≤ r) = l.any p

set_option maxHeartbeats 1000000 in
theorem indexPay_any (gf pb c : Nat) (A : Option Addr) (l : List Node) (hl : l.length ≤ 1000) (p : Node → Bool) (w : World) (hP : Nodes w w.heap.size A l) (eg : ∀ args w, (callFunc gf args).run Try.prog w = .ok (.enter gf args) w)
    (hf : ∀ (x : Node) (W : World), x ∈ l → Below w.heap.size w W → Calls Try.prog gf #[.agg #[.int .i64 x.u, .int .i64 x.w, .int .i64 x.f], .pointer (some ⟨pb, 0, none⟩)] W fun e w' => e = .returned (.bool (p x)) ∧ Below W.heap.size W w') :
    Calls Try.prog 96 #[.slice A l.length c, .func (.func gf) #[] #[.pointer (some ⟨pb, 0, none⟩)]] w fun e w' => ∃ r, e = .returned (.int .i64 r) ∧ IdxP p l r ∧ Below w.heap.size w w' := by
  have HF := Lib.hid hf
  have HPn := Lib.hid hP
  clear hf hP
  go_enter Try.func96, Try.ntmps96
  go_wp2
  go_loopw [5, 8] (fun _ i wr => ∃ k : Nat, k ≤ l.length ∧ i = .int .i64 k ∧ Hid (∀ x ∈ l.take k, p x = false) ∧ Below w.heap.size w wr) (fun _ i _ => l.length - (intOf i).toNat)
  case atStart => exact ⟨0, Nat.zero_le _, rfl, Lib.hid (fun j hj => by simp at hj), Below.refl _ _⟩
  case round =>
    obtain ⟨k, hk, rfl, HK, hb⟩ := hrel
    by_cases hlt : k < l.length
    · obtain ⟨x, hx⟩ : ∃ x, l[k]? = some x := ⟨_, List.getElem?_eq_getElem hlt⟩
      obtain ⟨b, off, rfl, hbb, c1, c2, c3⟩ := HPn.out.at_ hx
      have d1 := below_cell hb c1
      have d2 := below_cell hb c2
      have d3 := below_cell hb c3
      have hmem : x ∈ l := List.mem_of_getElem? hx
      have htk : l.take (k + 1) = l.take k ++ [x] := by rw [List.take_add_one, hx]; rfl
      have HT := Lib.hid htk
      clear hx c1 c2 c3 htk
      cases hp : p x
      all_goals
        have hc := HF.out x wr hmem hb
        rw [hp] at hc
        have HC := Lib.hid hc
        have HP := Lib.hid hp
        clear hc hp
        go_wp2_with (refine HC.out.mono ?_; rintro e w1 ⟨rfl, hb1⟩)
      · go_roundw
        case rel => exact ⟨k + 1, by omega, by go_num, Lib.hid (fun y hy => by
            rw [HT.out, List.mem_append] at hy
            rcases hy with hy | hy
            · exact HK.out y hy
            · rw [List.mem_singleton.1 hy]; exact HP.out), hb.trans (hb1.mono hb.size)⟩
        case measure => simp [intOf]; omega
      · go_ret
        refine ⟨k, rfl, ?_, hb.trans (hb1.mono hb.size)⟩
        rw [IdxP, List.any_eq_true.2 ⟨x, hmem, HP.out⟩]
        simp
    · obtain rfl : k = l.length := by omega
      go_wp2
      go_ret
      refine ⟨-1, rfl, ?_, hb⟩
      have : l.any p = false := by
        rw [List.any_eq_false]
        intro y hy
        rw [HK.out y (by rw [List.take_length]; exact hy)]
        simp
      rw [IdxP, this]
      rfl
theorem containsPay_any (gf pb c : Nat) (A : Option Addr) (l : List Node) (hl : l.length ≤ 1000) (p : Node → Bool) (w : World) (hP : Nodes w w.heap.size A l) (eg : ∀ args w, (callFunc gf args).run Try.prog w = .ok (.enter gf args) w)
    (hf : ∀ (x : Node) (W : World), x ∈ l → Below w.heap.size w W → Calls Try.prog gf #[.agg #[.int .i64 x.u, .int .i64 x.w, .int .i64 x.f], .pointer (some ⟨pb, 0, none⟩)] W fun e w' => e = .returned (.bool (p x)) ∧ Below W.heap.size W w') :
    Calls Try.prog 78 #[.slice A l.length c, .func (.func gf) #[] #[.pointer (some ⟨pb, 0, none⟩)]] w fun e w' => e = .returned (.bool (l.any p)) ∧ Below w.heap.size w w' := by
  have H := Lib.hid (indexPay_any gf pb c A l hl p w hP eg hf)
  clear hf hP eg
  go_enter Try.func78, Try.ntmps78
  go_wp2_with (go_at_call 96; refine H.out.mono ?_; rintro e w1 ⟨r, rfl, hr, hb1⟩; have HR := Lib.hid hr; clear hr)
  go_ret
  exact ⟨by rw [← HR.out]; rfl, hb1⟩

/-- The error of a custom that is asked for something, with payments. -/
def askE (ns : List Node) (is : Bool) (ps : List Node) : Int := if validB ns then (if 6 < ps.length then 2 else if is && ps.all (payOK ns.length) then 0 else 1) else 100

set_option maxHeartbeats 4000000 in
theorem ask_any (A A2 : Option Addr) (c c2 : Nat) (ns ps : List Node) (is : Bool) (hn : ns.length ≤ 1000) (hp : ps.length ≤ 1000) (w : World) (hN : Nodes w w.heap.size A ns) (hP : Nodes w w.heap.size A2 ps) :
    Calls Try.prog 60 #[.agg #[.slice A ns.length c], .bool is, .slice A2 ps.length c2] w fun e w' => e = .returned (.int .i64 (askE ns is ps)) ∧ Below w.heap.size w w' := by
  have hck := check_any A c ns hn (w.alloc (.cells #[.slice A ns.length c] 24)) (Nodes.alloc hN _)
  have HNa := Lib.hid (Nodes.alloc hP (.cells #[.slice A ns.length c] 24))
  have bC := Boxed.new w 24 (.slice A ns.length c)
  cases hv : validB ns
  · rw [ckE_no hv] at hck
    have HC := Lib.hid hck
    have HA := Lib.hid (show askE ns is ps = 100 from by rw [askE, hv]; rfl)
    clear hck hv
    go_enter Try.func60, Try.ntmps60
    go_wp2_with (go_at_call 46; refine HC.out.mono ?_; rintro e w1 ⟨rfl, hb1⟩)
    go_ret
    exact ⟨by rw [HA.out]; rfl, ((Below.refl _ w).alloc (Nat.le_refl _) _).trans (hb1.mono (by simp))⟩
  · rw [ckE_yes hv] at hck
    have HC := Lib.hid hck
    clear hck
    by_cases h6 : 6 < ps.length
    · have HA := Lib.hid (show askE ns is ps = 2 from by rw [askE, hv, if_pos rfl, if_pos h6])
      clear hv
      go_enter Try.func60, Try.ntmps60
      go_wp2_with (go_at_call 46; refine HC.out.mono ?_; rintro e w1 ⟨rfl, hb1⟩)
      go_ret
      exact ⟨by rw [HA.out]; rfl, ((Below.refl _ w).alloc (Nat.le_refl _) _).trans (hb1.mono (by simp))⟩
    · cases is
      · have HA := Lib.hid (show askE ns false ps = 1 from by rw [askE, hv, if_pos rfl, if_neg h6]; rfl)
        clear hv
        go_enter Try.func60, Try.ntmps60
        go_wp2_with (go_at_call 46; refine HC.out.mono ?_; rintro e w1 ⟨rfl, hb1⟩)
        go_ret
        exact ⟨by rw [HA.out]; rfl, ((Below.refl _ w).alloc (Nat.le_refl _) _).trans (hb1.mono (by simp))⟩
      · have hall : ps.any (fun p => !payOK ns.length p) = !ps.all (payOK ns.length) := by
          rw [List.not_all_eq_any_not]
        cases hq : ps.all (payOK ns.length)
        all_goals
          rw [hq] at hall
          have HALL := Lib.hid hall
          have HA := Lib.hid (show askE ns true ps = _ from by rw [askE, hv, if_pos rfl, if_neg h6, hq])
          clear hv hall hq
          go_enter Try.func60, Try.ntmps60
          go_wp2_with (first
            | (go_at_call 46; refine HC.out.mono ?_; rintro e w1 ⟨rfl, hb1⟩)
            | (go_at_call 78; refine (containsPay_any 91 w.heap.size c2 A2 ps hp (fun p => !payOK ns.length p) w1 (Nodes.lt HNa.out hb1) (enters_of Try.func91 (by kernel_rfl) rfl) (fun x W _ hW => ask1_any w.heap.size ns.length c hn A x W ((hW.block _ (Nat.lt_of_lt_of_le bC.lt hb1.size)).trans ((hb1.block _ bC.lt).trans bC)))).mono ?_; rintro e w2 ⟨rfl, hb2⟩; rw [HALL.out]))
          go_ret
          exact ⟨by rw [HA.out]; rfl, (((Below.refl _ w).alloc (Nat.le_refl _) _).trans (hb1.mono (by simp))).trans (hb2.mono (by have := hb1.size; simp at this; omega))⟩
end Go.Proofs.Ytohoonbbjkefaaa
