import Derived.Test.YtgemmmdcpbajoaaS6
import Derived.Test.YtgemmmdcpbajoaaS8
import Derived.Test.YtgemmmdcpbajoaaT3
namespace Go.Proofs.Ytgemmmdcpbajoaa
open Go.RowKit
attribute [local go_sem] Oper.semAt_some

theorem wplIn_make24 {F : Fence} {nF : Nat} {ops : Array Oper} {rest : List Oper} {o : Oper} {a : Act} {w : World} {Q : Exit → Act → World → Prop} (hgd : o.guard = none) (l : Operand) (ho : o.op = .makeSlice 24 l l) (n : Nat) (hl : a.eval l = .int .i64 n) (hn : n ≤ 1000)
    (h : wpListIn F nF Try.prog ops Q rest (a.put o.dst (.slice (some ⟨w.heap.size, 0, none⟩) n n)) (w.alloc (.cells (List.replicate n (Value.int .i64 0)).toArray 3))) : wpListIn F nF Try.prog ops Q (o :: rest) a w := by
  refine wpListIn_plain hgd fun K hK' => ?_
  have hrun := run_make24 n hn w
  unfold Oper.wpIn
  refine ⟨?_, ?_⟩
  · simp [Oper.about, ho]
  · rw [Oper.semAt_plain F _ _ (by rw [ho]; intro c hc'; cases hc')]
    simp [execOp, ho, hl, hrun, Result.andThen]
    exact hK' _ _ h
theorem wplIn_copyP {F : Fence} {nF : Nat} {ops : Array Oper} {rest : List Oper} {o : Oper} {a : Act} {w : World} {Q : Exit → Act → World → Prop} (hgd : o.guard = none) (d s : Operand)
    (ho : o.op = .call { callee := .builtin .copy, args := #[d, s], argTypes := #[24, 24] }) (g pb n : Nat) (hd : a.eval d = .slice (some ⟨g, 0, none⟩) n n) (hs : a.eval s = .slice (some ⟨pb, 0, none⟩) n n)
    (p q : List Int) (hp : p.length = n) (hq : q.length = n) (hP : PackAt w pb p) (hG : PackAt w g q)
    (h : ∀ w', Hid (PackAt w' g p) → KpB (fun k => k = g) w.heap.size w w' → wpListIn F nF Try.prog ops Q rest (a.put o.dst (goInt n)) w') : wpListIn F nF Try.prog ops Q (o :: rest) a w := by
  refine wpListIn_plain hgd fun K hK' => ?_
  have fin : ∀ w', Hid (PackAt w' g p) → KpB (fun k => k = g) w.heap.size w w' → K (a.put o.dst (goInt n)) w' := fun w' h1 h2 => hK' _ _ (h w' h1 h2)
  unfold Oper.wpIn
  refine ⟨?_, ?_⟩
  · simp [Oper.about, ho, resolve, Target.leads, Sem.run_pure]
  · rw [Oper.semAt_plain F _ _ (by rw [ho]; intro c hc'; cases hc')]
    by_cases h0 : n = 0
    · have hp0 : p = [] := List.eq_nil_of_length_eq_zero (by omega)
      have hq0 : q = [] := List.eq_nil_of_length_eq_zero (by omega)
      have hrun := run_copy_none (P := Try.prog) w 24 24 o.type 3 (some ⟨g, 0, none⟩) (some ⟨pb, 0, none⟩) n n n n Try.underlying24 size3 (by simp [h0])
      simp [execOp, ho, resolve, invoke, builtin, hd, hs, hrun, Result.andThen]
      have := fin w (by subst hp0 hq0; exact Lib.hid hG) (KpB.refl _ _ _)
      rw [h0] at this
      exact this
    · have hG' : w.heap[g]? = some (.cells (encP q).toArray 3 (0, 0)) := hG
      have hrun := run_copy_row (P := Try.prog) w 24 24 o.type 3 g 0 n n ⟨pb, 0, none⟩ n n (encP q).toArray 3 (encP p) Try.underlying24 size3 hG' (by simp [encP, hp]) (fun j v hj => by
        rw [addr_add, Nat.zero_add]
        simp [World.cell?, show w.heap[pb]? = _ from hP, hj]) (by simp [encP, hp, hq]) (by intro v hv; simp only [encP, List.mem_map] at hv; obtain ⟨x, -, rfl⟩ := hv; rfl)
      simp [execOp, ho, resolve, invoke, builtin, hd, hs, hrun, Result.andThen]
      have e : (encP p).length = n := by simp [encP, hp]
      rw [e]
      refine fin _ (Lib.hid ?_) ⟨rfl, rfl, rfl, by simp [World.setRow], fun k hk hs => setRow_other w g k _ hs⟩
      have hh := setRow_heap w g (encP q).toArray (((encP q).take 0 ++ (encP p ++ (encP q).drop (0 + (encP p).length))).toArray) 3 (0, 0) hG'
      have e2 : (encP q).drop n = [] := by rw [List.drop_eq_nil_of_le (by simp [encP, hq])]
      simpa [PackAt, e, e2] using hh

/-- The first of the least ones, as choose finds it. -/
def stepB (f : List Int → Int) (s : Option (List Int × Int)) (p : List Int) : Option (List Int × Int) :=
  match s with
  | none => some (p, f p)
  | some (b, m) => if f p < m then some (p, f p) else some (b, m)
def bestOf (f : List Int → Int) (l : List (List Int)) : Option (List Int × Int) := l.foldl (stepB f) none
theorem bestOf_snoc (f : List Int → Int) (l : List (List Int)) (p : List Int) : bestOf f (l ++ [p]) = stepB f (bestOf f l) p := by simp [bestOf]
def ChooseRet (h : House) (is : Bool) (f : List Cask → Int) (B : Nat) (w' : World) (e : Ending) : Prop :=
  if validH h = false then e = .returned (.tuple #[.slice none 0 0, .int .i64 0, .int .i64 80])
  else if is = false then e = .returned (.tuple #[.slice none 0 0, .int .i64 0, .int .i64 1])
  else match bestOf (fun p => f (packedC h p)) (packsL h) with
    | none => e = .returned (.tuple #[.slice none 0 0, .int .i64 0, .int .i64 3])
    | some (p, m) => ∃ pb, e = .returned (.tuple #[.slice (some ⟨pb, 0, none⟩) p.length p.length, .int .i64 m, .int .i64 0]) ∧ PackAt w' pb p ∧ B ≤ pb
/-- choose's own memory: its house, the number's function, the best list, its number, the error. -/
structure ChSt (W : World) (s : Nat) (L : HL) (h : House) (gv best : Value) (m e : Int) : Prop where
  b0 : HBox W s L h
  b1 : Boxed W (s + 1) 94 gv
  b2 : Boxed W (s + 1 + 1) 24 best
  b3 : Boxed W (s + 1 + 1 + 1) 3 (.int .i64 m)
  b4 : Boxed W (s + 1 + 1 + 1 + 1) 30 (.int .i64 e)
section
variable {W W' : World} {s : Nat} {L : HL} {h : House} {gv best : Value} {m e : Int}
theorem ChSt.kp (H : ChSt W s L h gv best m e) {S : Nat → Prop} {n : Nat} (hk : KpB S n W W') (hn : s + 5 ≤ n) (hS : ∀ k, S k → k < s ∨ s + 5 ≤ k) : ChSt W' s L h gv best m e := by
  have g : ∀ k, s ≤ k → k < s + 5 → W'.heap[k]? = W.heap[k]? := fun k h1 h2 => hk.block k (by omega) (fun h => by have := hS k h; omega)
  exact ⟨H.b0.of (g _ (by omega) (by omega)), (g _ (by omega) (by omega)).trans H.b1, (g _ (by omega) (by omega)).trans H.b2, (g _ (by omega) (by omega)).trans H.b3, (g _ (by omega) (by omega)).trans H.b4⟩
theorem ChSt.lt (H : ChSt W s L h gv best m e) : s + 5 ≤ W.heap.size := by have := H.b4.lt; omega
theorem ChSt.below (H : ChSt W s L h gv best m e) (hb : Below W.heap.size W W') : ChSt W' s L h gv best m e := H.kp (kpB_of_below hb (S := fun _ => False)) H.lt (fun _ h => h.elim)
theorem boxed_other {W : World} {B b o : Nat} {t : TypeId} {v u : Value} (h : Boxed W B t v) (hne : B ≠ b) : Boxed (W.setCell ⟨b, o, none⟩ u) B t v := (((KpB.refl (fun k => k = b) W.heap.size W).set o u (.inl rfl)).block B h.lt hne).trans h
theorem hbox_other {W : World} {B b o : Nat} {L : HL} {h : House} {u : Value} (hb : HBox W B L h) (hne : B ≠ b) : HBox (W.setCell ⟨b, o, none⟩ u) B L h := hb.of (((KpB.refl (fun k => k = b) W.heap.size W).set o u (.inl rfl)).block B hb.lt hne)
theorem ChSt.setE (H : ChSt W s L h gv best m e) (e' : Int) : ChSt (W.setCell ⟨s + 1 + 1 + 1 + 1, 0, none⟩ (.int .i64 e')) s L h gv best m e' :=
  ⟨hbox_other H.b0 (by omega), boxed_other H.b1 (by omega), boxed_other H.b2 (by omega), boxed_other H.b3 (by omega), H.b4.set _⟩
theorem ChSt.setM (H : ChSt W s L h gv best m e) (m' : Int) : ChSt (W.setCell ⟨s + 1 + 1 + 1, 0, none⟩ (.int .i64 m')) s L h gv best m' e :=
  ⟨hbox_other H.b0 (by omega), boxed_other H.b1 (by omega), boxed_other H.b2 (by omega), H.b3.set _, boxed_other H.b4 (by omega)⟩
theorem ChSt.setB (H : ChSt W s L h gv best m e) (b' : Value) : ChSt (W.setCell ⟨s + 1 + 1, 0, none⟩ b') s L h gv b' m e :=
  ⟨hbox_other H.b0 (by omega), boxed_other H.b1 (by omega), H.b2.set _, boxed_other H.b3 (by omega), boxed_other H.b4 (by omega)⟩
theorem ChSt.new (w : World) (L : HL) (h : House) (gv : Value) : ChSt (((((w.alloc (.cells #[.slice L.Ak h.ks.length L.ck, .int .i64 h.fl, .slice L.Ap h.ps.length L.cp, .slice L.Ab h.bs.length L.cb] 26)).alloc (.cells #[gv] 94)).alloc (.cells #[.slice none 0 0] 24)).alloc (.cells #[.int .i64 0] 3)).alloc (.cells #[.int .i64 0] 30)) w.heap.size L h gv (.slice none 0 0) 0 0 := by
  have c0 := HBox.new w L h
  have c1 := Boxed.new (w.alloc (.cells #[.slice L.Ak h.ks.length L.ck, .int .i64 h.fl, .slice L.Ap h.ps.length L.cp, .slice L.Ab h.bs.length L.cb] 26)) 94 gv
  have c2 := Boxed.new ((w.alloc (.cells #[.slice L.Ak h.ks.length L.ck, .int .i64 h.fl, .slice L.Ap h.ps.length L.cp, .slice L.Ab h.bs.length L.cb] 26)).alloc (.cells #[gv] 94)) 24 (.slice none 0 0)
  have c3 := Boxed.new (((w.alloc (.cells #[.slice L.Ak h.ks.length L.ck, .int .i64 h.fl, .slice L.Ap h.ps.length L.cp, .slice L.Ab h.bs.length L.cb] 26)).alloc (.cells #[gv] 94)).alloc (.cells #[.slice none 0 0] 24)) 3 (.int .i64 0)
  have c4 := Boxed.new ((((w.alloc (.cells #[.slice L.Ak h.ks.length L.ck, .int .i64 h.fl, .slice L.Ap h.ps.length L.cp, .slice L.Ab h.bs.length L.cb] 26)).alloc (.cells #[gv] 94)).alloc (.cells #[.slice none 0 0] 24)).alloc (.cells #[.int .i64 0] 3)) 30 (.int .i64 0)
  simp only [World.size_alloc] at c1 c2 c3 c4
  refine ⟨?_, ((c1.alloc _).alloc _).alloc _, (c2.alloc _).alloc _, c3.alloc _, c4⟩
  exact (((c0.of (Below.heap_alloc _ _ _ (by simp))).of (Below.heap_alloc _ _ _ (by simp; omega))).of (Below.heap_alloc _ _ _ (by simp; omega))).of (Below.heap_alloc _ _ _ (by simp; omega))
end
theorem results85_of {W : World} {s : Nat} {L : HL} {h : House} {gv best : Value} {m e : Int} (H : ChSt W s L h gv best m e) {tmps : Array Value} (h6 : tmps[6]?.getD undef = .pointer (some ⟨s + 1 + 1, 0, none⟩)) (h7 : tmps[7]?.getD undef = .pointer (some ⟨s + 1 + 1 + 1, 0, none⟩)) (h8 : tmps[8]?.getD undef = .pointer (some ⟨s + 1 + 1 + 1 + 1, 0, none⟩)) :
    (results Try.f85 tmps).run Try.prog W = .ok (.tuple #[best, .int .i64 m, .int .i64 e]) W := by
  have c2 := H.b2.cell
  have c3 := H.b3.cell
  have c4 := H.b4.cell
  simp [results, Try.results85, go_sem, h6, h7, h8, c2, c3, c4]
theorem below5 (w : World) (a b c d e : Obj) : Below w.heap.size w (((((w.alloc a).alloc b).alloc c).alloc d).alloc e) :=
  (((((Below.refl _ _).alloc (Nat.le_refl _) _).alloc (by simp) _).alloc (by simp; omega) _).alloc (by simp; omega) _).alloc (by simp; omega) _
set_option maxRecDepth 100000 in
set_option maxHeartbeats 4000000 in
theorem choose_no (gf : Nat) (lb : Array Value) (f : List Cask → Int) (L : HL) (h : House) (hn : h.ks.length ≤ 1000 ∧ h.ps.length ≤ 1000 ∧ h.bs.length ≤ 1000) (is : Bool) (hno : validH h = false ∨ is = false) (w : World) (hH : HouseAt w w.heap.size L h) :
    Calls Try.prog 85 #[L.enc h, .bool is, .func (.func gf) #[] lb] w fun e w' => ChooseRet h is f w.heap.size w' e ∧ Below w.heap.size w w' := by
  have hst := ChSt.new w L h (.func (.func gf) #[] lb)
  have hbw := fun o => below5 w (.cells #[.slice L.Ak h.ks.length L.ck, .int .i64 h.fl, .slice L.Ap h.ps.length L.cp, .slice L.Ab h.bs.length L.cb] 26) (.cells #[.func (.func gf) #[] lb] 94) (.cells #[.slice none 0 0] 24) (.cells #[.int .i64 0] 3) o
  have HBW := Lib.hid (hbw (.cells #[.int .i64 0] 30))
  clear hbw
  cases hv : validH h
  · have hk : ckH h = 80 := ckH_no hv
    have HV := Lib.hid hv
    clear hv hno
    have HC := Lib.hid (fun W (hW : Below w.heap.size w W) => check_any L h hn W (hH.below hW))
    clear hH
    go_enter Try.func85, Try.ntmps85
    go_wp2_with (go_at_call 28; refine (HC.out _ HBW.out).mono ?_; rintro e w1 ⟨rfl, hb1⟩; have hs1 := hst.below hb1; have hc2 := hs1.b2.cell; have hc3 := hs1.b3.cell; have hc4 := hs1.b4.cell; have hf2 := hs1.b2.frozen; have hf3 := hs1.b3.frozen; have hf4 := hs1.b4.frozen)
    refine bodyPost_ret (results85_of (((hs1.setB (.slice none 0 0)).setM 0).setE 80) rfl rfl rfl) rfl ⟨?_, ?_⟩
    · unfold ChooseRet; rw [if_pos HV.out]
    · exact ((((HBW.out).trans (hb1.mono HBW.out.size)).setCell (by simp; omega) _).setCell (by simp; omega) _).setCell (by simp; omega) _
  · have hk : ckH h = 0 := ckH_yes hv
    obtain rfl : is = false := by
      rcases hno with hno | hno
      · rw [hno] at hv; cases hv
      · exact hno
    have HV := Lib.hid hv
    clear hv hno
    have HC := Lib.hid (fun W (hW : Below w.heap.size w W) => check_any L h hn W (hH.below hW))
    clear hH
    go_enter Try.func85, Try.ntmps85
    go_wp2_with (go_at_call 28; refine (HC.out _ HBW.out).mono ?_; rintro e w1 ⟨rfl, hb1⟩; have hs1 := hst.below hb1; have hc2 := hs1.b2.cell; have hc3 := hs1.b3.cell; have hc4 := hs1.b4.cell; have hf2 := hs1.b2.frozen; have hf3 := hs1.b3.frozen; have hf4 := hs1.b4.frozen)
    refine bodyPost_ret (results85_of (((hs1.setB (.slice none 0 0)).setM 0).setE 1) rfl rfl rfl) rfl ⟨?_, ?_⟩
    · unfold ChooseRet; rw [if_neg (by rw [HV.out]; decide), if_pos rfl]
    · exact ((((HBW.out).trans (hb1.mono HBW.out.size)).setCell (by simp; omega) _).setCell (by simp; omega) _).setCell (by simp; omega) _
end Go.Proofs.Ytgemmmdcpbajoaa
