import Derived.ArgAppend
import Derived.Test.YtmbcpmnigggbaaaSaT9
import Derived.Deep.RegionHeld3
import Derived.IntWalk
import Derived.Deep.RegionHeldLaw
import Derived.Test.YtmbcpmnigggbaaaSaE2
import Derived.Deep.DeepCutAuto
namespace Go.Proofs.Ytmbcpmnigggbaaa.Sa
open Go.RowKit
attribute [local go_sem] Oper.semAt_some

theorem wpIn_region_tailX {P : Program} {k n id : Nat} {Q : Exit → Act → World → Prop} {a : Act} {w : World} {L : List Oper} (N : Nat) (hL : L = L.take N ++ [L.getD N default]) (hQ : ¬ LetsOut Q) (hd : noDefer L = true) (hm : P.follows .mixedOrders = true) (hl : lastOK (L.take N).length (L.getD N default) = true) (hb : backB L = true) (hB : Region.lexB .any (L.take N ++ [idle (L.getD N default)]).toArray = true)
    (h : wpQuiet P (L.take N ++ [idle (L.getD N default)]).toArray (fun w' => ∃ x, w' = extB w x) (fun a' => ∀ w', (∃ x, w' = extB w x) → (L.getD N default).wp P a' w' (fun a'' w'' => Q .normal a'' w'') Q) (L.take N) a) : (Code.region id L.toArray true).wpIn (Fence.wide.inRound k) n P Q a w :=
  wpIn_region_tail (C := fun w' => ∃ x, w' = extB w x) _ _ hL hQ hd hm hl hb hB (extB_of (Below.refl _ w).drew) h
theorem casksTo_congr {h g : House} (hk : h.ks = g.ks) (hp : h.ps = g.ps) (pack : List Int) : ∀ k, casksTo h pack k = casksTo g pack k
  | 0 => rfl
  | k + 1 => by
    have e1 : partOf h k = partOf g k := by simp [partOf, hp]
    have e2 : ∀ p, kindOf h p = kindOf g p := fun p => by simp [kindOf, hk]
    rw [casksTo, casksTo, casksTo_congr hk hp pack k, e1, e2]
theorem packedC_congr {h g : House} (hk : h.ks = g.ks) (hp : h.ps = g.ps) (pack : List Int) : packedC h pack = packedC g pack := by
  unfold packedC; rw [hp]; exact casksTo_congr hk hp pack _
/-- A house with one more barrel, of size 0. -/
def more0 (h : House) : House := { h with bs := h.bs ++ [0] }
theorem HOK.more0 {h : House} (hv : HOK h) (hb : h.bs.length < 4) : HOK (more0 h) :=
  ⟨hv.kl, hv.f0, hv.f1, hv.pl, by show (h.bs ++ [0]).length ≤ 4; simp; omega, hv.k, hv.p, fun i x hx => by
    have hx : (h.bs ++ [0])[i]? = some x := hx
    by_cases e : i < h.bs.length
    · rw [List.getElem?_append_left e] at hx; exact hv.b i x hx
    · rw [List.getElem?_append_right (by omega)] at hx
      have := List.mem_of_getElem? hx
      simp at this
      omega⟩
/-- What Buy returns. -/
def needAt (h : House) (k : Nat) (p : List Int) : Int := (caskOf (packedC h p) k).p + saltC h.fl (caskOf (packedC h p) k)
def buyF (h : House) (m : Int) (p : List Int) : Int := if fitsC h (packedC h p) then (if needAt h h.bs.length p < m then needAt h h.bs.length p else m) else m
def buyL (h : House) (l : List (List Int)) : Int := l.foldl (buyF h) 100
theorem buyL_snoc (h : House) (l : List (List Int)) (p : List Int) : buyL h (l ++ [p]) = buyF h (buyL h l) p := by simp [buyL]
def buyRet (h : House) : Int × Int :=
  if validH h = false then (0, 80) else if packsL h ≠ [] then (0, 0) else if h.bs.length = 4 then (0, 2) else
    if 99 < buyL h (allS 0 (h.bs.length + 1) h.ps.length) then (0, 3) else (buyL h (allS 0 (h.bs.length + 1) h.ps.length), 0)
theorem needAt_bd {h : House} (hv : HOK h) {k : Nat} (hk : k < 5) (p : List Int) : 0 ≤ needAt h k p ∧ needAt h k p ≤ 20000 := by
  have hc := packedC_ok hv p k _ (at_caskOf (by rw [packedC_len]; exact hk))
  have := saltC_bd hc ⟨hv.f0, hv.f1⟩
  have := hc.p0
  have := hc.p1
  unfold needAt; omega
theorem buyL_bd {h : House} (hv : HOK h) (hb : h.bs.length < 4) : ∀ l, 0 ≤ buyL h l ∧ buyL h l ≤ 100 := fun l => by
  refine snoc_ind (P := fun l => 0 ≤ buyL h l ∧ buyL h l ≤ 100) (by simp [buyL]) (fun l x ih => ?_) l
  rw [buyL_snoc]
  have := needAt_bd hv (show h.bs.length < 5 by omega) x
  unfold buyF
  split
  · split <;> omega
  · exact ih
/-- 'append(s[:n:n], x)'. -/
theorem run_app0 {w : World} (ty : TypeId) (A : Option Addr) (l : List Int) (k : Int) (hA : A = none → l = []) (hI : IntsAt w w.heap.size A l) (ad : Addr) (c : Nat) (hc : w.cell? ad = some (.int .i64 k)) (hl : l.length ≤ 1000) :
    ∃ v' w', (Builtin.append_ #[25, 25] ty #[.slice A l.length l.length, .slice (some ad) 1 c]).run Try.prog w = .ok v' w' ∧ Ints w' w.heap.size v' (l ++ [k]) ∧ Below w.heap.size w w' := by
  obtain ⟨i0, hi, hz0, hz1, hz2⟩ := info_parts info3'
  have hn : ∀ j u, [Value.int .i64 k][j]? = some u → w.cell? (ad.add j) = some u := by
    intro j u hj
    match j, hj with
    | 0, hj => simp at hj; subst hj; simpa [Addr.add] using hc
  have fin : ∀ v' w', w'.ownsRow w.heap.size 3 1 v' (l.length + 1) (l.map (.int .i64) ++ [.int .i64 k]) → Ints w' w.heap.size v' (l ++ [k]) := fun v' w' h => by
    unfold Ints
    rw [List.length_append, List.map_append]
    exact h
  cases A with
  | some b =>
    obtain ⟨v', w', hrun, r1, r2⟩ := run_append_arg_grows (P := Try.prog) w 25 ty 3 i0 (.int .i64 0) 1 8 Try.underlying25 hi hz0 hz1 hz2 rfl (by decide) b l.length l.length (l.map (.int .i64)) (by simp) (ints_news hI) ad 1 c [.int .i64 k] rfl hn (by omega) (by unfold maxLen; omega) (by omega)
    exact ⟨v', w', hrun, fin _ _ r1, (Below.refl _ w).grown r2 (Nat.le_refl _) fun j ej => by cases ej⟩
  | none =>
    have := hA rfl
    subst this
    obtain ⟨v', w', hrun, r1, r2, _⟩ := run_append_own (P := Try.prog) w w.heap.size 25 ty 3 i0 (.int .i64 0) 1 8 Try.underlying25 hi hz0 hz1 hz2 rfl (by decide) (.slice none 0 0) 0 [] (World.ownsRow_nil w _ 3 1) ad 1 c [.int .i64 k] rfl hn (by intro u hu; simp at hu; subst hu; rfl) (by unfold maxLen; omega) (by omega) (Nat.le_refl _)
    exact ⟨v', w', hrun, fin _ _ r1, (Below.refl _ w).grown r2 (Nat.le_refl _) fun j ej => by cases ej⟩
theorem wplIn_app0 {F : Fence} {nF : Nat} {ops : Array Oper} {rest : List Oper} {o : Oper} {a : Act} {w : World} {Q : Exit → Act → World → Prop} (hgd : o.guard = none) (s x : Operand)
    (ho : o.op = .call { callee := .builtin .append, args := #[s, x], argTypes := #[25, 25] }) (A : Option Addr) (l : List Int) (k : Int) (hs : a.eval s = .slice A l.length l.length) (hA : A = none → l = []) (hI : IntsAt w w.heap.size A l)
    (ad : Addr) (c : Nat) (hx : a.eval x = .slice (some ad) 1 c) (hc : w.cell? ad = some (.int .i64 k)) (hl : l.length ≤ 1000)
    (h : ∀ v' w', Ints w' w.heap.size v' (l ++ [k]) → Below w.heap.size w w' → wpListIn F nF Try.prog ops Q rest (a.put o.dst v') w') : wpListIn F nF Try.prog ops Q (o :: rest) a w := by
  refine wpListIn_plain hgd fun K hK' => ?_
  obtain ⟨v', w', hrun, r1, r2⟩ := run_app0 (w := w) o.type A l k hA hI ad c hc hl
  have fin := hK' _ _ (h v' w' r1 r2)
  unfold Oper.wpIn
  refine ⟨?_, ?_⟩
  · simp [Oper.about, ho, resolve, Target.leads, Sem.run_pure]
  · rw [Oper.semAt_plain F _ _ (by rw [ho]; intro c hc'; cases hc')]
    simp [execOp, ho, resolve, invoke, builtin, hs, hx, hrun, Result.andThen]
    exact fin
/-- Buy's memory: its house and its results. -/
structure BuySt (W : World) (s : Nat) (L : HL) (h : House) (n e : Int) : Prop where
  b0 : HBox W s L h
  b1 : Boxed W (s + 1) 3 (.int .i64 n)
  b2 : Boxed W (s + 1 + 1) 28 (.int .i64 e)
section
variable {W W' : World} {s : Nat} {L : HL} {h : House} {n e : Int}
theorem BuySt.kp (H : BuySt W s L h n e) {S : Nat → Prop} {m : Nat} (hk : KpB S m W W') (hs : s + 3 ≤ m) (hS : ∀ k, S k → k < s ∨ s + 3 ≤ k) : BuySt W' s L h n e :=
  ⟨H.b0.of (hk.block _ (by omega) (fun h => by have := hS _ h; omega)), (hk.block _ (by omega) (fun h => by have := hS _ h; omega)).trans H.b1, (hk.block _ (by omega) (fun h => by have := hS _ h; omega)).trans H.b2⟩
theorem BuySt.lt (H : BuySt W s L h n e) : s + 3 ≤ W.heap.size := by have := H.b2.lt; omega
theorem BuySt.below (H : BuySt W s L h n e) (hb : Below W.heap.size W W') : BuySt W' s L h n e :=
  H.kp (kpB_of_below hb (S := fun _ => False)) H.lt (fun _ h => h.elim)
theorem BuySt.setN (H : BuySt W s L h n e) (x : Int) : BuySt (W.setCell ⟨s + 1, 0, none⟩ (.int .i64 x)) s L h x e :=
  ⟨hbox_other H.b0 (by omega), H.b1.set _, boxed_other H.b2 (by omega)⟩
theorem BuySt.setE (H : BuySt W s L h n e) (x : Int) : BuySt (W.setCell ⟨s + 1 + 1, 0, none⟩ (.int .i64 x)) s L h n x :=
  ⟨hbox_other H.b0 (by omega), boxed_other H.b1 (by omega), H.b2.set _⟩
theorem BuySt.putObj (H : BuySt W s L h n e) {k : Nat} {o : Obj} (hk : s + 3 ≤ k) : BuySt (W.putObj k o) s L h n e :=
  H.kp (S := fun b => b = k) ((KpB.refl _ _ _).put _ _ (.inl rfl)) H.lt (fun b hb => .inr (by omega))
theorem results20_of (H : BuySt W s L h n e) {tmps : Array Value} (h2 : tmps[2]?.getD undef = .pointer (some ⟨s + 1, 0, none⟩)) (h3 : tmps[3]?.getD undef = .pointer (some ⟨s + 1 + 1, 0, none⟩)) :
    (results Try.f66 tmps).run Try.prog W = .ok (.tuple #[.int .i64 n, .int .i64 e]) W := by
  have c1 := H.b1.cell
  have c2 := H.b2.cell
  simp [results, Try.results66, go_sem, h2, h3, c1, c2]
end
/-- What the search for a size begins with. -/
structure BuyM (W : World) (m : Nat) (L : HL) (h : House) (x : Int) : Prop where
  y0 : Boxed W m 3 (.int .i64 h.bs.length)
  y1 : HBox W (m + 1) L h
  y2 : Boxed W (m + 1 + 1) 3 (.int .i64 x)
theorem BuyM.new (X : World) (L : HL) (h : House) (o : Obj) : BuyM ((((X.alloc (.cells #[.int .i64 h.bs.length] 3)).alloc (.cells #[.slice L.Ak h.ks.length L.ck, .int .i64 h.fl, .slice L.Ap h.ps.length L.cp, .slice L.Ab h.bs.length L.cb] 27)).alloc (.cells #[.int .i64 100] 3)).alloc o) X.heap.size L h 100 := by
  have c0 := Boxed.new X 3 (.int .i64 h.bs.length)
  have c1 := HBox.new (X.alloc (.cells #[.int .i64 h.bs.length] 3)) L h
  have c2 := Boxed.new ((X.alloc (.cells #[.int .i64 h.bs.length] 3)).alloc (.cells #[.slice L.Ak h.ks.length L.ck, .int .i64 h.fl, .slice L.Ap h.ps.length L.cp, .slice L.Ab h.bs.length L.cb] 27)) 3 (.int .i64 100)
  simp only [World.size_alloc] at c1 c2
  exact ⟨((c0.alloc _).alloc _).alloc _, (c1.of (Below.heap_alloc _ _ _ (by simp))).of (Below.heap_alloc _ _ _ (by simp)), c2.alloc _⟩
theorem BuyM.kp {W W' : World} {m : Nat} {L : HL} {h : House} {x : Int} (H : BuyM W m L h x) {S : Nat → Prop} {n : Nat} (hk : KpB S n W W') (hs : m + 3 ≤ n) (hS : ∀ k, S k → k < m ∨ m + 3 ≤ k) : BuyM W' m L h x :=
  ⟨(hk.block _ (by omega) (fun h => by have := hS _ h; omega)).trans H.y0, H.y1.of (hk.block _ (by omega) (fun h => by have := hS _ h; omega)), (hk.block _ (by omega) (fun h => by have := hS _ h; omega)).trans H.y2⟩
theorem BuyM.below {W W' : World} {m : Nat} {L : HL} {h : House} {x : Int} (H : BuyM W m L h x) (hb : Below W.heap.size W W') : BuyM W' m L h x :=
  H.kp (kpB_of_below hb (S := fun _ => False)) (by have := H.y2.lt; omega) (fun _ h => h.elim)
theorem two_other {W : World} {a b k : Nat} {x y : Value} (ha : k ≠ a) (hb : k ≠ b) (hk : k < W.heap.size) : ((W.setCell ⟨a, 0, none⟩ x).setCell ⟨b, 0, none⟩ y).heap[k]? = W.heap[k]? :=
  (((KpB.refl (fun j => j = b) (W.setCell ⟨a, 0, none⟩ x).heap.size (W.setCell ⟨a, 0, none⟩ x)).set 0 y (.inl rfl)).block k (by simpa [World.setCell] using hk) hb).trans (((KpB.refl (fun j => j = a) W.heap.size W).set 0 x (.inl rfl)).block k hk ha)
theorem heap_lt {W : World} {k : Nat} {o : Obj} (h : W.heap[k]? = some o) : k < W.heap.size := (Array.getElem?_eq_some_iff.1 h).1
theorem put_below {w W : World} {k : Nat} {o : Obj} (hb : Below w.heap.size w W) (hk : w.heap.size ≤ k) : Below w.heap.size w (W.putObj k o) :=
  hb.trans (KpB.belowOf (S := fun b => b = k) ((KpB.refl _ _ _).put _ _ (.inl rfl)) hb.size (fun b hb => by omega))
theorem buy_below {w W : World} {x y : Int} (hb : Below w.heap.size w W) : Below w.heap.size w ((W.setCell ⟨w.heap.size + 1, 0, none⟩ (.int .i64 x)).setCell ⟨w.heap.size + 1 + 1, 0, none⟩ (.int .i64 y)) :=
  (hb.setCell (by simp) _).setCell (by simp; omega) _
/-- What is kept while a size is sought. -/
structure BuyI (W : World) (w : World) (m d : Nat) (L : HL) (h : House) (x : Int) : Prop where
  bl : Below w.heap.size w W
  st : BuySt W w.heap.size L h 0 0
  y0 : Boxed W m 3 (.int .i64 h.bs.length)
  y2 : Boxed W (m + 1 + 1) 3 (.int .i64 x)
  dk : W.heap[d]? = some (.deferred (some []))
theorem BuyI.kp {W W' w : World} {m d : Nat} {L : HL} {h : House} {x : Int} (H : BuyI W w m d L h x) {S : Nat → Prop} {n : Nat} (hk : KpB S n W W') (hn : m + 3 ≤ n) (hd : d < n) (hm : w.heap.size + 3 ≤ m) (hS : ∀ k, S k → m + 3 ≤ k ∧ k ≠ d) : BuyI W' w m d L h x :=
  ⟨H.bl.trans (hk.belowOf (by omega) (fun k hs => by have := hS k hs; omega)), H.st.kp hk (by omega) (fun k hs => .inr (by have := hS k hs; omega)), (hk.block _ (by omega) (fun hs => by have := hS _ hs; omega)).trans H.y0, (hk.block _ (by omega) (fun hs => by have := hS _ hs; omega)).trans H.y2, (hk.block _ hd (fun hs => (hS _ hs).2 rfl)).trans H.dk⟩
theorem BuyI.below {W W' w : World} {m d : Nat} {L : HL} {h : House} {x : Int} (H : BuyI W w m d L h x) (hb : Below W.heap.size W W') (hm : w.heap.size + 3 ≤ m) : BuyI W' w m d L h x :=
  H.kp (kpB_of_below hb (S := fun _ => False)) (by have := H.y2.lt; omega) ((Array.getElem?_eq_some_iff.1 H.dk).1) hm (fun _ h => h.elim)
theorem BuyI.setX {W w : World} {m d : Nat} {L : HL} {h : House} {x : Int} (H : BuyI W w m d L h x) (hm : w.heap.size + 3 ≤ m) (hd : d ≠ m + 1 + 1) {y z : Int} (hy : y = z) : BuyI (W.setCell ⟨m + 1 + 1, 0, none⟩ (.int .i64 y)) w m d L h z := by
  subst hy
  have hk : KpB (fun k => k = m + 1 + 1) W.heap.size W (W.setCell ⟨m + 1 + 1, 0, none⟩ (.int .i64 y)) := (KpB.refl _ _ _).set _ _ (.inl rfl)
  exact ⟨H.bl.setCell (by simp; omega) _, H.st.kp hk H.st.lt (fun k hk => .inr (by omega)), boxed_other H.y0 (by omega), H.y2.set _, (hk.block _ (Array.getElem?_eq_some_iff.1 H.dk).1 hd).trans H.dk⟩
set_option maxRecDepth 100000 in
set_option maxHeartbeats 4000000 in
theorem buy_any (L : HL) (h : House) (hn : h.ks.length ≤ 1000 ∧ h.ps.length ≤ 1000 ∧ h.bs.length ≤ 1000) (hcb : h.bs.length ≤ L.cb ∧ (L.Ab = none → L.cb = 0) ∧ L.cb ≤ 9223372036854775807) (w : World) (hH : HouseAt w w.heap.size L h) :
    Calls Try.prog 66 #[L.enc h] w fun e w' => e = .returned (.tuple #[.int .i64 (buyRet h).1, .int .i64 (buyRet h).2]) ∧ Below w.heap.size w w' := by
  have hbw := (((Below.refl _ _).alloc (Nat.le_refl w.heap.size) (.cells #[.slice L.Ak h.ks.length L.ck, .int .i64 h.fl, .slice L.Ap h.ps.length L.cp, .slice L.Ab h.bs.length L.cb] 27)).alloc (by simp) (.cells #[.int .i64 0] 3)).alloc (by simp; omega) (.cells #[.int .i64 0] 28)
  have HC := Lib.hid (check_any L h hn _ (hH.below hbw))
  have HB := Lib.hid (((HBox.new w L h).of (Below.heap_alloc _ (.cells #[.int .i64 0] 3) _ (by simp))).of (Below.heap_alloc _ (.cells #[.int .i64 0] 28) _ (by simp; omega)))
  have hD := Boxed.new (w.alloc (.cells #[.slice L.Ak h.ks.length L.ck, .int .i64 h.fl, .slice L.Ap h.ps.length L.cp, .slice L.Ab h.bs.length L.cb] 27)) 3 (.int .i64 0)
  have hE := Boxed.new ((w.alloc (.cells #[.slice L.Ak h.ks.length L.ck, .int .i64 h.fl, .slice L.Ap h.ps.length L.cp, .slice L.Ab h.bs.length L.cb] 27)).alloc (.cells #[.int .i64 0] 3)) 28 (.int .i64 0)
  simp only [World.size_alloc] at hD hE
  have HD := Lib.hid (hD.alloc (.cells #[.int .i64 0] 28))
  have HE := Lib.hid hE
  have HBW := Lib.hid hbw
  have HH := Lib.hid hH
  clear hbw hH hD hE
  cases hv : validH h
  · have hk : ckH h = 80 := ckH_no hv
    have HV := Lib.hid hv
    clear hv
    go_enter Try.func66, Try.ntmps66
    go_wp2_with (go_at_call 125; refine HC.out.mono ?_; rintro e w1 ⟨rfl, hb1⟩; have gd := below_cell hb1 HD.out.cell; have ge := below_cell hb1 HE.out.cell; have fd := (show Boxed w1 _ _ _ from (hb1.block _ HD.out.lt).trans HD.out).frozen; have fe := (show Boxed w1 _ _ _ from (hb1.block _ HE.out.lt).trans HE.out).frozen)
    have hst : BuySt w1 w.heap.size L h 0 0 := ⟨HB.out.of (hb1.block _ HB.out.lt), (hb1.block _ HD.out.lt).trans HD.out, (hb1.block _ HE.out.lt).trans HE.out⟩
    refine bodyPost_ret (results20_of ((hst.setN 0).setE 80) rfl rfl) rfl ⟨?_, buy_below (hb0to HBW.out hb1)⟩
    rw [buyRet, if_pos HV.out]
  · have hk : ckH h = 0 := ckH_yes hv
    have HV := Lib.hid (HOK.ofValid hv)
    have HV' := Lib.hid hv
    clear hv
    refine (callsIn_wide (n := 10)).1 ?_
    refine callsIn_of_wp_marks Try.func66 rfl trivial ?_ rfl
    simp only [Try.ntmps66, List.size_toArray, List.length_cons, List.length_nil, Nat.reduceAdd, Nat.reduceSub, Array.replicate_succ, Array.replicate_zero, List.push_toArray, List.append_toArray, List.nil_append, List.cons_append]
    gi_wp2_with (first
      | (refine ⟨trivial, ?_⟩; gi_at_call 125; refine (callsIn_wide.2 HC.out).mono ?_; rintro e w1 ⟨rfl, hb1⟩; obtain ⟨g0, g1, g2, g3⟩ := (HB.out.of (hb1.block _ HB.out.lt)).cells; have gd := below_cell hb1 HD.out.cell; have ge := below_cell hb1 HE.out.cell; have fd := (show Boxed w1 _ _ _ from (hb1.block _ HD.out.lt).trans HD.out).frozen; have fe := (show Boxed w1 _ _ _ from (hb1.block _ HE.out.lt).trans HE.out).frozen; have hz0 := cell_lt g0; have hz2 : ¬ w.heap.size = w1.heap.size := (by have hz3 : w.heap.size < w1.heap.size := hz0; omega))
      | (refine ⟨trivial, ?_⟩; gi_at_call 126; refine (callsIn_wide.2 (packings_any L h _)).mono ?_; rintro e w2 ⟨rfl, rfl⟩))
    have hst : BuySt w1 w.heap.size L h 0 0 := ⟨HB.out.of (hb1.block _ HB.out.lt), (hb1.block _ HD.out.lt).trans HD.out, (hb1.block _ HE.out.lt).trans HE.out⟩
    have hX1 := HBox.new w1 L h
    have hst2 := hst.below ((Below.refl _ _).alloc (Nat.le_refl _) (.cells #[.slice L.Ak h.ks.length L.ck, .int .i64 h.fl, .slice L.Ap h.ps.length L.cp, .slice L.Ab h.bs.length L.cb] 27))
    have hbW : Below w.heap.size w (w1.alloc (.cells #[.slice L.Ak h.ks.length L.ck, .int .i64 h.fl, .slice L.Ap h.ps.length L.cp, .slice L.Ab h.bs.length L.cb] 27)) := (hb0to HBW.out hb1).alloc (hb0to HBW.out hb1).size _
    have hz3 := hst.lt
    obtain ⟨W1, hW1⟩ : ∃ W1, w1.alloc (.cells #[.slice L.Ak h.ks.length L.ck, .int .i64 h.fl, .slice L.Ap h.ps.length L.cp, .slice L.Ab h.bs.length L.cb] 27) = W1 := ⟨_, rfl⟩
    rw [hW1] at hst2 hX1 hbW ⊢
    clear hW1 hst g0 g1 g2 g3 gd ge fd fe hz0 hz2
    have hl1 := hst2.lt
    have hxl := hX1.lt
    refine wpIn_rangeFunc_sees (S := fun k => k = w.heap.size + 1 ∨ k = w.heap.size + 1 + 1) (Sees := SeesP h) (fb := #[]) (lb := #[.pointer (some ⟨w1.heap.size, 0, none⟩)]) (xs := packsL h) (w0 := W1) rfl (by omega) rfl trivial (fun _ _ => rfl)
      (packs_sees 9 (by omega) L h HV.out w.heap.size w1.heap.size W1 (by omega) ((HH.out.below hbW).keep2 hbW HH.out) hX1 _ (fun k hk => by omega) (by omega)) (Below.refl _ _) (fun k hk => by omega)
      (fun B x args X hs => by obtain ⟨pb, -, rfl, -⟩ := hs; rfl) (fun B x args X Y _ hs hk => hs.kept hk)
      (fun D pre X => pre = [] ∧ Below w.heap.size w X ∧ BuySt X w.heap.size L h 0 0)
      (fun c D pre X => c = .ret ∧ pre ≠ [] ∧ Below w.heap.size w X ∧ BuySt X w.heap.size L h 0 0)
      ?hI ?hIx ?h0 (fun x args a' X => a' = { tmps := #[L.enc h, .pointer (some ⟨w.heap.size, 0, none⟩), .pointer (some ⟨w.heap.size + 1, 0, none⟩), .pointer (some ⟨w.heap.size + 1 + 1, 0, none⟩), .int .i64 0, undef, undef, undef, undef, undef, L.enc h, .int .i64 0, .int .i64 0, .bool false, undef, L.enc h, .func (.func 173) #[] #[.pointer (some ⟨w1.heap.size, 0, none⟩)], args.getD 0 undef, args.getD 1 undef,
          undef, undef, undef, undef, undef, undef, undef, undef, undef, undef, undef, undef, undef, undef, undef, undef, undef, undef, undef, undef, undef, undef, undef, undef, undef, undef, undef, undef, undef, undef, undef, undef, undef, undef, undef, undef, undef, undef], defers := [] }) ?hAx ?hassign ?hbody ?hdone ?hstop
    case hI =>
      rintro D s X Y hD hX ⟨h0, hb, h1⟩ hk
      exact ⟨h0, hb.trans (hk.belowOf (by have := hb.size; omega) (fun k hs => by have := hs.1; omega)), h1.kp hk (by omega) (fun k hs => .inr (by have := hs.1; omega))⟩
    case hIx =>
      rintro c D s X Y hD hX ⟨hc, h0, hb, h1⟩ hk
      exact ⟨hc, h0, hb.trans (hk.belowOf (by have := hb.size; omega) (fun k hs => by have := hs.1; omega)), h1.kp hk (by omega) (fun k hs => .inr (by have := hs.1; omega))⟩
    case h0 =>
      intro D X hD hX hb
      exact ⟨rfl, hbW.trans (hb.mono (by omega)), hst2.below hb⟩
    case hAx => exact fun _ _ _ _ _ _ h _ => h
    case hassign =>
      intro l' x args X K hz hs hK
      obtain ⟨pb, -, rfl, -⟩ := hs
      have hK' := hK _ X (.inl rfl) rfl
      clear hK
      simp only [List.zip_toArray, List.zip_cons_cons, List.zip_nil_right, List.foldl_toArray, List.foldl_cons, List.foldl_nil, List.setIfInBounds_toArray, List.set_cons_succ, List.set_cons_zero]
      gi_wp2
      exact hK'
    case hbody =>
      rintro l' D pre x args a' X hD hX hpre ⟨h0, hbX, hs⟩ hsee rfl
      obtain ⟨pb, hpb, rfl, hpk⟩ := hsee
      have f1 := hs.b1.frozen
      have f2 := hs.b2.frozen
      have c1 := hs.b1.cell
      have c2 := hs.b2.cell
      gi_wp2
      refine ⟨((KpB.refl _ _ _).set _ _ (.inl (.inl rfl))).set _ _ (.inl (.inr rfl)), rfl, by simp, buy_below hbX, (hs.setN 0).setE 0⟩
    case hdone =>
      rintro D X hD hX ⟨h0, hbX, hs⟩ hk
      obtain ⟨q0, q1, q2, q3⟩ := hs.b0.cells
      have c1 := hs.b1.cell
      have c2 := hs.b2.cell
      have f1 := hs.b1.frozen
      have f2 := hs.b2.frozen
      have hzX := hs.lt
      have hlx0 : w.heap.size < X.heap.size := by omega
      have hnx0 : ¬ w.heap.size = X.heap.size := by omega
      have hlx1 : w.heap.size + 1 < X.heap.size := by omega
      have hnx1 : ¬ w.heap.size + 1 = X.heap.size := by omega
      have hlx2 : w.heap.size + 1 + 1 < X.heap.size := by omega
      have hnx2 : ¬ w.heap.size + 1 + 1 = X.heap.size := by omega
      have HP0 := Lib.hid h0
      have HK := Lib.hid hk
      clear h0 hk
      by_cases hb4 : h.bs.length = 4
      · have hd : ((h.bs.length : Int) == 4) = true := by simp; omega
        have HB4 := Lib.hid hb4
        clear hb4
        gi_wp2
        have hsz2 : ((X.setCell ⟨w.heap.size + 1, 0, none⟩ (.int .i64 0)).setCell ⟨w.heap.size + 1 + 1, 0, none⟩ (.int .i64 2)).heap.size = X.heap.size := by simp [World.setCell]
        refine ⟨by simp, .inl ⟨_, _, rfl, run_takeDeferred (b := W1.heap.size) (ds := []) ((Below.heap_alloc _ _ _ (by rw [hsz2]; omega)).trans ((two_other (by omega) (by omega) (by omega)).trans HK.out)), ?_⟩⟩
        have hsa := ((hs.setN 0).setE 2).below ((Below.refl _ _).alloc (Nat.le_refl _) (.cells #[.int .i64 h.bs.length] 3))
        refine ⟨_, results20_of (L := L) (h := h) (hsa.putObj (by omega)) rfl rfl, ?_, put_below ((buy_below hbX).alloc (buy_below hbX).size _) (by omega)⟩
        rw [buyRet, if_neg (by rw [HV'.out]; decide), if_neg (by rw [HP0.out]; simp), if_pos HB4.out]
      · have hd : ((h.bs.length : Int) == 4) = false := by simp; omega
        have hlt4 : h.bs.length < 4 := by have := HV.out.bl; omega
        have ha1 : w.heap.size < X.heap.size + 1 := by omega
        have ha2 : w.heap.size < X.heap.size + 1 + 1 := by omega
        have ha3 : w.heap.size < X.heap.size + 1 + 1 + 1 := by omega
        have hn1 : ¬ w.heap.size = X.heap.size + 1 := by omega
        have hn2 : ¬ w.heap.size = X.heap.size + 1 + 1 := by omega
        have hn3 : ¬ w.heap.size = X.heap.size + 1 + 1 + 1 := by omega
        have hlcb := hcb.1
        have hcbm := hcb.2.2
        have hbcb : (h.bs.length : Int) ≤ (L.cb : Int) := by omega
        have hAb : L.Ab = none → h.bs = [] := fun e => by
          have := hcb.2.1 e
          exact List.eq_nil_of_length_eq_zero (by omega)
        have hIb : ∀ W, Below X.heap.size X W → IntsAt W W.heap.size L.Ab h.bs := fun W hW => (HH.out.below (hbX.trans (hW.mono hbX.size))).b
        have hb4x : Below X.heap.size X (((((X.alloc (.cells #[.int .i64 h.bs.length] 3)).alloc (.cells #[.slice L.Ak h.ks.length L.ck, .int .i64 h.fl, .slice L.Ap h.ps.length L.cp, .slice L.Ab h.bs.length L.cb] 27)).alloc (.cells #[.int .i64 100] 3))).alloc (.cells #[.int .i64 0] 3)) :=
          ((((Below.refl _ _).alloc (Nat.le_refl _) _).alloc (by simp) _).alloc (by simp; omega) _).alloc (by simp; omega) _
        have HM := Lib.hid (BuyM.new X L h (.cells #[.int .i64 0] 3))
        have HIB := Lib.hid (hIb _ hb4x)
        have HAB := Lib.hid hAb
        have HB4X := Lib.hid hb4x
        clear hIb hAb hb4x
        have hl1000 : h.bs.length ≤ 1000 := by omega
        gi_wp2_with (refine wplIn_app0 rfl (.tmp 29) (.tmp 30) rfl L.Ab h.bs 0 rfl HAB.out HIB.out ⟨X.heap.size + 1 + 1 + 1, 0, none⟩ 1 rfl (by simp [go_sem]) hl1000 ?_; intro v5 W5 hv5 hb5; obtain ⟨A5, c5, rfl, hA5, hl5c, hI5⟩ := hv5.lay; have hm5 := HM.out.below hb5; obtain ⟨r0, r1, r2, r3⟩ := hm5.y1.cells; have rf : W5.frozen? ⟨X.heap.size + 1, 3, none⟩ = false := (by simp [World.frozen?, show W5.heap[X.heap.size + 1]? = _ from hm5.y1]); have hlt5 := hm5.y1.lt; clear hv5 hm5 hA5 hl5c)
        have hs5 := (hs.below HB4X.out).below hb5
        have hm5 := HM.out.below hb5
        have hb5x := hb0to HB4X.out hb5
        have hz5 := hb5.size
        have hz4 : (((((X.alloc (.cells #[.int .i64 h.bs.length] 3)).alloc (.cells #[.slice L.Ak h.ks.length L.ck, .int .i64 h.fl, .slice L.Ap h.ps.length L.cp, .slice L.Ab h.bs.length L.cb] 27)).alloc (.cells #[.int .i64 100] 3))).alloc (.cells #[.int .i64 0] 3)).heap.size = X.heap.size + 4 := by simp
        rw [hz4] at hz5
        have hk6 : KpB (fun k => k = X.heap.size + 1) W5.heap.size W5 (W5.setCell ⟨X.heap.size + 1, 3, none⟩ (.slice A5 (h.bs.length + 1) c5)) := (KpB.refl _ _ _).set _ _ (.inl rfl)
        have hs6 := hs5.kp hk6 (by omega) (fun k hk => .inr (by omega))
        have hy0 : Boxed (W5.setCell ⟨X.heap.size + 1, 3, none⟩ (.slice A5 (h.bs.length + 1) c5)) X.heap.size 3 (.int .i64 h.bs.length) := boxed_other hm5.y0 (by omega)
        have hy2 : Boxed (W5.setCell ⟨X.heap.size + 1, 3, none⟩ (.slice A5 (h.bs.length + 1) c5)) (X.heap.size + 1 + 1) 3 (.int .i64 100) := boxed_other hm5.y2 (by omega)
        have hb6 : Below w.heap.size w (W5.setCell ⟨X.heap.size + 1, 3, none⟩ (.slice A5 (h.bs.length + 1) c5)) := hbX.trans ((hb5x.mono hbX.size).trans (hk6.belowOf (by omega) (fun k hk => by omega)))
        have hk6d : (W5.setCell ⟨X.heap.size + 1, 3, none⟩ (.slice A5 (h.bs.length + 1) c5)).heap[W1.heap.size]? = some (.deferred (some [])) := (hk6.block _ (by omega) (by omega)).trans ((hb5x.block _ (by omega)).trans HK.out)
        have hho : HouseOn (W5.setCell ⟨X.heap.size + 1, 3, none⟩ (.slice A5 (h.bs.length + 1) c5)) (fun k => k < w.heap.size ∨ (X.heap.size + 4 ≤ k ∧ k < W5.heap.size)) { L with Ab := A5, cb := c5 } (more0 h) := by
          intro W' hW' hzW'
          have hz6 : W5.heap.size ≤ W'.heap.size := Nat.le_trans hk6.size hzW'
          have hold : ∀ b o, b < w.heap.size → W'.cell? ⟨b, o, none⟩ = w.cell? ⟨b, o, none⟩ := fun b o hb => (hW' b o (.inl hb)).trans (hb6.cell (p := ⟨b, o, none⟩) hb)
          refine ⟨HH.out.k.keep (by omega) hold, HH.out.p.keep (by omega) hold, IntsIn.at_ (hI5.keep (Nat.le_refl _) hz6 fun b o h1 h2 => ?_)⟩
          rw [hz4] at h1
          exact (hW' b o (.inr ⟨h1, h2⟩)).trans (hk6.cell h2 (by omega))
        obtain ⟨W6, hW6⟩ : ∃ W6, W5.setCell ⟨X.heap.size + 1, 3, none⟩ (.slice A5 (h.bs.length + 1) c5) = W6 := ⟨_, rfl⟩
        have hz6 := hk6.size
        rw [hW6] at hs6 hy0 hy2 hb6 hk6d hho hz6 ⊢
        have HH6 := Lib.hid ((HH.out.below hb6).keep2 hb6 HH.out)
        clear hW6 hk6 hs5 hm5 hb5x r0 r1 r2 r3 rf hI5
        have HO6 := Lib.hid hho
        have HV6 := Lib.hid (HV.out.more0 hlt4)
        clear hho
        have hl6 : (more0 h).bs.length = h.bs.length + 1 := by simp [more0]
        have HL6 := Lib.hid hl6
        have hss := all_seesT 9 (by omega) { L with Ab := A5, cb := c5 } (more0 h) HV6.out 0 (by omega) _ W6 (fun k hk => by rcases hk with hk | hk <;> omega) HO6.out (fun k => k = X.heap.size + 1 + 1) (fun k hk => ⟨by omega, by omega⟩)
        rw [HL6.out, show (more0 h).ps = h.ps from rfl] at hss
        have hsv : stkV { L with Ab := A5, cb := c5 } (more0 h) 0 = .agg #[.slice L.Ak h.ks.length L.ck, .int .i64 h.fl, .slice L.Ap h.ps.length L.cp, .slice A5 (h.bs.length + 1) c5, .int .i64 0] := by rw [stkV, HL6.out]; rfl
        rw [hsv] at hss
        clear hsv hl6
        have HPC := Lib.hid (fun x => packedC_congr (h := more0 h) (g := h) rfl rfl x)
        have HI6 := Lib.hid (BuyI.mk (m := X.heap.size) (d := W1.heap.size) hb6 hs6 hy0 hy2 hk6d)
        clear hb6 hs6 hy0 hy2 hk6d
        refine wpIn_rangeFunc_sees (S := fun k => k = X.heap.size + 1 + 1) (Sees := SeesP (more0 h)) (fb := #[.agg #[.slice L.Ak h.ks.length L.ck, .int .i64 h.fl, .slice L.Ap h.ps.length L.cp, .slice A5 (h.bs.length + 1) c5, .int .i64 0]]) (lb := #[]) (xs := allS 0 (h.bs.length + 1) h.ps.length) (w0 := W6) rfl (by omega) rfl trivial (fun _ _ => rfl)
          hss (Below.refl _ _) (fun k hk => by omega)
          (fun B x args X hs => by obtain ⟨pb, -, rfl, -⟩ := hs; rfl) (fun B x args X Y _ hs hk => hs.kept hk)
          (fun D pre X' => BuyI X' w X.heap.size W1.heap.size L h (buyL h pre))
          (fun c D pre X' => False)
          ?jI ?jIx ?j0 (fun x args a' X' => ∃ b4, W6.heap.size + 2 ≤ b4 ∧ CasksAt X' b4 (packedC h x) ∧ a' = { tmps := #[L.enc h, .pointer (some ⟨w.heap.size, 0, none⟩), .pointer (some ⟨w.heap.size + 1, 0, none⟩), .pointer (some ⟨w.heap.size + 1 + 1, 0, none⟩), .int .i64 0, .pointer (some ⟨X.heap.size, 0, none⟩), .pointer (some ⟨X.heap.size + 1, 0, none⟩), .pointer (some ⟨X.heap.size + 1 + 1, 0, none⟩), undef, .pointer (some ⟨b4, 0, none⟩), L.enc h, .int .i64 0, .int .i64 0, .bool false, undef, L.enc h, .func (.func 173) #[] #[.pointer (some ⟨w1.heap.size, 0, none⟩)], undef, undef,
            .pointer (some ⟨w.heap.size, 3, none⟩), .slice L.Ab h.bs.length L.cb, .int .i64 h.bs.length, .int .i64 h.bs.length, .bool false, L.enc h, .pointer (some ⟨w.heap.size, 3, none⟩), .slice L.Ab h.bs.length L.cb, .int .i64 h.bs.length, .int .i64 h.bs.length, .slice L.Ab h.bs.length h.bs.length, .slice (some ⟨X.heap.size + 1 + 1 + 1, 0, none⟩) 1 1, .slice A5 (h.bs.length + 1) c5, .pointer (some ⟨X.heap.size + 1, 3, none⟩),
            .agg #[.slice L.Ak h.ks.length L.ck, .int .i64 h.fl, .slice L.Ap h.ps.length L.cp, .slice A5 (h.bs.length + 1) c5], .agg #[.slice L.Ak h.ks.length L.ck, .int .i64 h.fl, .slice L.Ap h.ps.length L.cp, .slice A5 (h.bs.length + 1) c5, .int .i64 0], .func (.func 127) #[.agg #[.slice L.Ak h.ks.length L.ck, .int .i64 h.fl, .slice L.Ap h.ps.length L.cp, .slice A5 (h.bs.length + 1) c5, .int .i64 0]] #[],
            args.getD 0 undef, args.getD 1 undef, undef, undef, undef, undef, undef, undef, undef, undef, undef, undef, undef, undef, undef, undef, undef, undef, undef, undef, undef], defers := [] }) ?jAx ?jassign ?jbody ?jdone ?jstop
        case jI =>
          rintro D s X' Y hD hX' h1 hk
          exact h1.kp hk (by omega) (by omega) (by omega) (fun k hs => by have := hs.1; omega)
        case jIx => exact fun _ _ _ _ _ _ _ h _ => h.elim
        case j0 =>
          intro D X' hD hX' hb
          exact HI6.out.below hb (by omega)
        case jAx =>
          rintro x args a' X' Y hz ⟨b4, h1, h2, h3⟩ hk
          exact ⟨b4, h1, (hk.block _ (Array.getElem?_eq_some_iff.1 h2).1 (fun hs => by have hs' : b4 < W6.heap.size + 2 := hs; omega)).trans h2, h3⟩
        case jassign =>
          intro l' x args X' K hz hs hK
          obtain ⟨pb, -, rfl, -⟩ := hs
          rw [HPC.out x] at hK ⊢
          have hK' := hK _ (X'.alloc (.cells (flatC (packedC h x)).toArray 169)) (.inr ⟨_, rfl⟩) ⟨X'.heap.size, by omega, World.alloc_heap_new X' _, rfl⟩
          clear hK
          simp only [List.zip_toArray, List.zip_cons_cons, List.zip_nil_right, List.foldl_toArray, List.foldl_cons, List.foldl_nil, List.setIfInBounds_toArray, List.set_cons_succ, List.set_cons_zero]
          have hl5 : (packedC h x).length = 5 := casksTo_len _ _ _
          gi_wp2_with (refine wplIn_store81 rfl (.tmp 9) (.tmp 37) rfl rfl (packedC h x) hl5 rfl ?_)
          exact hK'
        case jbody =>
          rintro l' D pre x args a' X' hD hX' hpre hs hsee ⟨b4, hb4, hC4, rfl⟩
          obtain ⟨pb, hpb, rfl, hpk⟩ := hsee
          rw [HPC.out x]
          have hl5 : (packedC h x).length = 5 := casksTo_len _ _ _
          have HOK5 := Lib.hid (packedC_ok HV.out x)
          have HSN := Lib.hid (buyL_snoc h pre x)
          have HHX := Lib.hid ((HH.out.below hs.bl).keep2 hs.bl HH.out)
          obtain ⟨q0, q1, q2, q3⟩ := hs.st.b0.cells
          have hzX' := hs.bl.size
          cases hf : fitsC h (packedC h x)
          · gi_wp2_with (first
              | (refine wplIn_load81 rfl (.tmp 9) rfl b4 rfl (packedC h x) hl5 hC4 ?_)
              | (refine ⟨trivial, ?_⟩; gi_at_call 128; refine (CallsIn.mono (CallsIn.inRound l' (callsIn_wide.2 (fits_any L h HV.out _ hl5 HOK5.out X' (HHX.out.more hzX')))) ?_); rintro e W7 ⟨rfl, hb7⟩))
            refine ⟨kpB_of_below (hb7.mono hX'), ?_⟩
            show BuyI W7 w X.heap.size W1.heap.size L h (buyL h (pre ++ [x]))
            rw [HSN.out, buyF, if_neg (by rw [hf]; decide)]
            exact hs.below hb7 (by omega)
          · have hC4' := fun W7 (hb7 : Below X'.heap.size X' W7) => ((hb7.block _ (Array.getElem?_eq_some_iff.1 hC4).1).trans hC4 : CasksAt W7 b4 (packedC h x))
            have HC4 := Lib.hid hC4'
            clear hC4'
            gi_wp2_with (first
              | (refine wplIn_load81 rfl (.tmp 9) rfl b4 rfl (packedC h x) hl5 hC4 ?_)
              | (refine ⟨trivial, ?_⟩; gi_at_call 128; refine (CallsIn.mono (CallsIn.inRound l' (callsIn_wide.2 (fits_any L h HV.out _ hl5 HOK5.out X' (HHX.out.more hzX')))) ?_); rintro e W7 ⟨rfl, hb7⟩))
            have hs7 := hs.below hb7 (by omega)
            have hC7 : CasksAt W7 b4 (packedC h x) := HC4.out W7 hb7
            obtain ⟨z0, z1, z2, z3⟩ := CasksAt.at_ hC7 (at_caskOf (show h.bs.length < (packedC h x).length by omega))
            have hck := HOK5.out h.bs.length _ (at_caskOf (by omega))
            have hnb := needAt_bd HV.out (show h.bs.length < 5 by omega) x
            have hsb := saltC_bd hck ⟨HV.out.f0, HV.out.f1⟩
            have hp0 := hck.p0
            have hp1 := hck.p1
            have hbb := buyL_bd HV.out hlt4 pre
            have e0 := extB_cell z0
            have e1 := extB_cell z1
            have e2 := extB_cell z2
            have e3 := extB_cell z3
            have e4 := extB_cell hs7.y0.cell
            have e5 := extB_cell hs7.y2.cell
            obtain ⟨_, u1, _, _⟩ := hs7.st.b0.cells
            have e6 := extB_cell u1
            have hi0 : (0 : Int) ≤ (h.bs.length : Int) := by omega
            have hi5 : (h.bs.length : Int) < 5 := by omega
            have HCK := Lib.hid hck
            have HF0 := Lib.hid (And.intro HV.out.f0 HV.out.f1)
            clear z0 z1 z2 z3 u1 hck
            refine wpIn_region_tailX 13 (by rfl) (by rintro ⟨_, _, hh⟩; exact hh) (by rfl) (by kernel_rfl) (by kernel_rfl) (by kernel_rfl) (by kernel_rfl) ?_
            simp only [List.take_succ_cons, List.take_zero, List.getD_cons_succ, List.getD_cons_zero, List.cons_append, List.nil_append, idle]
            repeat (go_big_quiet_step ((go_at_call 129; exact ext_call (saltC_any _ h.fl HCK.out HF0.out _))))
            refine wpQuiet_nil ?_
            rintro _ ⟨x1, rfl⟩
            have hb8 := extB_below W7 x1
            have hs8 := hs7.below hb8 (by omega)
            have hc8 := hs8.y2.cell
            have hf8 := hs8.y2.frozen
            clear e0 e1 e2 e3 e4 e5 e6
            obtain ⟨W8, hW8⟩ : ∃ W8, extB W7 x1 = W8 := ⟨_, rfl⟩
            rw [hW8] at hb8 hs8 hc8 hf8 ⊢
            clear hW8
            go_simp
            refine ⟨((kpB_of_below (hb7.mono hX')).trans (kpB_of_below (hb8.mono (by have := hb7.size; omega)))).set _ _ (.inl rfl), ?_⟩
            show BuyI _ w X.heap.size W1.heap.size L h (buyL h (pre ++ [x]))
            refine hs8.setX (by omega) (by omega) ?_
            rw [HSN.out, buyF, if_pos hf]
            rfl
        case jdone =>
          rintro D X' hD hX' hs hk2
          have c0 := hs.y2.cell
          have c1 := hs.st.b1.cell
          have c2 := hs.st.b2.cell
          have f1 := hs.st.b1.frozen
          have f2 := hs.st.b2.frozen
          have hbb := buyL_bd HV.out hlt4 (allS 0 (h.bs.length + 1) h.ps.length)
          have HK2 := Lib.hid hk2
          clear hk2
          by_cases h99 : 99 < buyL h (allS 0 (h.bs.length + 1) h.ps.length)
          · have hd9 : decide (99 < buyL h (allS 0 (h.bs.length + 1) h.ps.length)) = true := by simpa using h99
            have H99 := Lib.hid h99
            clear h99
            gi_wp2
            refine ⟨by simp, .inl ⟨_, _, rfl, run_takeDeferred (b := W6.heap.size) (ds := []) ((two_other (by omega) (by omega) (heap_lt HK2.out)).trans HK2.out), by simp, .inl ⟨_, _, rfl, run_takeDeferred (b := W1.heap.size) (ds := []) ((World.putObj_heap_other (by omega)).trans ((two_other (by omega) (by omega) (heap_lt hs.dk)).trans hs.dk)), ?_⟩⟩⟩
            refine ⟨_, results20_of (L := L) (h := h) ((((hs.st.setN 0).setE 3).putObj (by omega)).putObj (by omega)) rfl rfl, ?_, put_below (put_below (buy_below hs.bl) (by omega)) (by omega)⟩
            rw [buyRet, if_neg (by rw [HV'.out]; decide), if_neg (by rw [HP0.out]; simp), if_neg (by omega), if_pos H99.out]
          · have hd9 : decide (99 < buyL h (allS 0 (h.bs.length + 1) h.ps.length)) = false := by simpa using h99
            have H99 := Lib.hid h99
            clear h99
            gi_wp2
            refine ⟨by simp, .inl ⟨_, _, rfl, run_takeDeferred (b := W6.heap.size) (ds := []) ((two_other (by omega) (by omega) (heap_lt HK2.out)).trans HK2.out), by simp, .inl ⟨_, _, rfl, run_takeDeferred (b := W1.heap.size) (ds := []) ((World.putObj_heap_other (by omega)).trans ((two_other (by omega) (by omega) (heap_lt hs.dk)).trans hs.dk)), ?_⟩⟩⟩
            refine ⟨_, results20_of (L := L) (h := h) ((((hs.st.setN _).setE 0).putObj (by omega)).putObj (by omega)) rfl rfl, ?_, put_below (put_below (buy_below hs.bl) (by omega)) (by omega)⟩
            rw [buyRet, if_neg (by rw [HV'.out]; decide), if_neg (by rw [HP0.out]; simp), if_neg (by omega), if_neg (Int.not_lt.2 H99.out)]
        case jstop => exact fun _ _ _ _ _ _ _ h => h.elim
    case hstop =>
      rintro D c pre X hD hX hpre ⟨rfl, h0, hbX, hs⟩ hk
      have hne : packsL h ≠ [] := fun e => h0 (by rw [e] at hpre; exact List.prefix_nil.1 hpre)
      gi_wp2
      refine ⟨by simp, .inl ⟨_, _, rfl, run_takeDeferred hk, ?_⟩⟩
      refine ⟨_, results20_of (hs.putObj (k := W1.heap.size) (by omega)) rfl rfl, ?_, ?_⟩
      · rw [buyRet, if_neg (by rw [HV'.out]; decide), if_pos hne]
      · exact hbX.trans (KpB.belowOf (S := fun k => k = W1.heap.size) ((KpB.refl _ _ _).put _ _ (.inl rfl)) hbX.size (fun k hk => by omega))
open Go.RowKit

/-! Salt, Good, Barrel. -/
theorem wp_region_extW {P : Program} {id : Nat} {Q : Exit → Act → World → Prop} {a : Act} {w : World} {L : List Oper} (hm : P.follows .mixedOrders = true) (hB : Region.lexB .any L.toArray = true)
    (h : wpQuiet P L.toArray (fun w' => ∃ x, w' = extB w x) (fun a' => ∀ w', (∃ x, w' = extB w x) → Q .normal a' w') L a) : (Code.region id L.toArray true).wp P Q a w := wp_region_ext hm hB h
/-- The cask in the block cb, of its own. -/
def CaskBox (W : World) (cb : Nat) (c : Cask) : Prop := W.heap[cb]? = some (.cells #[.int .i64 c.n, .int .i64 c.p, .int .i64 c.s, .int .i64 c.d] 167 (0, 0))
theorem CaskBox.at_ {W : World} {cb : Nat} {c : Cask} (h : CaskBox W cb c) : CaskAt W cb 0 c := by
  have h : W.heap[cb]? = some (.cells #[.int .i64 c.n, .int .i64 c.p, .int .i64 c.s, .int .i64 c.d] 167 (0, 0)) := h
  exact ⟨by simp [World.cell?, h], by simp [World.cell?, h], by simp [World.cell?, h], by simp [World.cell?, h]⟩
theorem CaskBox.lt {W : World} {cb : Nat} {c : Cask} (h : CaskBox W cb c) : cb < W.heap.size := heap_lt h
theorem CaskBox.frozen {W : World} {cb : Nat} {c : Cask} (h : CaskBox W cb c) (o : Nat) : W.frozen? ⟨cb, o, none⟩ = false := by simp [World.frozen?, show W.heap[cb]? = _ from h]
end Go.Proofs.Ytmbcpmnigggbaaa.Sa
namespace Go.Proofs.Ytmbcpmnigggbaaa.Sa
open Go.RowKit

theorem HBox.drewN {W : World} {b : Nat} {L : HL} {h : House} (H : HBox W b L h) (m : Nat) : HBox (W.drewN m) b L h := H
theorem within1_any (n lo hi : Int) (w : World) : Calls Try.prog 28 #[.int .i64 n, .int .i64 lo, .int .i64 hi] w fun e w' => e = .returned (.bool (inR n lo hi)) ∧ w = w' := by
  by_cases h : lo ≤ n <;> by_cases h2 : n ≤ hi
  all_goals
    have e : inR n lo hi = (decide (lo ≤ n) && decide (n ≤ hi)) := rfl
    have E := Lib.hid e
    clear e
    go_enter Try.func28, Try.ntmps28
    go_wp2
    go_ret
    exact ⟨by rw [E.out]; simp <;> omega, rfl⟩
theorem within_any (n lo hi : Int) (w : World) : Calls Try.prog 57 #[.int .i64 n, .int .i64 lo, .int .i64 hi] w fun e w' => e = .returned (.bool (inR n lo hi)) ∧ w = w' := by
  go_enter Try.func57, Try.ntmps57
  go_wp2_with (go_at_call 28; refine (within1_any _ _ _ _).mono ?_; rintro e w' ⟨rfl, rfl⟩)
  go_ret
  exact ⟨rfl, rfl⟩
open Go.RowKit

/-! The specification: In, fits, IsPacking, sums over all barrels. -/
theorem ints_later {w W : World} {A : Option Addr} {l : List Int} (hI : IntsAt w w.heap.size A l) (hb : Below w.heap.size w W) : IntsAt W W.heap.size A l := hI.keep hb.size fun b o hlt => hb.cell (p := ⟨b, o, none⟩) hlt
theorem inTo_yes {pack : List Int} {b : Int} {k : Nat} (h : barrelOf pack k = b) : inTo pack b (k + 1) = inTo pack b k ++ [(k : Int)] := if_pos h
theorem inTo_no {pack : List Int} {b : Int} {k : Nat} (h : barrelOf pack k ≠ b) : inTo pack b (k + 1) = inTo pack b k := if_neg h
/-! Plain: a packing's casks, by the lists of their parts. -/
def InRange (lo : Int) (nb : Nat) (p : List Int) : Prop := ∀ x ∈ p, lo ≤ x ∧ x < nb
theorem barrel_range {p : List Int} {nb : Nat} (h : InRange (-1) nb p) (hnb : nb ≤ 5) : ∀ j, -1 ≤ barrelOf p j ∧ barrelOf p j ≤ 4 := fun j => by
  unfold barrelOf
  cases hj : p[j]? with
  | none => simp [List.getD, hj]
  | some x =>
    have := h x (List.mem_of_getElem? hj)
    simp only [List.getD, hj, Option.getD_some]
    omega
theorem InRange.low {lo : Int} {nb : Nat} {p : List Int} (h : InRange lo nb p) (hlo : -1 ≤ lo) : InRange (-1) nb p := fun x hx => by have := h x hx; omega
theorem caskOf_packed {h : House} {p : List Int} (hl : p.length = h.ps.length) {nb : Nat} (hr : InRange (-1) nb p) (hnb : nb ≤ 5) {b : Nat} (hb : b < 5) : caskOf (packedC h p) b = caskIn h (inOf p b) := by
  unfold caskOf packedC inOf
  rw [← hl]
  exact casksTo_at h p b hb p.length (fun j _ => barrel_range hr hnb j)
theorem inOf_none {p : List Int} {nb : Nat} {lo : Int} (hr : InRange lo nb p) {b : Nat} (hb : nb ≤ b) : inOf p b = [] := by
  rw [List.eq_nil_iff_forall_not_mem]
  intro i hi
  obtain ⟨j, -, hj, h3⟩ := mem_inTo.1 hi
  have : p[j]? = some (barrelOf p j) := by simp [barrelOf, List.getD, List.getElem?_eq_getElem hj]
  have := hr _ (List.mem_of_getElem? this)
  omega
theorem fits_packed {h : House} (hv : HOK h) {p : List Int} (hl : p.length = h.ps.length) {nb : Nat} (hr : InRange (-1) nb p) (hnb : nb ≤ 5) : fitsC h (packedC h p) = fitsR h p := by
  unfold fitsC fitsR
  rw [Bool.eq_iff_iff]
  simp only [List.all_eq_true, List.mem_range]
  have hbl := hv.bl
  have : ∀ b, b < h.bs.length → (roomOK h (packedC h p) b = true ↔ decide (needC h (inOf p b) ≤ h.bs.getD b 0) = true) := fun b hb => by
    rw [roomOK, caskOf_packed hl hr hnb (by omega)]
    rfl
  exact ⟨fun h1 b hb => (this b hb).1 (h1 b hb), fun h1 b hb => (this b hb).2 (h1 b hb)⟩
/-- The sum of f over the first k barrels of a list. -/
def sumB (f : Cask → Int) (h : House) (p : List Int) : Nat → Int
  | 0 => 0
  | k + 1 => sumB f h p k + f (caskIn h (inOf p k))
theorem sumB_le {f : Cask → Int} {h : House} {p : List Int} {nb : Nat} {lo : Int} (hr : InRange lo nb p) (hf : f c0 = 0) : ∀ k, sumB f h p (nb + k) = sumB f h p nb
  | 0 => rfl
  | k + 1 => by rw [← Nat.add_assoc, sumB, sumB_le hr hf k, inOf_none hr (by omega)]; simp [caskIn, hf]
theorem sumC_packed {f : Cask → Int} {h : House} (hf : f c0 = 0) {p : List Int} (hl : p.length = h.ps.length) {nb : Nat} (hr : InRange (-1) nb p) (hnb : nb ≤ 5) : sumC f (packedC h p) 5 = sumB f h p nb := by
  have : ∀ k, k ≤ 5 → sumC f (packedC h p) k = sumB f h p k := fun k => by
    induction k with
    | zero => intro _; rfl
    | succ k ih => intro hk; rw [sumC, sumB, ih (by omega), caskOf_packed hl hr hnb (by omega)]
  rw [this 5 (Nat.le_refl _)]
  have := sumB_le (f := f) (h := h) hr hf (5 - nb)
  rw [show nb + (5 - nb) = 5 by omega] at this
  exact this
theorem sumB_bd {f : Cask → Int} {h : House} {p : List Int} {m : Int} (hm : ∀ b : Nat, 0 ≤ f (caskIn h (inOf p b)) ∧ f (caskIn h (inOf p b)) ≤ m) : ∀ k : Nat, 0 ≤ sumB f h p k ∧ sumB f h p k ≤ m * k
  | 0 => by simp [sumB]
  | k + 1 => by
    have := sumB_bd hm k
    have := hm k
    unfold sumB
    constructor
    · omega
    · rw [show ((k + 1 : Nat) : Int) = (k : Int) + 1 by omega, Int.mul_add]; omega
theorem inOf_ok {h : House} (hv : HOK h) {p : List Int} (hl : p.length ≤ h.ps.length) (b : Int) : (caskIn h (inOf p b)).ok := (caskIn_upto hv _ (inTo_parts hl)).ok (by have := inTo_len p b p.length; have := hv.pl; omega)
open Go.RowKit

theorem used_in {h : House} {pack : List Int} {b : Int} : usedC (caskIn h (inOf pack b)) = if 0 < (inOf pack b).length then 1 else 0 := by
  rw [usedC, cask_n]
  split <;> split <;> omega
end Go.Proofs.Ytmbcpmnigggbaaa.Sa
namespace Go.Proofs.Ytmbcpmnigggbaaa.Sa
open Go.RowKit

set_option maxRecDepth 100000 in
set_option maxHeartbeats 4000000 in
theorem rcheck_no (L : HL) (h : House) (hn : h.ks.length ≤ 1000 ∧ h.ps.length ≤ 1000 ∧ h.bs.length ≤ 1000) (hv : bigOK h = false) (w : World) :
    Calls Try.prog 11 #[L.enc h] w fun e w' => e = .returned (.int .i64 (ckH h)) ∧ Below w.heap.size w w' := by
  obtain ⟨n1, n2, n3⟩ := hn
  have hv2 : ckH h = 80 := ckH_no (by simp [validH, hv])
  rw [hv2]
  clear hv2
  have hbw : Below w.heap.size w (w.alloc (.cells #[.slice L.Ak h.ks.length L.ck, .int .i64 h.fl, .slice L.Ap h.ps.length L.cp, .slice L.Ab h.bs.length L.cb] 27)) := (Below.refl _ _).alloc (Nat.le_refl _) _
  obtain ⟨Ak, ck, Ap, cp, Ab, cb⟩ := L
  by_cases k1 : h.ks.length ≤ 3
  · cases f1 : inR h.fl 0 9
    · clear hv
      go_enter Try.func11, Try.ntmps11
      go_wp2_with (go_at_call 57; refine (within_any _ _ _ _).mono ?_; rintro e w' ⟨rfl, rfl⟩)
      go_ret
      exact ⟨rfl, hbw⟩
    · by_cases p1 : h.ps.length ≤ 6
      · have b1 : 4 < h.bs.length := by
          have : ¬ h.bs.length ≤ 4 := fun hb => by simp [bigOK, k1, f1, p1, hb] at hv
          omega
        clear hv
        go_enter Try.func11, Try.ntmps11
        go_wp2_with (go_at_call 57; refine (within_any _ _ _ _).mono ?_; rintro e w' ⟨rfl, rfl⟩)
        go_ret
        exact ⟨rfl, hbw⟩
      · have p2 : 6 < h.ps.length := by omega
        clear hv p1
        go_enter Try.func11, Try.ntmps11
        go_wp2_with (go_at_call 57; refine (within_any _ _ _ _).mono ?_; rintro e w' ⟨rfl, rfl⟩)
        go_ret
        exact ⟨rfl, hbw⟩
  · have k2 : 3 < h.ks.length := by omega
    clear hv k1
    go_enter Try.func11, Try.ntmps11
    go_wp2_with (go_at_call 57; refine (within_any _ _ _ _).mono ?_; rintro e w' ⟨rfl, rfl⟩)
    go_ret
    exact ⟨rfl, hbw⟩
set_option maxRecDepth 100000 in
set_option maxHeartbeats 4000000 in
theorem rcheck_yes (L : HL) (h : House) (hv : bigOK h = true) (w : World) (hH : HouseAt w w.heap.size L h) :
    Calls Try.prog 11 #[L.enc h] w fun e w' => e = .returned (.int .i64 (ckH h)) ∧ Below w.heap.size w w' := by
  have hv' := hv
  simp only [bigOK, Bool.and_eq_true, decide_eq_true_eq] at hv'
  obtain ⟨k1, f1, p1, b1⟩ := hv'
  have HV := Lib.hid hv
  have HH := Lib.hid hH
  clear hv hH
  obtain ⟨Ak, ck, Ap, cp, Ab, cb⟩ := L
  go_enter Try.func11, Try.ntmps11
  go_wp2_with (go_at_call 57; refine (within_any _ _ _ _).mono ?_; rintro e w' ⟨rfl, rfl⟩)
  clear f1
  go_loopw [3] (fun i wr => ∃ k : Nat, k ≤ h.ks.length ∧ i = .int .i64 k ∧ Hid (∀ j x, j < k → h.ks[j]? = some x → kindOK x = true) ∧ Below w.heap.size w wr ∧ HBox wr w.heap.size ⟨Ak, ck, Ap, cp, Ab, cb⟩ h) (fun i _ => h.ks.length - (intOf i).toNat)
  case atStart => exact ⟨0, Nat.zero_le _, rfl, Lib.hid (fun j x hj => by omega), (Below.refl _ _).alloc (Nat.le_refl _) _, HBox.new w ⟨Ak, ck, Ap, cp, Ab, cb⟩ h⟩
  case round =>
    obtain ⟨k, hk, rfl, hok, hb, hB⟩ := hrel
    have hsz := hb.size
    obtain ⟨g0, g1, g2, g3⟩ := hB.cells
    by_cases hlt : k < h.ks.length
    · obtain ⟨x, hx⟩ : ∃ x, h.ks[k]? = some x := ⟨_, List.getElem?_eq_getElem hlt⟩
      obtain ⟨bk, ok, rfl, hbk, d1, d2⟩ := HH.out.k.at_ hx
      have e1 := below_cell hb d1
      have e2 := below_cell hb d2
      have HX := Lib.hid hx
      clear hx d1 d2
      cases h1 : inR x.1 0 9
      · have hno : Hid (kindOK x = false) := Lib.hid (by rw [kindOK, h1]; rfl)
        go_wp2_with (go_at_call 57; refine (within_any _ _ _ _).mono ?_; rintro e w' ⟨rfl, rfl⟩)
        go_ret
        exact ⟨by rw [ckH_no (by simp [validH, allTo_bad HX.out hno.out])]; rfl, hb⟩
      · cases h2 : inR x.2 0 20
        · have hno : Hid (kindOK x = false) := Lib.hid (by rw [kindOK, h1, h2]; rfl)
          go_wp2_with (go_at_call 57; refine (within_any _ _ _ _).mono ?_; rintro e w' ⟨rfl, rfl⟩)
          go_ret
          exact ⟨by rw [ckH_no (by simp [validH, allTo_bad HX.out hno.out])]; rfl, hb⟩
        · have hyes : Hid (kindOK x = true) := Lib.hid (by rw [kindOK, h1, h2]; rfl)
          go_wp2_with (go_at_call 57; refine (within_any _ _ _ _).mono ?_; rintro e w' ⟨rfl, rfl⟩)
          go_roundw
          case rel => exact ⟨k + 1, by omega, by go_num, Lib.hid (allTo_step hok.out HX.out hyes.out), hb, hB⟩
          case measure => simp [intOf]; omega
    · obtain rfl : k = h.ks.length := by omega
      have hkall : Hid (h.ks.all kindOK = true) := Lib.hid (allTo_good hok.out)
      clear hok hlt hk
      go_wp2
      clear g0 g1 g2 g3
      obtain ⟨wo, rfl⟩ : ∃ wo : World, wo = wr := ⟨_, rfl⟩
      go_loopw [4] (fun i wr => ∃ k : Nat, k ≤ h.ps.length ∧ i = .int .i64 k ∧ Hid (∀ j x, j < k → h.ps[j]? = some x → partOK h.ks.length x = true) ∧ Below w.heap.size w wr ∧ HBox wr w.heap.size ⟨Ak, ck, Ap, cp, Ab, cb⟩ h) (fun i _ => h.ps.length - (intOf i).toNat)
      case atStart => exact ⟨0, Nat.zero_le _, rfl, Lib.hid (fun j x hj => by omega), hb, hB⟩
      case round =>
        clear hb hB hsz
        obtain ⟨k, hk, rfl, hok, hb, hB⟩ := hrel
        have hsz := hb.size
        obtain ⟨g0, g1, g2, g3⟩ := hB.cells
        by_cases hlt : k < h.ps.length
        · obtain ⟨x, hx⟩ : ∃ x, h.ps[k]? = some x := ⟨_, List.getElem?_eq_getElem hlt⟩
          obtain ⟨bk, ok, rfl, hbk, d1, d2⟩ := HH.out.p.at_ hx
          have e1 := extB_cell (below_cell hb d1)
          have e2 := extB_cell (below_cell hb d2)
          have x0 := extB_cell g0
          have x2 := extB_cell g2
          have hki : (k : Int) < h.ps.length := by omega
          have hk0 : (0 : Int) ≤ (k : Int) := by omega
          have hwr : IntKind.i64.wrap ((h.ks.length : Int) - 1) = (h.ks.length : Int) - 1 := IntWalk.i64_in _ (by omega)
          have HX := Lib.hid hx
          clear hx d1 d2
          cases h1 : inR x.1 0 (h.ks.length - 1)
          · have hno : Hid (partOK h.ks.length x = false) := Lib.hid (by rw [partOK, h1]; rfl)
            go_wp2
            refine wp_region_extW (by kernel_rfl) (by kernel_rfl) ?_
            repeat (go_big_quiet_step ((go_at_call 57; exact ext_same (within_any _ _ _ _))))
            refine wpQuiet_nil ?_
            rintro _ ⟨x1, rfl⟩
            have hb3 := hb0to hb (extB_below wr x1)
            clear x0 x2 e1 e2
            go_wp2
            go_ret
            exact ⟨by rw [ckH_no (by simp [validH, allTo_bad HX.out hno.out])]; rfl, hb3⟩
          · cases h2 : inR x.2 0 40
            · have hno : Hid (partOK h.ks.length x = false) := Lib.hid (by rw [partOK, h1, h2]; rfl)
              go_wp2
              refine wp_region_extW (by kernel_rfl) (by kernel_rfl) ?_
              repeat (go_big_quiet_step ((go_at_call 57; exact ext_same (within_any _ _ _ _))))
              refine wpQuiet_nil ?_
              rintro _ ⟨x1, rfl⟩
              have hb3 := hb0to hb (extB_below wr x1)
              clear x0 x2 e1 e2
              go_wp2
              go_ret
              exact ⟨by rw [ckH_no (by simp [validH, allTo_bad HX.out hno.out])]; rfl, hb3⟩
            · have hyes : Hid (partOK h.ks.length x = true) := Lib.hid (by rw [partOK, h1, h2]; rfl)
              go_wp2
              refine wp_region_extW (by kernel_rfl) (by kernel_rfl) ?_
              repeat (go_big_quiet_step ((go_at_call 57; exact ext_same (within_any _ _ _ _))))
              refine wpQuiet_nil ?_
              rintro _ ⟨x1, rfl⟩
              have hb2 := extB_below wr x1
              clear x0 x2 e1 e2
              go_wp2
              go_roundw
              case rel => exact ⟨k + 1, by omega, by go_num, Lib.hid (allTo_step hok.out HX.out hyes.out), hb0to hb hb2, hB.of (hb2.block _ hB.lt)⟩
              case measure => simp [intOf]; omega
        · obtain rfl : k = h.ps.length := by omega
          have hpall : Hid (h.ps.all (partOK h.ks.length) = true) := Lib.hid (allTo_good hok.out)
          clear hok hlt hk
          go_wp2
          clear g0 g1 g2 g3
          obtain ⟨wo, rfl⟩ : ∃ wo : World, wo = wr := ⟨_, rfl⟩
          go_loopw [5] (fun i wr => ∃ k : Nat, k ≤ h.bs.length ∧ i = .int .i64 k ∧ Hid (∀ (j : Nat) (x : Int), j < k → h.bs[j]? = some x → inR x 0 99 = true) ∧ Below w.heap.size w wr ∧ HBox wr w.heap.size ⟨Ak, ck, Ap, cp, Ab, cb⟩ h) (fun i _ => h.bs.length - (intOf i).toNat)
          case atStart => exact ⟨0, Nat.zero_le _, rfl, Lib.hid (fun j x hj => by omega), hb, hB⟩
          case round =>
            clear hb hB hsz
            obtain ⟨k, hk, rfl, hok, hb, hB⟩ := hrel
            have hsz := hb.size
            obtain ⟨g0, g1, g2, g3⟩ := hB.cells
            by_cases hlt : k < h.bs.length
            · obtain ⟨x, hx⟩ : ∃ x, h.bs[k]? = some x := ⟨_, List.getElem?_eq_getElem hlt⟩
              obtain ⟨bk, ok, rfl, hbk, d1⟩ := HH.out.b.at_ hx
              have e1 := below_cell hb d1
              have HX := Lib.hid hx
              clear hx d1
              cases h1 : inR x 0 99
              · have hno : Hid ((h.bs.all fun b => inR b 0 99) = false) := Lib.hid (by rw [List.all_eq_false]; exact ⟨x, List.mem_of_getElem? HX.out, by simp [h1]⟩)
                go_wp2_with (go_at_call 57; refine (within_any _ _ _ _).mono ?_; rintro e w' ⟨rfl, rfl⟩)
                go_ret
                exact ⟨by rw [ckH_no (by rw [validH_parts HV.out hkall.out hpall.out]; exact hno.out)]; rfl, hb⟩
              · have H1 := Lib.hid h1
                go_wp2_with (go_at_call 57; refine (within_any _ _ _ _).mono ?_; rintro e w' ⟨rfl, rfl⟩)
                go_roundw
                case rel => exact ⟨k + 1, by omega, by go_num, Lib.hid (fun j y hj hy => by by_cases e : j = k; subst e; rw [HX.out] at hy; cases hy; exact H1.out; exact hok.out j y (by omega) hy), hb, hB⟩
                case measure => simp [intOf]; omega
            · obtain rfl : k = h.bs.length := by omega
              have hball : Hid ((h.bs.all fun b => inR b 0 99) = true) := Lib.hid (by
                rw [List.all_eq_true]
                intro x hx
                obtain ⟨j, hj⟩ := List.getElem?_of_mem hx
                exact hok.out j x (List.getElem?_eq_some_iff.1 hj).1 hj)
              go_wp2
              go_ret
              exact ⟨by rw [ckH_yes (by rw [validH_parts HV.out hkall.out hpall.out]; exact hball.out)]; rfl, hb⟩
theorem rcheck_any (L : HL) (h : House) (hn : h.ks.length ≤ 1000 ∧ h.ps.length ≤ 1000 ∧ h.bs.length ≤ 1000) (w : World) (hH : HouseAt w w.heap.size L h) :
    Calls Try.prog 11 #[L.enc h] w fun e w' => e = .returned (.int .i64 (ckH h)) ∧ Below w.heap.size w w' := by
  cases hv : bigOK h
  · exact rcheck_no L h hn hv w
  · exact rcheck_yes L h hv w hH
def askH (h : House) (is : Bool) : Int := if validH h = false then 80 else if is = false then 1 else 0
end Go.Proofs.Ytmbcpmnigggbaaa.Sa
namespace Go.Proofs.Ytmbcpmnigggbaaa.Sa
open Go.RowKit

open Go.RowKit

end Go.Proofs.Ytmbcpmnigggbaaa.Sa
namespace Go.Proofs.Ytmbcpmnigggbaaa.Sa
open Go.RowKit

theorem Ints.drew {W : World} {base : Nat} {v : Value} {l : List Int} (h : Ints W base v l) : Ints W.drew base v l := ⟨h.1, h.2⟩
end Go.Proofs.Ytmbcpmnigggbaaa.Sa
namespace Go.Proofs.Ytmbcpmnigggbaaa.Sa
open Go.RowKit

/-! The specification's answers. -/
theorem packs_eq {h : House} (hv : HOK h) : packsL h = fitting h 0 := by
  unfold packsL fitting
  apply List.filter_congr
  intro p hp
  obtain ⟨h1, h2⟩ := mem_allS.1 hp
  exact fits_packed hv h1 (InRange.low (lo := 0) h2 (by omega)) (by have := hv.bl; omega)
def pksS (h : House) (is : Bool) : List (List Int) × Int := if askH h is ≠ 0 then ([], askH h is) else if packsL h = [] then ([], 3) else (packsL h, 0)
open Go.RowKit

theorem bestOf_congr {f g : List Int → Int} {l : List (List Int)} (h : ∀ p ∈ l, f p = g p) : bestOf f l = bestOf g l := by
  revert h
  refine snoc_ind (P := fun l => (∀ p ∈ l, f p = g p) → bestOf f l = bestOf g l) (fun _ => rfl) (fun l x ih h => ?_) l
  rw [bestOf_snoc, bestOf_snoc, ih fun p hp => h p (by simp [hp])]
  have hx := h x (by simp)
  unfold stepB
  cases bestOf g l with
  | none => simp only [hx]
  | some bm => simp only [hx]
/-- What Pack returns. -/
def packF (h : House) : List Int → Int := fun p => sumB (saltC h.fl) h p h.bs.length
theorem packF_eq {h : House} (hv : HOK h) : ∀ p ∈ packsL h, sumC (saltC h.fl) (packedC h p) 5 = packF h p := fun p hp => by
  obtain ⟨h1, h2⟩ := mem_packsL hp
  exact sumC_packed (by simp [saltC, c0]) h1 (InRange.low (lo := 0) h2 (by omega)) (by have := hv.bl; omega)
def packS (h : House) : List Int × Int := if validH h = false then ([], 80) else match bestOf (packF h) (packsL h) with
  | none => ([], 3)
  | some (p, _) => (p, 0)
/-- A list and an error. -/
def LRet (r : List Int × Int) (B : Nat) (w' : World) (e : Ending) : Prop := ∃ A c, e = .returned (.tuple #[.slice A r.1.length c, .int .i64 r.2]) ∧ (A = none → c = 0 ∧ r.1 = []) ∧ IntsIn w' B w'.heap.size A r.1
end Go.Proofs.Ytmbcpmnigggbaaa.Sa
namespace Go.Proofs.Ytmbcpmnigggbaaa.Sa
open Go.RowKit

def foldMin (f : List Int → Int) (i : Int) (l : List (List Int)) : Int := l.foldl (fun m p => if f p < m then f p else m) i
def usedF (h : House) : List Int → Int := fun p => sumB usedC h p h.bs.length
theorem usedF_bd (h : House) (p : List Int) : 0 ≤ usedF h p ∧ usedF h p ≤ h.bs.length := by
  have := sumB_bd (f := usedC) (h := h) (p := p) (m := 1) (fun b => by rw [used_in]; split <;> omega) h.bs.length
  unfold usedF; omega
def fewS (h : House) : Int × Int := if (pksS h true).2 ≠ 0 then (0, (pksS h true).2) else (foldMin (usedF h) h.bs.length (packsL h), 0)
def leastS (h : House) : Int × Int := if validH h = false then (0, 80) else match bestOf (packF h) (packsL h) with
  | none => (0, 3)
  | some (_, m) => (m, 0)
end Go.Proofs.Ytmbcpmnigggbaaa.Sa
namespace Go.Proofs.Ytmbcpmnigggbaaa.Sa
open Go.RowKit

open Go.RowKit

theorem mem_fitting {h : House} {lo : Int} {p : List Int} (hp : p ∈ fitting h lo) : p.length = h.ps.length ∧ InRange lo h.bs.length p ∧ fitsR h p = true := by
  obtain ⟨h1, h2⟩ := List.mem_filter.1 hp
  exact ⟨(mem_allS.1 h1).1, (mem_allS.1 h1).2, h2⟩
end Go.Proofs.Ytmbcpmnigggbaaa.Sa
namespace Go.Proofs.Ytmbcpmnigggbaaa.Sa
open Go.RowKit

/-! Copies of a house. -/
structure HLOK (L : HL) (h : House) : Prop where
  k : L.Ak = none → L.ck = 0 ∧ h.ks = []
  p : L.Ap = none → L.cp = 0 ∧ h.ps = []
  b : L.Ab = none → L.cb = 0 ∧ h.bs = []
/-- The slices of a house are the call's own, each in a block of its own. -/
structure Copied (W : World) (n0 n1 n2 : Nat) (L : HL) (h : House) : Prop where
  k : OwnsP W 95 n0 (.slice L.Ak h.ks.length L.ck) h.ks
  k1 : ∀ g, (Value.slice L.Ak h.ks.length L.ck).ownBlock = some g → g < n1
  p : OwnsP W 97 n1 (.slice L.Ap h.ps.length L.cp) h.ps
  p1 : ∀ g, (Value.slice L.Ap h.ps.length L.cp).ownBlock = some g → g < n2
  b : Ints W n2 (.slice L.Ab h.bs.length L.cb) h.bs
  n01 : n0 ≤ n1
  n12 : n1 ≤ n2
theorem ownsP_at {W : World} {t : TypeId} {base : Nat} {A : Option Addr} {n c : Nat} {ns : List (Int × Int)} (h : OwnsP W t base (.slice A n c) ns) : PairsAt W W.heap.size A ns ∧ (A = none → c = 0 ∧ ns = []) := by
  obtain ⟨A', c', e, h1, h2⟩ := h.lay
  cases e
  exact ⟨h2, h1⟩
theorem ints_at {W : World} {base : Nat} {A : Option Addr} {n c : Nat} {l : List Int} (h : Ints W base (.slice A n c) l) : IntsIn W base W.heap.size A l ∧ (A = none → c = 0 ∧ l = []) ∧ l.length ≤ c := by
  obtain ⟨A', c', e, h1, h2, h3⟩ := h.lay
  cases e
  exact ⟨h3, h1, h2⟩
theorem Copied.house {W : World} {n0 n1 n2 : Nat} {L : HL} {h : House} (H : Copied W n0 n1 n2 L h) : HouseAt W W.heap.size L h := ⟨(ownsP_at H.k).1, (ownsP_at H.p).1, (ints_at H.b).1.at_⟩
theorem Copied.ok {W : World} {n0 n1 n2 : Nat} {L : HL} {h : House} (H : Copied W n0 n1 n2 L h) : HLOK L h := ⟨(ownsP_at H.k).2, (ownsP_at H.p).2, (ints_at H.b).2.1⟩
theorem Copied.cap {W : World} {n0 n1 n2 : Nat} {L : HL} {h : House} (H : Copied W n0 n1 n2 L h) : h.bs.length ≤ L.cb ∧ (L.Ab = none → L.cb = 0) := ⟨(ints_at H.b).2.2, fun e => ((ints_at H.b).2.1 e).1⟩
theorem Copied.below {W W' : World} {n0 n1 n2 : Nat} {L : HL} {h : House} (H : Copied W n0 n1 n2 L h) (hb : Below W.heap.size W W') : Copied W' n0 n1 n2 L h :=
  ⟨H.k.below_ hb (Nat.le_refl _), H.k1, H.p.below_ hb (Nat.le_refl _), H.p1, H.b.below_ hb (Nat.le_refl _), H.n01, H.n12⟩
theorem info88 : (Try.prog.info? 95).map (fun i => (i.zero, i.size, i.bytes)) = some (some (.agg #[.int .i64 0, .int .i64 0]), 2, 16) := by kernel_rfl
theorem info38 : (Try.prog.info? 97).map (fun i => (i.zero, i.size, i.bytes)) = some (some (.agg #[.int .i64 0, .int .i64 0]), 2, 16) := by kernel_rfl
/-- Copy's memory. -/
structure CpSt (W : World) (s : Nat) (L : HL) (h : House) (a b c : Value) : Prop where
  x : HBox W s L h
  y : W.heap[s + 1]? = some (.cells #[.slice none 0 0, .int .i64 0, .slice none 0 0, .slice none 0 0] 27 (0, 0))
  z : W.heap[s + 1 + 1]? = some (.cells #[a, .int .i64 h.fl, b, c] 27 (0, 0))
theorem CpSt.kp {W W' : World} {s : Nat} {L : HL} {h : House} {a b c : Value} (H : CpSt W s L h a b c) {n : Nat} (hb : Below n W W') (hn : s + 3 ≤ n) : CpSt W' s L h a b c :=
  ⟨H.x.of (hb.block _ (by omega)), (hb.block _ (by omega)).trans H.y, (hb.block _ (by omega)).trans H.z⟩
theorem CpSt.zc {W : World} {s : Nat} {L : HL} {h : House} {a b c : Value} (H : CpSt W s L h a b c) : W.cell? ⟨s + 1 + 1, 0, none⟩ = some a ∧ W.cell? ⟨s + 1 + 1, 1, none⟩ = some (.int .i64 h.fl) ∧ W.cell? ⟨s + 1 + 1, 2, none⟩ = some b ∧ W.cell? ⟨s + 1 + 1, 3, none⟩ = some c := by
  simp [World.cell?, H.z]
theorem CpSt.fz {W : World} {s : Nat} {L : HL} {h : House} {a b c : Value} (H : CpSt W s L h a b c) : ∀ o, W.frozen? ⟨s + 1 + 1, o, none⟩ = false := fun o => by simp [World.frozen?, H.z]
theorem CpSt.yc {W : World} {s : Nat} {L : HL} {h : House} {a b c : Value} (H : CpSt W s L h a b c) : W.cell? ⟨s + 1, 0, none⟩ = some (.slice none 0 0) ∧ W.cell? ⟨s + 1, 1, none⟩ = some (.int .i64 0) ∧ W.cell? ⟨s + 1, 2, none⟩ = some (.slice none 0 0) ∧ W.cell? ⟨s + 1, 3, none⟩ = some (.slice none 0 0) := by
  simp [World.cell?, H.y]
theorem CpSt.fy {W : World} {s : Nat} {L : HL} {h : House} {a b c : Value} (H : CpSt W s L h a b c) : ∀ o, W.frozen? ⟨s + 1, o, none⟩ = false := fun o => by simp [World.frozen?, H.y]
theorem CpSt.lt {W : World} {s : Nat} {L : HL} {h : House} {a b c : Value} (H : CpSt W s L h a b c) : s + 3 ≤ W.heap.size := by have := heap_lt H.z; omega
theorem CpSt.set {W : World} {s : Nat} {L : HL} {h : House} {a b c : Value} (H : CpSt W s L h a b c) (o : Nat) (v : Value) : HBox (W.setCell ⟨s + 1 + 1, o, none⟩ v) s L h ∧ (W.setCell ⟨s + 1 + 1, o, none⟩ v).heap[s + 1]? = some (.cells #[.slice none 0 0, .int .i64 0, .slice none 0 0, .slice none 0 0] 27 (0, 0)) ∧
    (W.setCell ⟨s + 1 + 1, o, none⟩ v).heap[s + 1 + 1]? = some (.cells (#[a, .int .i64 h.fl, b, c].setIfInBounds o v) 27 (0, 0)) :=
  ⟨hbox_other H.x (by omega), (((KpB.refl (fun k => k = s + 1 + 1) W.heap.size W).set o v (.inl rfl)).block _ (heap_lt H.y) (by omega)).trans H.y, heap_set v H.z⟩
theorem CpSt.set0 {W : World} {s : Nat} {L : HL} {h : House} {a b c : Value} (H : CpSt W s L h a b c) (v : Value) : CpSt (W.setCell ⟨s + 1 + 1, 0, none⟩ v) s L h v b c := by obtain ⟨h1, h2, h3⟩ := H.set 0 v; exact ⟨h1, h2, h3⟩
theorem CpSt.set2 {W : World} {s : Nat} {L : HL} {h : House} {a b c : Value} (H : CpSt W s L h a b c) (v : Value) : CpSt (W.setCell ⟨s + 1 + 1, 2, none⟩ v) s L h a v c := by obtain ⟨h1, h2, h3⟩ := H.set 2 v; exact ⟨h1, h2, h3⟩
theorem CpSt.set3 {W : World} {s : Nat} {L : HL} {h : House} {a b c : Value} (H : CpSt W s L h a b c) (v : Value) : CpSt (W.setCell ⟨s + 1 + 1, 3, none⟩ v) s L h a b v := by obtain ⟨h1, h2, h3⟩ := H.set 3 v; exact ⟨h1, h2, h3⟩
theorem CpSt.new (w : World) (L : HL) (h : House) : CpSt (((w.alloc (.cells #[.slice L.Ak h.ks.length L.ck, .int .i64 h.fl, .slice L.Ap h.ps.length L.cp, .slice L.Ab h.bs.length L.cb] 27)).alloc (.cells #[.slice none 0 0, .int .i64 0, .slice none 0 0, .slice none 0 0] 27)).alloc (.cells #[.slice L.Ak h.ks.length L.ck, .int .i64 h.fl, .slice L.Ap h.ps.length L.cp, .slice L.Ab h.bs.length L.cb] 27)) w.heap.size L h (.slice L.Ak h.ks.length L.ck) (.slice L.Ap h.ps.length L.cp) (.slice L.Ab h.bs.length L.cb) := by
  have c0 := HBox.new w L h
  have c1 := World.alloc_heap_new (w.alloc (.cells #[.slice L.Ak h.ks.length L.ck, .int .i64 h.fl, .slice L.Ap h.ps.length L.cp, .slice L.Ab h.bs.length L.cb] 27)) (.cells #[.slice none 0 0, .int .i64 0, .slice none 0 0, .slice none 0 0] 27)
  have c2 := World.alloc_heap_new ((w.alloc (.cells #[.slice L.Ak h.ks.length L.ck, .int .i64 h.fl, .slice L.Ap h.ps.length L.cp, .slice L.Ab h.bs.length L.cb] 27)).alloc (.cells #[.slice none 0 0, .int .i64 0, .slice none 0 0, .slice none 0 0] 27)) (.cells #[.slice L.Ak h.ks.length L.ck, .int .i64 h.fl, .slice L.Ap h.ps.length L.cp, .slice L.Ab h.bs.length L.cb] 27)
  simp only [World.size_alloc] at c1 c2
  exact ⟨(c0.of (Below.heap_alloc _ _ _ (by simp))).of (Below.heap_alloc _ _ _ (by simp; omega)), (Below.heap_alloc _ _ _ (by simp)).trans c1, c2⟩
def CopyRet (h : House) (B : Nat) (w' : World) (e : Ending) : Prop := ∃ L n1 n2, e = .returned (HL.enc L h) ∧ Copied w' B n1 n2 L h
theorem OwnsP.set_other {W : World} {t : TypeId} {base s o : Nat} {u v : Value} {l : List (Int × Int)} (h : OwnsP W t base v l) (hs : s < base) : OwnsP (W.setCell ⟨s, o, none⟩ u) t base v l := by
  refine ⟨h.1, ?_⟩
  rcases h.2 with h2 | ⟨g, cap, cur, e, hb2, hg, h4⟩
  · exact .inl h2
  · exact .inr ⟨g, cap, cur, e, hb2, (((KpB.refl (fun k => k = s) W.heap.size W).set o u (.inl rfl)).block g (heap_lt hg) (by omega)).trans hg, h4⟩
theorem Ints.set_other {W : World} {base s o : Nat} {u v : Value} {l : List Int} (h : Ints W base v l) (hs : s < base) : Ints (W.setCell ⟨s, o, none⟩ u) base v l := by
  refine ⟨h.1, ?_⟩
  rcases h.2 with h2 | ⟨g, cap, cur, e, hb2, hg, h4⟩
  · exact .inl h2
  · exact .inr ⟨g, cap, cur, e, hb2, (((KpB.refl (fun k => k = s) W.heap.size W).set o u (.inl rfl)).block g (heap_lt hg) (by omega)).trans hg, h4⟩
theorem OwnsP.alloc {W : World} {t : TypeId} {base : Nat} {v : Value} {l : List (Int × Int)} (h : OwnsP W t base v l) (o : Obj) : OwnsP (W.alloc o) t base v l := World.ownsRow.alloc h o
theorem OwnsP.mono {W : World} {t : TypeId} {base base' : Nat} {v : Value} {l : List (Int × Int)} (h : OwnsP W t base v l) (hb : base' ≤ base) : OwnsP W t base' v l := by
  refine ⟨h.1, ?_⟩
  rcases h.2 with h2 | ⟨g, cap, cur, e, hb2, h4⟩
  · exact .inl h2
  · exact .inr ⟨g, cap, cur, e, Nat.le_trans hb hb2, h4⟩
theorem ownP_lt {W : World} {t : TypeId} {base : Nat} {v : Value} {l : List (Int × Int)} (h : OwnsP W t base v l) : ∀ g, v.ownBlock = some g → g < W.heap.size := fun g hg => (World.ownsRow.lt h g hg).2
theorem CpSt.al {W : World} {s : Nat} {L : HL} {h : House} {a b c : Value} (H : CpSt W s L h a b c) (o : Obj) : CpSt (W.alloc o) s L h a b c := H.kp (Below.alloc (Below.refl W.heap.size W) (Nat.le_refl _) o) H.lt
theorem ownsP_madeS (w : World) (a : Addr) (u : Value) (t : TypeId) : OwnsP ((w.setCell a u).alloc (.cells #[] t)) t w.heap.size (.slice (some ⟨w.heap.size, 0, none⟩) 0 0) [] := by
  have := ownsP_made (w.setCell a u) t w.heap.size (by simp)
  rwa [World.size_setCell] at this
theorem ints_madeS (w : World) (a : Addr) (u : Value) : Ints ((w.setCell a u).alloc (.cells #[] 3)) w.heap.size (.slice (some ⟨w.heap.size, 0, none⟩) 0 0) [] := by
  have := ints_made (w.setCell a u) w.heap.size (by simp)
  rwa [World.size_setCell] at this
theorem below_sal (w : World) (a : Addr) (u : Value) (o : Obj) : Below w.heap.size (w.setCell a u) ((w.setCell a u).alloc o) := (Below.refl _ _).alloc (by simp) _
theorem load26 {W : World} {b : Nat} {x y z u : Value} (h0 : W.cell? ⟨b, 0, none⟩ = some x) (h1 : W.cell? ⟨b, 1, none⟩ = some y) (h2 : W.cell? ⟨b, 2, none⟩ = some z) (h3 : W.cell? ⟨b, 3, none⟩ = some u) :
    (Instr.loadAt 27 (.pointer (some ⟨b, 0, none⟩))).run Try.prog W = .ok (.agg #[x, y, z, u]) W := by
  simp [go_sem, Instr.loadAt, Instr.sureAddr, *]
/-- The box of the result is written, cell by cell. -/
theorem cp_store {W : World} {s : Nat} {L : HL} {h : House} {a b c : Value} (H : CpSt W s L h a b c) (x y z u : Value) :
    (Instr.loadAt 27 (.pointer (some ⟨s + 1, 0, none⟩))).run Try.prog ((((W.setCell ⟨s + 1, 0, none⟩ x).setCell ⟨s + 1, 1, none⟩ y).setCell ⟨s + 1, 2, none⟩ z).setCell ⟨s + 1, 3, none⟩ u) = .ok (.agg #[x, y, z, u]) ((((W.setCell ⟨s + 1, 0, none⟩ x).setCell ⟨s + 1, 1, none⟩ y).setCell ⟨s + 1, 2, none⟩ z).setCell ⟨s + 1, 3, none⟩ u) := by
  have e := heap_set u (o := 3) (heap_set z (o := 2) (heap_set y (o := 1) (heap_set x (o := 0) H.y)))
  refine load26 ?_ ?_ ?_ ?_ <;> simp [World.cell?, e]
theorem set_any {Q : World → Prop} {s : Nat} (hQ : ∀ W o u, Q W → Q (W.setCell ⟨s, o, none⟩ u)) {W : World} (h : Q W) (x y z u : Value) : Q ((((W.setCell ⟨s, 0, none⟩ x).setCell ⟨s, 1, none⟩ y).setCell ⟨s, 2, none⟩ z).setCell ⟨s, 3, none⟩ u) :=
  hQ _ _ _ (hQ _ _ _ (hQ _ _ _ (hQ _ _ _ h)))
set_option maxRecDepth 100000 in
set_option maxHeartbeats 4000000 in
theorem copy_any (L : HL) (h : House) (hn : h.ks.length ≤ 1000 ∧ h.ps.length ≤ 1000 ∧ h.bs.length ≤ 1000) (hok : HLOK L h) (w : World) (hH : HouseAt w w.heap.size L h) :
    Calls Try.prog 67 #[L.enc h] w fun e w' => CopyRet h w.heap.size w' e ∧ Below w.heap.size w w' := by
  have hb0 : Below w.heap.size w (((w.alloc (.cells #[.slice L.Ak h.ks.length L.ck, .int .i64 h.fl, .slice L.Ap h.ps.length L.cp, .slice L.Ab h.bs.length L.cb] 27)).alloc (.cells #[.slice none 0 0, .int .i64 0, .slice none 0 0, .slice none 0 0] 27)).alloc (.cells #[.slice L.Ak h.ks.length L.ck, .int .i64 h.fl, .slice L.Ap h.ps.length L.cp, .slice L.Ab h.bs.length L.cb] 27)) :=
    (((Below.refl _ _).alloc (Nat.le_refl _) _).alloc (by simp) _).alloc (by simp; omega) _
  have HS := Lib.hid (CpSt.new w L h)
  obtain ⟨n1, n2, n3⟩ := hn
  obtain ⟨ik, hik, k0, k1, k2⟩ := info_parts info88
  obtain ⟨ip, hip, p0, p1, p2⟩ := info_parts info38
  have HI := Lib.hid (And.intro hik (And.intro k0 (And.intro k1 (And.intro k2 (And.intro hip (And.intro p0 (And.intro p1 p2)))))))
  have HOK' := Lib.hid hok
  have HH := Lib.hid hH
  have HB0 := Lib.hid hb0
  obtain ⟨W0, hW0⟩ : ∃ W0, W0 = ((w.alloc (.cells #[.slice L.Ak h.ks.length L.ck, .int .i64 h.fl, .slice L.Ap h.ps.length L.cp, .slice L.Ab h.bs.length L.cb] 27)).alloc (.cells #[.slice none 0 0, .int .i64 0, .slice none 0 0, .slice none 0 0] 27)).alloc (.cells #[.slice L.Ak h.ks.length L.ck, .int .i64 h.fl, .slice L.Ap h.ps.length L.cp, .slice L.Ab h.bs.length L.cb] 27) := ⟨_, rfl⟩
  rw [← hW0] at HS HB0
  have HW0 := Lib.hid hW0
  clear hok hH hb0 hik k0 k1 k2 hip p0 p1 p2 hW0
  go_enter Try.func67, Try.ntmps67
  go_upto_region 2 with (fail)
  have e := HW0.out
  rw [← e]
  clear e
  have HN := Lib.hid (HH.out.below (HB0.out))
  have Z0 : w.heap.size + 3 ≤ W0.heap.size := HS.out.lt
  have xc := HS.out.x.cells
  have xd := (HS.out.al (.cells #[] 95)).x.cells
  go_wp2_with (first
    | (at_builtin; have hg3 := HS2.out.x; go_must (refine wpl_copyI rfl (.tmp 15) (.tmp 17) rfl w2.heap.size _ [] rfl (ints_madeS w2 _ _) L.Ab L.cb h.bs HOK'.out.b rfl (HH.out.below (HB2'.out.alloc (by have := HB2'.out.size; omega) (.cells #[] 3))).b (by simp) n3 (by simp) ?_; intro v3 w3 own3 hb3; have hc3 := Below.trans (below_sal w2 _ _ _) hb3; have S3 := HS2.out.kp hc3 Z2; have zf3 := S3.fz; have zw3 := S3.zc; have yf3 := S3.fy; have yw3 := S3.yc; have HB3 := Lib.hid (HB2'.out.trans (hc3.mono HB2.out.size)); rw [List.nil_append] at own3; obtain ⟨A3, c3, rfl, oA3, pA3⟩ := own3.lay; have HO13 := Lib.hid ((HO12.out.set_other (s := w.heap.size + 1 + 1) (o := 2) (u := .slice A2 h.ps.length c2) (by omega)).below_ hc3 (by simp)); have HO23 := Lib.hid ((HO2.out.set_other (s := w.heap.size + 1 + 1) (o := 2) (u := .slice A2 h.ps.length c2) (by omega)).below_ hc3 (by simp)); have HO3 := Lib.hid own3; have HS3 := Lib.hid (S3.set3 (.slice A3 h.bs.length c3)); have HB3' := Lib.hid (HB3.out.setCell (p := ⟨w.heap.size + 1 + 1, 3, none⟩) (by show w.heap.size ≤ w.heap.size + 1 + 1; omega) (.slice A3 h.bs.length c3)); have Z3 : w.heap.size + 3 ≤ w3.heap.size := S3.lt; clear own3 hb3 hc3 S3 oA3 pA3))
    | (at_builtin; have hg2 := HS1.out.x; go_must (refine wpl_copyP2 rfl (.tmp 10) (.tmp 12) 24 97 Try.underlying24 HI.out.2.2.2.2.1 HI.out.2.2.2.2.2.1 HI.out.2.2.2.2.2.2.1 HI.out.2.2.2.2.2.2.2 rfl w1.heap.size _ [] rfl (ownsP_madeS w1 _ _ 97) L.Ap L.cp h.ps HOK'.out.p rfl (HH.out.below (HB1'.out.alloc (by have := HB1'.out.size; omega) (.cells #[] 97))).p (by simp) n2 (by simp) ?_; intro v2 w2 own2 hb2; have hc2 := Below.trans (below_sal w1 _ _ _) hb2; have S2 := HS1.out.kp hc2 Z1; have zf2 := S2.fz; have zw2 := S2.zc; have HB2 := Lib.hid (HB1'.out.trans (hc2.mono HB1.out.size)); rw [List.nil_append] at own2; obtain ⟨A2, c2, rfl, oA2, pA2⟩ := own2.lay; have HO12 := Lib.hid ((HO1.out.set_other (s := w.heap.size + 1 + 1) (o := 0) (u := .slice A1 h.ks.length c1) (by omega)).below_ hc2 (by simp)); have HO2 := Lib.hid own2; have HS2 := Lib.hid (S2.set2 (.slice A2 h.ps.length c2)); have HB2' := Lib.hid (HB2.out.setCell (p := ⟨w.heap.size + 1 + 1, 2, none⟩) (by show w.heap.size ≤ w.heap.size + 1 + 1; omega) (.slice A2 h.ps.length c2)); have xd2 := (HS2.out.al (.cells #[] 3)).x.cells; have Z2 : w.heap.size + 3 ≤ w2.heap.size := S2.lt; have Z12 : w1.heap.size ≤ w2.heap.size := (by have := hc2.size; simpa using this); clear own2 hb2 hc2 S2 oA2 pA2))
    | (at_builtin; go_must (refine wpl_copyP2 rfl (.tmp 5) (.tmp 7) 23 95 Try.underlying23 HI.out.1 HI.out.2.1 HI.out.2.2.1 HI.out.2.2.2.1 rfl W0.heap.size _ [] rfl (ownsP_made W0 95 W0.heap.size (Nat.le_refl _)) L.Ak L.ck h.ks HOK'.out.k rfl (HN.out.below ((Below.refl _ W0).alloc (Nat.le_refl _) _)).k (by simp) n1 (by simp) ?_; intro v1 w1 own1 hb1; have hc1 := Below.trans (Below.alloc (Below.refl W0.heap.size W0) (Nat.le_refl _) _) hb1; have S1 := HS.out.kp hc1 Z0; have zf1 := S1.fz; have zw1 := S1.zc; have HB1 := Lib.hid (HB0.out.trans (hc1.mono HB0.out.size)); rw [List.nil_append] at own1; obtain ⟨A1, c1, rfl, oA1, pA1⟩ := own1.lay; have HO1 := Lib.hid own1; have HS1 := Lib.hid (S1.set0 (.slice A1 h.ks.length c1)); have HB1' := Lib.hid (HB1.out.setCell (p := ⟨w.heap.size + 1 + 1, 0, none⟩) (by show w.heap.size ≤ w.heap.size + 1 + 1; omega) (.slice A1 h.ks.length c1)); have xd1 := (HS1.out.al (.cells #[] 97)).x.cells; have Z1 : w.heap.size + 3 ≤ w1.heap.size := S1.lt; have Z01 : W0.heap.size ≤ w1.heap.size := hc1.size; clear own1 hb1 hc1 S1 oA1 pA1)))
  refine bodyPost_ret (results_cell rfl rfl (cp_store (HS3.out) _ _ _ _)) rfl ⟨⟨⟨A1, c1, A2, c2, A3, c3⟩, w1.heap.size, w2.heap.size, rfl, ?_⟩, ?_⟩
  · have q1 := (HO13.out.set_other (s := w.heap.size + 1 + 1) (o := 3) (u := .slice A3 h.bs.length c3) (by omega))
    have q2 := (HO23.out.set_other (s := w.heap.size + 1 + 1) (o := 3) (u := .slice A3 h.bs.length c3) (by omega))
    have q3 := (HO3.out.set_other (s := w.heap.size + 1 + 1) (o := 3) (u := .slice A3 h.bs.length c3) (by omega))
    have r1 := set_any (s := w.heap.size + 1) (Q := fun W => OwnsP W 95 W0.heap.size (.slice A1 h.ks.length c1) h.ks) (fun W o u hh => hh.set_other (by omega)) q1 (.slice A1 h.ks.length c1) (.int .i64 h.fl) (.slice A2 h.ps.length c2) (.slice A3 h.bs.length c3)
    have r2 := set_any (s := w.heap.size + 1) (Q := fun W => OwnsP W 97 w1.heap.size (.slice A2 h.ps.length c2) h.ps) (fun W o u hh => hh.set_other (by omega)) q2 (.slice A1 h.ks.length c1) (.int .i64 h.fl) (.slice A2 h.ps.length c2) (.slice A3 h.bs.length c3)
    have r3 := set_any (s := w.heap.size + 1) (Q := fun W => Ints W w2.heap.size (.slice A3 h.bs.length c3) h.bs) (fun W o u hh => hh.set_other (by omega)) q3 (.slice A1 h.ks.length c1) (.int .i64 h.fl) (.slice A2 h.ps.length c2) (.slice A3 h.bs.length c3)
    exact ⟨r1.mono (by omega), ownP_lt HO1.out, r2, ownP_lt HO2.out, r3, by omega, Z12⟩
  · exact set_any (s := w.heap.size + 1) (Q := fun W => Below w.heap.size w W) (fun W o u hh => hh.setCell (p := ⟨w.heap.size + 1, o, none⟩) (by show w.heap.size ≤ w.heap.size + 1; omega) u) HB3'.out _ _ _ _
end Go.Proofs.Ytmbcpmnigggbaaa.Sa
namespace Go.Proofs.Ytmbcpmnigggbaaa.Sa
open Go.RowKit

set_option maxRecDepth 100000 in
set_option maxHeartbeats 1000000 in
theorem sameInts_is (A1 A2 : Option Addr) (c1 c2 : Nat) (l : List Int) (hl : l.length ≤ 1000) (w : World) (h1 : IntsAt w w.heap.size A1 l) (h2 : IntsAt w w.heap.size A2 l) :
    Calls Try.prog 44 #[.slice A1 l.length c1, .slice A2 l.length c2] w fun e w' => e = .returned (.bool true) ∧ Below w.heap.size w w' := by
  have H1 := Lib.hid h1
  have H2 := Lib.hid h2
  clear h1 h2
  go_enter Try.func44, Try.ntmps44
  go_wp2
  go_loopw [5] (fun i wr => ∃ k : Nat, k ≤ l.length ∧ i = .int .i64 k ∧ Below w.heap.size w wr) (fun i _ => l.length - (intOf i).toNat)
  case atStart => exact ⟨0, Nat.zero_le _, rfl, Below.refl _ _⟩
  case round =>
    obtain ⟨k, hk, rfl, hb⟩ := hrel
    by_cases hlt : k < l.length
    · obtain ⟨x, hx⟩ : ∃ x, l[k]? = some x := ⟨_, List.getElem?_eq_getElem hlt⟩
      obtain ⟨b1, o1, rfl, _, d1⟩ := IntsAt.at_ (ints_later H1.out hb) hx
      obtain ⟨b2, o2, rfl, _, d2⟩ := IntsAt.at_ (ints_later H2.out hb) hx
      have e1 := extB_cell d1
      have e2 := extB_cell d2
      clear hx
      go_wp2
      refine wp_region_ext (by kernel_rfl) (by kernel_rfl) ?_
      repeat (go_big_quiet_step (fail))
      refine wpQuiet_nil ?_
      rintro _ ⟨x1, rfl⟩
      have hb1 := hb.trans ((extB_below wr x1).mono hb.size)
      go_wp2
      go_roundw
      case rel => exact ⟨k + 1, by omega, by go_num, hb1⟩
      case measure => simp [intOf]; omega
    · obtain rfl : k = l.length := by omega
      go_wp2
      go_ret
      exact ⟨rfl, hb⟩

open Go.RowKit

def hugeB (h : House) : Bool := decide (40 < h.ks.length) || (decide (40 < h.ps.length) || decide (40 < h.bs.length))
set_option maxRecDepth 100000 in
set_option maxHeartbeats 4000000 in
theorem huge_any (L : HL) (h : House) (w : World) :
    Calls Try.prog 10 #[L.enc h] w fun e w' => e = .returned (.bool (hugeB h)) ∧ Below w.heap.size w w' := by
  have hbw := Lib.hid ((Below.refl w.heap.size w).alloc (Nat.le_refl _) (.cells #[.slice L.Ak h.ks.length L.ck, .int .i64 h.fl, .slice L.Ap h.ps.length L.cp, .slice L.Ab h.bs.length L.cb] 27))
  obtain ⟨Ak, ck, Ap, cp, Ab, cb⟩ := L
  by_cases k1 : 40 < h.ks.length
  · have hv : hugeB h = true := by simp [hugeB, k1]
    rw [hv]; clear hv
    go_enter Try.func10, Try.ntmps10
    go_wp2
    go_ret
    exact ⟨rfl, hbw.out⟩
  · have k2 : h.ks.length ≤ 40 := by omega
    by_cases p1 : 40 < h.ps.length
    · have hv : hugeB h = true := by simp [hugeB, p1]
      rw [hv]; clear hv k1
      go_enter Try.func10, Try.ntmps10
      go_wp2
      go_ret
      exact ⟨congrArg (fun b => Ending.returned (.bool b)) (by first | (simp; done) | (simp; omega)), hbw.out⟩
    · have p2 : h.ps.length ≤ 40 := by omega
      by_cases b1 : 40 < h.bs.length
      · have hv : hugeB h = true := by simp [hugeB, b1]
        rw [hv]; clear hv k1 p1
        go_enter Try.func10, Try.ntmps10
        go_wp2
        go_ret
        exact ⟨congrArg (fun b => Ending.returned (.bool b)) (by first | (simp; done) | (simp; omega)), hbw.out⟩
      · have b2 : h.bs.length ≤ 40 := by omega
        have hv : hugeB h = false := by simp [hugeB]; omega
        rw [hv]; clear hv k1 p1 b1
        go_enter Try.func10, Try.ntmps10
        go_wp2
        go_ret
        exact ⟨congrArg (fun b => Ending.returned (.bool b)) (by first | (simp; done) | (simp; omega)), hbw.out⟩
def farB (h : House) : Bool := hugeB h || (validH h && decide (700 < (h.bs.length + 1) ^ h.ps.length))
theorem pow_le {a k : Nat} (ha : a ≤ 4) (hk : k ≤ 6) : (a + 1) ^ k ≤ 15625 :=
  Nat.le_trans (Nat.pow_le_pow_left (Nat.succ_le_succ ha) k) (Nat.le_trans (Nat.pow_le_pow_right (by decide) hk) (by decide))
theorem huge_no {h : House} (hh : hugeB h = false) : h.ks.length ≤ 40 ∧ h.ps.length ≤ 40 ∧ h.bs.length ≤ 40 := by
  simp only [hugeB, Bool.or_eq_false_iff, decide_eq_false_iff_not] at hh
  omega
set_option maxRecDepth 100000 in
set_option maxHeartbeats 4000000 in
theorem far_any (L : HL) (h : House) (w : World) (hH : HouseAt w w.heap.size L h) :
    Calls Try.prog 12 #[L.enc h] w fun e w' => e = .returned (.bool (farB h)) ∧ Below w.heap.size w w' := by
  have hbw := (Below.refl w.heap.size w).alloc (Nat.le_refl _) (.cells #[.slice L.Ak h.ks.length L.ck, .int .i64 h.fl, .slice L.Ap h.ps.length L.cp, .slice L.Ab h.bs.length L.cb] 27)
  have HB := Lib.hid (HBox.new w L h)
  have hc0 := (HBox.new w L h).cells
  obtain ⟨W0, hW0⟩ : ∃ W0, w.alloc (.cells #[.slice L.Ak h.ks.length L.ck, .int .i64 h.fl, .slice L.Ap h.ps.length L.cp, .slice L.Ab h.bs.length L.cb] 27) = W0 := ⟨_, rfl⟩
  rw [hW0] at hbw HB hc0
  have HU := Lib.hid (huge_any L h W0)
  have HBW := Lib.hid hbw
  have HW0 := Lib.hid hW0
  have HH := Lib.hid (hH.below hbw)
  clear hbw hW0 hH
  cases hh : hugeB h
  · have hf : farB h = (validH h && decide (700 < (h.bs.length + 1) ^ h.ps.length)) := by rw [farB, hh]; rfl
    rw [hf]
    have hn := huge_no hh
    clear hf
    have HC := Lib.hid (rcheck_any L h ⟨by omega, by omega, by omega⟩)
    have HH' := Lib.hid hh
    clear hh hn
    cases hv : validH h
    · have hck : ckH h = 80 := ckH_no hv
      obtain ⟨Ak, ck, Ap, cp, Ab, cb⟩ := L
      go_enter Try.func12, Try.ntmps12
      go_upto_region 1 with (fail)
      have e := HW0.out
      rw [e]
      clear e
      go_wp2_with (first
        | (go_at_call 10; refine (HU.out).mono ?_; rintro e w1 ⟨rfl, hb1⟩; rw [HH'.out]; have HB1 := Lib.hid hb1; have hc1 := (HB.out.of (hb1.block _ HB.out.lt)).cells; clear hb1)
        | (go_at_call 11; refine (HC.out w1 (HH.out.below HB1.out)).mono ?_; rintro e w2 ⟨rfl, hb2⟩; rw [hck]; have HB2 := Lib.hid (hb0to HB1.out hb2); clear hb2))
      go_ret
      exact ⟨rfl, hb0to HBW.out HB2.out⟩
    · have hck : ckH h = 0 := ckH_yes hv
      have hV := HOK.ofValid hv
      have hbl := hV.bl
      have hpl := hV.pl
      obtain ⟨Ak, ck, Ap, cp, Ab, cb⟩ := L
      clear hV hv
      go_enter Try.func12, Try.ntmps12
      go_upto_region 1 with (fail)
      have e := HW0.out
      rw [e]
      clear e
      go_wp2_with (first
        | (go_at_call 10; refine (HU.out).mono ?_; rintro e w1 ⟨rfl, hb1⟩; rw [HH'.out]; have HB1 := Lib.hid hb1; have hc1 := (HB.out.of (hb1.block _ HB.out.lt)).cells; clear hb1)
        | (go_at_call 11; refine (HC.out w1 (HH.out.below HB1.out)).mono ?_; rintro e w2 ⟨rfl, hb2⟩; rw [hck]; have HB2 := Lib.hid (hb0to HB1.out hb2); clear hb2))
      clear hc0 hc1
      go_loopw [3, 4] (fun n i wr => ∃ k : Nat, k ≤ h.ps.length ∧ i = .int .i64 k ∧ n = .int .i64 ((h.bs.length + 1) ^ k : Nat) ∧ Below W0.heap.size W0 wr) (fun _ i _ => h.ps.length - (intOf i).toNat)
      case atStart => exact ⟨0, Nat.zero_le _, rfl, rfl, HB2.out⟩
      case round =>
        obtain ⟨k, hk, rfl, rfl, hb⟩ := hrel
        have hc := (HB.out.of (hb.block _ HB.out.lt)).cells
        have hP := pow_le hbl (Nat.le_trans hk hpl)
        have hPs := pow_le (k := k) hbl (by omega)
        obtain ⟨P, hPe⟩ : ∃ P, P = (h.bs.length + 1) ^ k := ⟨_, rfl⟩
        rw [← hPe] at hP hPs ⊢
        by_cases hlt : k < h.ps.length
        · have hP2 := pow_le (k := k + 1) hbl (by omega)
          rw [Nat.pow_succ, ← hPe] at hP2
          have q0 : (0 : Int) ≤ (P : Int) * ((h.bs.length : Int) + 1) := by have := Int.natCast_nonneg (P * (h.bs.length + 1)); push_cast at this; exact this
          have q2 : ((P * (h.bs.length + 1) : Nat) : Int) ≤ 15625 := by omega
          have q1 : (P : Int) * ((h.bs.length : Int) + 1) ≤ 15625 := by push_cast at q2; exact q2
          clear q2
          have HN := Lib.hid (show (P : Int) * ((h.bs.length : Int) + 1) = ((h.bs.length + 1) ^ (k + 1) : Nat) by rw [Nat.pow_succ, ← hPe]; push_cast; rfl)
          clear hPe
          go_wp2
          go_roundw
          case rel => exact ⟨k + 1, by omega, by go_num, by rw [← HN.out], hb⟩
          case measure => simp [intOf]; omega
        · obtain rfl : k = h.ps.length := by omega
          have HE := Lib.hid hPe
          clear hPe
          go_wp2
          go_ret
          exact ⟨by rw [← HE.out]; simp; omega, hb0to HBW.out hb⟩
  · have hf : farB h = true := by rw [farB, hh]; rfl
    rw [hf]
    have HH' := Lib.hid hh
    clear hh hf
    obtain ⟨Ak, ck, Ap, cp, Ab, cb⟩ := L
    go_enter Try.func12, Try.ntmps12
    go_upto_region 1 with (fail)
    have e := HW0.out
    rw [e]
    clear e
    go_wp2_with (go_at_call 10; refine (HU.out).mono ?_; rintro e w1 ⟨rfl, hb1⟩; rw [HH'.out]; have HB1 := Lib.hid hb1; clear hb1)
    go_ret
    exact ⟨rfl, hb0to HBW.out HB1.out⟩

end Go.Proofs.Ytmbcpmnigggbaaa.Sa
