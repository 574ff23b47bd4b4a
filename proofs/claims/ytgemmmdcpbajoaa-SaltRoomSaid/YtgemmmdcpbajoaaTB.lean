import Derived.ArgAppend
import Derived.Test.YtgemmmdcpbajoaaT9
namespace Go.Proofs.Ytgemmmdcpbajoaa
open Go.RowKit
attribute [local go_sem] Oper.semAt_some

theorem wpIn_region_tailX {P : Program} {k n id : Nat} {Q : Exit → Act → World → Prop} {a : Act} {w : World} {L : List Oper} (N : Nat) (hL : L = L.take N ++ [L.getD N default]) (hQ : ¬ LetsOut Q) (hd : noDefer L = true) (hm : P.follows .mixedOrders = true) (hl : lastOK (L.take N).length (L.getD N default) = true) (hb : backB L = true) (hB : Region.lexB .any (L.take N ++ [idle (L.getD N default)]).toArray = true)
    (h : wpQuiet P (L.take N ++ [idle (L.getD N default)]).toArray (fun w' => ∃ x, w' = extB w x) (fun a' => ∀ w', (∃ x, w' = extB w x) → (L.getD N default).wp P a' w' (fun a'' w'' => Q .normal a'' w'') Q) (L.take N) a) : (Code.region id L.toArray true).wpIn (Fence.wide.inRound k) n P Q a w :=
  wpIn_region_tail (C := fun w' => ∃ x, w' = extB w x) _ _ hL hQ hd hm hl hb hB (extB_of (Below.refl _ w).drew) h
theorem casksTo_congr {h g : House} (hk : h.ks = g.ks) (hp : h.ps = g.ps) (pack : List Int) : ∀ k, casksTo h pack k = casksTo g pack k
  | 0 => rfl
  | k + 1 => by
    have e1 : partOf h k = partOf g k := by simp [partOf, hp]
    have e2 : ∀ p, kindOf h p = kindOf g p := fun p => by simp [kindOf, hk]
    rw [casksTo, casksTo, casksTo_congr hk hp pack k, e1, e2]
theorem packedC_congr {h g : House} (hk : h.ks = g.ks) (hp : h.ps = g.ps) (pack : List Int) : packedC h pack = packedC g pack := by
  unfold packedC; rw [hp]; exact casksTo_congr hk hp pack _
/-- A house with one more barrel, of size 0. -/
def more0 (h : House) : House := { h with bs := h.bs ++ [0] }
theorem HOK.more0 {h : House} (hv : HOK h) (hb : h.bs.length < 4) : HOK (more0 h) :=
  ⟨hv.kl, hv.f0, hv.f1, hv.pl, by show (h.bs ++ [0]).length ≤ 4; simp; omega, hv.k, hv.p, fun i x hx => by
    have hx : (h.bs ++ [0])[i]? = some x := hx
    by_cases e : i < h.bs.length
    · rw [List.getElem?_append_left e] at hx; exact hv.b i x hx
    · rw [List.getElem?_append_right (by omega)] at hx
      have := List.mem_of_getElem? hx
      simp at this
      omega⟩
/-- What Buy returns. -/
def needAt (h : House) (k : Nat) (p : List Int) : Int := (caskOf (packedC h p) k).p + saltC h.fl (caskOf (packedC h p) k)
def buyF (h : House) (m : Int) (p : List Int) : Int := if fitsC h (packedC h p) then (if needAt h h.bs.length p < m then needAt h h.bs.length p else m) else m
def buyL (h : House) (l : List (List Int)) : Int := l.foldl (buyF h) 100
theorem buyL_snoc (h : House) (l : List (List Int)) (p : List Int) : buyL h (l ++ [p]) = buyF h (buyL h l) p := by simp [buyL]
def buyRet (h : House) : Int × Int :=
  if validH h = false then (0, 80) else if packsL h ≠ [] then (0, 0) else if h.bs.length = 4 then (0, 2) else
    if 99 < buyL h (allS 0 (h.bs.length + 1) h.ps.length) then (0, 3) else (buyL h (allS 0 (h.bs.length + 1) h.ps.length), 0)
theorem needAt_bd {h : House} (hv : HOK h) {k : Nat} (hk : k < 5) (p : List Int) : 0 ≤ needAt h k p ∧ needAt h k p ≤ 20000 := by
  have hc := packedC_ok hv p k _ (at_caskOf (by rw [packedC_len]; exact hk))
  have := saltC_bd hc ⟨hv.f0, hv.f1⟩
  have := hc.p0
  have := hc.p1
  unfold needAt; omega
theorem buyL_bd {h : House} (hv : HOK h) (hb : h.bs.length < 4) : ∀ l, 0 ≤ buyL h l ∧ buyL h l ≤ 100 := fun l => by
  refine snoc_ind (P := fun l => 0 ≤ buyL h l ∧ buyL h l ≤ 100) (by simp [buyL]) (fun l x ih => ?_) l
  rw [buyL_snoc]
  have := needAt_bd hv (show h.bs.length < 5 by omega) x
  unfold buyF
  split
  · split <;> omega
  · exact ih
/-- 'append(s[:n:n], x)'. -/
theorem run_app0 {w : World} (ty : TypeId) (A : Option Addr) (l : List Int) (k : Int) (hA : A = none → l = []) (hI : IntsAt w w.heap.size A l) (ad : Addr) (c : Nat) (hc : w.cell? ad = some (.int .i64 k)) (hl : l.length ≤ 1000) :
    ∃ v' w', (Builtin.append_ #[24, 24] ty #[.slice A l.length l.length, .slice (some ad) 1 c]).run Try.prog w = .ok v' w' ∧ Ints w' w.heap.size v' (l ++ [k]) ∧ Below w.heap.size w w' := by
  obtain ⟨i0, hi, hz0, hz1, hz2⟩ := info_parts info3'
  have hn : ∀ j u, [Value.int .i64 k][j]? = some u → w.cell? (ad.add j) = some u := by
    intro j u hj
    match j, hj with
    | 0, hj => simp at hj; subst hj; simpa [Addr.add] using hc
  have fin : ∀ v' w', w'.ownsRow w.heap.size 3 1 v' (l.length + 1) (l.map (.int .i64) ++ [.int .i64 k]) → Ints w' w.heap.size v' (l ++ [k]) := fun v' w' h => by
    unfold Ints
    rw [List.length_append, List.map_append]
    exact h
  cases A with
  | some b =>
    obtain ⟨v', w', hrun, r1, r2⟩ := run_append_arg_grows (P := Try.prog) w 24 ty 3 i0 (.int .i64 0) 1 8 Try.underlying24 hi hz0 hz1 hz2 rfl (by decide) b l.length l.length (l.map (.int .i64)) (by simp) (ints_news hI) ad 1 c [.int .i64 k] rfl hn (by omega) (by unfold maxLen; omega) (by omega)
    exact ⟨v', w', hrun, fin _ _ r1, (Below.refl _ w).grown r2 (Nat.le_refl _) fun j ej => by cases ej⟩
  | none =>
    have := hA rfl
    subst this
    obtain ⟨v', w', hrun, r1, r2, _⟩ := run_append_own (P := Try.prog) w w.heap.size 24 ty 3 i0 (.int .i64 0) 1 8 Try.underlying24 hi hz0 hz1 hz2 rfl (by decide) (.slice none 0 0) 0 [] (World.ownsRow_nil w _ 3 1) ad 1 c [.int .i64 k] rfl hn (by intro u hu; simp at hu; subst hu; rfl) (by unfold maxLen; omega) (by omega) (Nat.le_refl _)
    exact ⟨v', w', hrun, fin _ _ r1, (Below.refl _ w).grown r2 (Nat.le_refl _) fun j ej => by cases ej⟩
theorem wplIn_app0 {F : Fence} {nF : Nat} {ops : Array Oper} {rest : List Oper} {o : Oper} {a : Act} {w : World} {Q : Exit → Act → World → Prop} (hgd : o.guard = none) (s x : Operand)
    (ho : o.op = .call { callee := .builtin .append, args := #[s, x], argTypes := #[24, 24] }) (A : Option Addr) (l : List Int) (k : Int) (hs : a.eval s = .slice A l.length l.length) (hA : A = none → l = []) (hI : IntsAt w w.heap.size A l)
    (ad : Addr) (c : Nat) (hx : a.eval x = .slice (some ad) 1 c) (hc : w.cell? ad = some (.int .i64 k)) (hl : l.length ≤ 1000)
    (h : ∀ v' w', Ints w' w.heap.size v' (l ++ [k]) → Below w.heap.size w w' → wpListIn F nF Try.prog ops Q rest (a.put o.dst v') w') : wpListIn F nF Try.prog ops Q (o :: rest) a w := by
  refine wpListIn_plain hgd fun K hK' => ?_
  obtain ⟨v', w', hrun, r1, r2⟩ := run_app0 (w := w) o.type A l k hA hI ad c hc hl
  have fin := hK' _ _ (h v' w' r1 r2)
  unfold Oper.wpIn
  refine ⟨?_, ?_⟩
  · simp [Oper.about, ho, resolve, Target.leads, Sem.run_pure]
  · rw [Oper.semAt_plain F _ _ (by rw [ho]; intro c hc'; cases hc')]
    simp [execOp, ho, resolve, invoke, builtin, hs, hx, hrun, Result.andThen]
    exact fin
/-- Buy's memory: its house and its results. -/
structure BuySt (W : World) (s : Nat) (L : HL) (h : House) (n e : Int) : Prop where
  b0 : HBox W s L h
  b1 : Boxed W (s + 1) 3 (.int .i64 n)
  b2 : Boxed W (s + 1 + 1) 30 (.int .i64 e)
section
variable {W W' : World} {s : Nat} {L : HL} {h : House} {n e : Int}
theorem BuySt.kp (H : BuySt W s L h n e) {S : Nat → Prop} {m : Nat} (hk : KpB S m W W') (hs : s + 3 ≤ m) (hS : ∀ k, S k → k < s ∨ s + 3 ≤ k) : BuySt W' s L h n e :=
  ⟨H.b0.of (hk.block _ (by omega) (fun h => by have := hS _ h; omega)), (hk.block _ (by omega) (fun h => by have := hS _ h; omega)).trans H.b1, (hk.block _ (by omega) (fun h => by have := hS _ h; omega)).trans H.b2⟩
theorem BuySt.lt (H : BuySt W s L h n e) : s + 3 ≤ W.heap.size := by have := H.b2.lt; omega
theorem BuySt.below (H : BuySt W s L h n e) (hb : Below W.heap.size W W') : BuySt W' s L h n e :=
  H.kp (kpB_of_below hb (S := fun _ => False)) H.lt (fun _ h => h.elim)
theorem BuySt.setN (H : BuySt W s L h n e) (x : Int) : BuySt (W.setCell ⟨s + 1, 0, none⟩ (.int .i64 x)) s L h x e :=
  ⟨hbox_other H.b0 (by omega), H.b1.set _, boxed_other H.b2 (by omega)⟩
theorem BuySt.setE (H : BuySt W s L h n e) (x : Int) : BuySt (W.setCell ⟨s + 1 + 1, 0, none⟩ (.int .i64 x)) s L h n x :=
  ⟨hbox_other H.b0 (by omega), boxed_other H.b1 (by omega), H.b2.set _⟩
theorem BuySt.putObj (H : BuySt W s L h n e) {k : Nat} {o : Obj} (hk : s + 3 ≤ k) : BuySt (W.putObj k o) s L h n e :=
  H.kp (S := fun b => b = k) ((KpB.refl _ _ _).put _ _ (.inl rfl)) H.lt (fun b hb => .inr (by omega))
theorem results20_of (H : BuySt W s L h n e) {tmps : Array Value} (h2 : tmps[2]?.getD undef = .pointer (some ⟨s + 1, 0, none⟩)) (h3 : tmps[3]?.getD undef = .pointer (some ⟨s + 1 + 1, 0, none⟩)) :
    (results Try.f20 tmps).run Try.prog W = .ok (.tuple #[.int .i64 n, .int .i64 e]) W := by
  have c1 := H.b1.cell
  have c2 := H.b2.cell
  simp [results, Try.results20, go_sem, h2, h3, c1, c2]
end
/-- What the search for a size begins with. -/
structure BuyM (W : World) (m : Nat) (L : HL) (h : House) (x : Int) : Prop where
  y0 : Boxed W m 3 (.int .i64 h.bs.length)
  y1 : HBox W (m + 1) L h
  y2 : Boxed W (m + 1 + 1) 3 (.int .i64 x)
theorem BuyM.new (X : World) (L : HL) (h : House) (o : Obj) : BuyM ((((X.alloc (.cells #[.int .i64 h.bs.length] 3)).alloc (.cells #[.slice L.Ak h.ks.length L.ck, .int .i64 h.fl, .slice L.Ap h.ps.length L.cp, .slice L.Ab h.bs.length L.cb] 26)).alloc (.cells #[.int .i64 100] 3)).alloc o) X.heap.size L h 100 := by
  have c0 := Boxed.new X 3 (.int .i64 h.bs.length)
  have c1 := HBox.new (X.alloc (.cells #[.int .i64 h.bs.length] 3)) L h
  have c2 := Boxed.new ((X.alloc (.cells #[.int .i64 h.bs.length] 3)).alloc (.cells #[.slice L.Ak h.ks.length L.ck, .int .i64 h.fl, .slice L.Ap h.ps.length L.cp, .slice L.Ab h.bs.length L.cb] 26)) 3 (.int .i64 100)
  simp only [World.size_alloc] at c1 c2
  exact ⟨((c0.alloc _).alloc _).alloc _, (c1.of (Below.heap_alloc _ _ _ (by simp))).of (Below.heap_alloc _ _ _ (by simp)), c2.alloc _⟩
theorem BuyM.kp {W W' : World} {m : Nat} {L : HL} {h : House} {x : Int} (H : BuyM W m L h x) {S : Nat → Prop} {n : Nat} (hk : KpB S n W W') (hs : m + 3 ≤ n) (hS : ∀ k, S k → k < m ∨ m + 3 ≤ k) : BuyM W' m L h x :=
  ⟨(hk.block _ (by omega) (fun h => by have := hS _ h; omega)).trans H.y0, H.y1.of (hk.block _ (by omega) (fun h => by have := hS _ h; omega)), (hk.block _ (by omega) (fun h => by have := hS _ h; omega)).trans H.y2⟩
theorem BuyM.below {W W' : World} {m : Nat} {L : HL} {h : House} {x : Int} (H : BuyM W m L h x) (hb : Below W.heap.size W W') : BuyM W' m L h x :=
  H.kp (kpB_of_below hb (S := fun _ => False)) (by have := H.y2.lt; omega) (fun _ h => h.elim)
theorem two_other {W : World} {a b k : Nat} {x y : Value} (ha : k ≠ a) (hb : k ≠ b) (hk : k < W.heap.size) : ((W.setCell ⟨a, 0, none⟩ x).setCell ⟨b, 0, none⟩ y).heap[k]? = W.heap[k]? :=
  (((KpB.refl (fun j => j = b) (W.setCell ⟨a, 0, none⟩ x).heap.size (W.setCell ⟨a, 0, none⟩ x)).set 0 y (.inl rfl)).block k (by simpa [World.setCell] using hk) hb).trans (((KpB.refl (fun j => j = a) W.heap.size W).set 0 x (.inl rfl)).block k hk ha)
theorem heap_lt {W : World} {k : Nat} {o : Obj} (h : W.heap[k]? = some o) : k < W.heap.size := (Array.getElem?_eq_some_iff.1 h).1
theorem put_below {w W : World} {k : Nat} {o : Obj} (hb : Below w.heap.size w W) (hk : w.heap.size ≤ k) : Below w.heap.size w (W.putObj k o) :=
  hb.trans (KpB.belowOf (S := fun b => b = k) ((KpB.refl _ _ _).put _ _ (.inl rfl)) hb.size (fun b hb => by omega))
theorem buy_below {w W : World} {x y : Int} (hb : Below w.heap.size w W) : Below w.heap.size w ((W.setCell ⟨w.heap.size + 1, 0, none⟩ (.int .i64 x)).setCell ⟨w.heap.size + 1 + 1, 0, none⟩ (.int .i64 y)) :=
  (hb.setCell (by simp) _).setCell (by simp; omega) _
/-- What is kept while a size is sought. -/
structure BuyI (W : World) (w : World) (m d : Nat) (L : HL) (h : House) (x : Int) : Prop where
  bl : Below w.heap.size w W
  st : BuySt W w.heap.size L h 0 0
  y0 : Boxed W m 3 (.int .i64 h.bs.length)
  y2 : Boxed W (m + 1 + 1) 3 (.int .i64 x)
  dk : W.heap[d]? = some (.deferred (some []))
theorem BuyI.kp {W W' w : World} {m d : Nat} {L : HL} {h : House} {x : Int} (H : BuyI W w m d L h x) {S : Nat → Prop} {n : Nat} (hk : KpB S n W W') (hn : m + 3 ≤ n) (hd : d < n) (hm : w.heap.size + 3 ≤ m) (hS : ∀ k, S k → m + 3 ≤ k ∧ k ≠ d) : BuyI W' w m d L h x :=
  ⟨H.bl.trans (hk.belowOf (by omega) (fun k hs => by have := hS k hs; omega)), H.st.kp hk (by omega) (fun k hs => .inr (by have := hS k hs; omega)), (hk.block _ (by omega) (fun hs => by have := hS _ hs; omega)).trans H.y0, (hk.block _ (by omega) (fun hs => by have := hS _ hs; omega)).trans H.y2, (hk.block _ hd (fun hs => (hS _ hs).2 rfl)).trans H.dk⟩
theorem BuyI.below {W W' w : World} {m d : Nat} {L : HL} {h : House} {x : Int} (H : BuyI W w m d L h x) (hb : Below W.heap.size W W') (hm : w.heap.size + 3 ≤ m) : BuyI W' w m d L h x :=
  H.kp (kpB_of_below hb (S := fun _ => False)) (by have := H.y2.lt; omega) ((Array.getElem?_eq_some_iff.1 H.dk).1) hm (fun _ h => h.elim)
theorem BuyI.setX {W w : World} {m d : Nat} {L : HL} {h : House} {x : Int} (H : BuyI W w m d L h x) (hm : w.heap.size + 3 ≤ m) (hd : d ≠ m + 1 + 1) {y z : Int} (hy : y = z) : BuyI (W.setCell ⟨m + 1 + 1, 0, none⟩ (.int .i64 y)) w m d L h z := by
  subst hy
  have hk : KpB (fun k => k = m + 1 + 1) W.heap.size W (W.setCell ⟨m + 1 + 1, 0, none⟩ (.int .i64 y)) := (KpB.refl _ _ _).set _ _ (.inl rfl)
  exact ⟨H.bl.setCell (by simp; omega) _, H.st.kp hk H.st.lt (fun k hk => .inr (by omega)), boxed_other H.y0 (by omega), H.y2.set _, (hk.block _ (Array.getElem?_eq_some_iff.1 H.dk).1 hd).trans H.dk⟩
set_option maxRecDepth 100000 in
set_option maxHeartbeats 4000000 in
theorem buy_any (L : HL) (h : House) (hn : h.ks.length ≤ 1000 ∧ h.ps.length ≤ 1000 ∧ h.bs.length ≤ 1000) (hcb : h.bs.length ≤ L.cb ∧ (L.Ab = none → L.cb = 0) ∧ L.cb ≤ 9223372036854775807) (w : World) (hH : HouseAt w w.heap.size L h) :
    Calls Try.prog 20 #[L.enc h] w fun e w' => e = .returned (.tuple #[.int .i64 (buyRet h).1, .int .i64 (buyRet h).2]) ∧ Below w.heap.size w w' := by
  have hbw := (((Below.refl _ _).alloc (Nat.le_refl w.heap.size) (.cells #[.slice L.Ak h.ks.length L.ck, .int .i64 h.fl, .slice L.Ap h.ps.length L.cp, .slice L.Ab h.bs.length L.cb] 26)).alloc (by simp) (.cells #[.int .i64 0] 3)).alloc (by simp; omega) (.cells #[.int .i64 0] 30)
  have HC := Lib.hid (check_any L h hn _ (hH.below hbw))
  have HB := Lib.hid (((HBox.new w L h).of (Below.heap_alloc _ (.cells #[.int .i64 0] 3) _ (by simp))).of (Below.heap_alloc _ (.cells #[.int .i64 0] 30) _ (by simp; omega)))
  have hD := Boxed.new (w.alloc (.cells #[.slice L.Ak h.ks.length L.ck, .int .i64 h.fl, .slice L.Ap h.ps.length L.cp, .slice L.Ab h.bs.length L.cb] 26)) 3 (.int .i64 0)
  have hE := Boxed.new ((w.alloc (.cells #[.slice L.Ak h.ks.length L.ck, .int .i64 h.fl, .slice L.Ap h.ps.length L.cp, .slice L.Ab h.bs.length L.cb] 26)).alloc (.cells #[.int .i64 0] 3)) 30 (.int .i64 0)
  simp only [World.size_alloc] at hD hE
  have HD := Lib.hid (hD.alloc (.cells #[.int .i64 0] 30))
  have HE := Lib.hid hE
  have HBW := Lib.hid hbw
  have HH := Lib.hid hH
  clear hbw hH hD hE
  cases hv : validH h
  · have hk : ckH h = 80 := ckH_no hv
    have HV := Lib.hid hv
    clear hv
    go_enter Try.func20, Try.ntmps20
    go_wp2_with (go_at_call 28; refine HC.out.mono ?_; rintro e w1 ⟨rfl, hb1⟩; have gd := below_cell hb1 HD.out.cell; have ge := below_cell hb1 HE.out.cell; have fd := (show Boxed w1 _ _ _ from (hb1.block _ HD.out.lt).trans HD.out).frozen; have fe := (show Boxed w1 _ _ _ from (hb1.block _ HE.out.lt).trans HE.out).frozen)
    have hst : BuySt w1 w.heap.size L h 0 0 := ⟨HB.out.of (hb1.block _ HB.out.lt), (hb1.block _ HD.out.lt).trans HD.out, (hb1.block _ HE.out.lt).trans HE.out⟩
    refine bodyPost_ret (results20_of ((hst.setN 0).setE 80) rfl rfl) rfl ⟨?_, buy_below (hb0to HBW.out hb1)⟩
    rw [buyRet, if_pos HV.out]
  · have hk : ckH h = 0 := ckH_yes hv
    have HV := Lib.hid (HOK.ofValid hv)
    have HV' := Lib.hid hv
    clear hv
    refine (callsIn_wide (n := 10)).1 ?_
    refine callsIn_of_wp_marks Try.func20 rfl trivial ?_ rfl
    simp only [Try.ntmps20, List.size_toArray, List.length_cons, List.length_nil, Nat.reduceAdd, Nat.reduceSub, Array.replicate_succ, Array.replicate_zero, List.push_toArray, List.append_toArray, List.nil_append, List.cons_append]
    gi_wp2_with (first
      | (refine ⟨trivial, ?_⟩; gi_at_call 28; refine (callsIn_wide.2 HC.out).mono ?_; rintro e w1 ⟨rfl, hb1⟩; obtain ⟨g0, g1, g2, g3⟩ := (HB.out.of (hb1.block _ HB.out.lt)).cells; have gd := below_cell hb1 HD.out.cell; have ge := below_cell hb1 HE.out.cell; have fd := (show Boxed w1 _ _ _ from (hb1.block _ HD.out.lt).trans HD.out).frozen; have fe := (show Boxed w1 _ _ _ from (hb1.block _ HE.out.lt).trans HE.out).frozen; have hz0 := cell_lt g0; have hz2 : ¬ w.heap.size = w1.heap.size := (by have hz3 : w.heap.size < w1.heap.size := hz0; omega))
      | (refine ⟨trivial, ?_⟩; gi_at_call 73; refine (callsIn_wide.2 (packings_any L h _)).mono ?_; rintro e w2 ⟨rfl, rfl⟩))
    have hst : BuySt w1 w.heap.size L h 0 0 := ⟨HB.out.of (hb1.block _ HB.out.lt), (hb1.block _ HD.out.lt).trans HD.out, (hb1.block _ HE.out.lt).trans HE.out⟩
    have hX1 := HBox.new w1 L h
    have hst2 := hst.below ((Below.refl _ _).alloc (Nat.le_refl _) (.cells #[.slice L.Ak h.ks.length L.ck, .int .i64 h.fl, .slice L.Ap h.ps.length L.cp, .slice L.Ab h.bs.length L.cb] 26))
    have hbW : Below w.heap.size w (w1.alloc (.cells #[.slice L.Ak h.ks.length L.ck, .int .i64 h.fl, .slice L.Ap h.ps.length L.cp, .slice L.Ab h.bs.length L.cb] 26)) := (hb0to HBW.out hb1).alloc (hb0to HBW.out hb1).size _
    have hz3 := hst.lt
    obtain ⟨W1, hW1⟩ : ∃ W1, w1.alloc (.cells #[.slice L.Ak h.ks.length L.ck, .int .i64 h.fl, .slice L.Ap h.ps.length L.cp, .slice L.Ab h.bs.length L.cb] 26) = W1 := ⟨_, rfl⟩
    rw [hW1] at hst2 hX1 hbW ⊢
    clear hW1 hst g0 g1 g2 g3 gd ge fd fe hz0 hz2
    have hl1 := hst2.lt
    have hxl := hX1.lt
    refine wpIn_rangeFunc_sees (S := fun k => k = w.heap.size + 1 ∨ k = w.heap.size + 1 + 1) (Sees := SeesP h) (fb := #[]) (lb := #[.pointer (some ⟨w1.heap.size, 0, none⟩)]) (xs := packsL h) (w0 := W1) rfl (by omega) rfl trivial (fun _ _ => rfl)
      (packs_sees 9 (by omega) L h HV.out w.heap.size w1.heap.size W1 (by omega) ((HH.out.below hbW).keep2 hbW HH.out) hX1 _ (fun k hk => by omega) (by omega)) (Below.refl _ _) (fun k hk => by omega)
      (fun B x args X hs => by obtain ⟨pb, -, rfl, -⟩ := hs; rfl) (fun B x args X Y _ hs hk => hs.kept hk)
      (fun D pre X => pre = [] ∧ Below w.heap.size w X ∧ BuySt X w.heap.size L h 0 0)
      (fun c D pre X => c = .ret ∧ pre ≠ [] ∧ Below w.heap.size w X ∧ BuySt X w.heap.size L h 0 0)
      ?hI ?hIx ?h0 (fun x args a' X => a' = { tmps := #[L.enc h, .pointer (some ⟨w.heap.size, 0, none⟩), .pointer (some ⟨w.heap.size + 1, 0, none⟩), .pointer (some ⟨w.heap.size + 1 + 1, 0, none⟩), .int .i64 0, undef, undef, undef, undef, undef, L.enc h, .int .i64 0, .int .i64 0, .bool false, undef, L.enc h, .func (.func 96) #[] #[.pointer (some ⟨w1.heap.size, 0, none⟩)], args.getD 0 undef, args.getD 1 undef,
          undef, undef, undef, undef, undef, undef, undef, undef, undef, undef, undef, undef, undef, undef, undef, undef, undef, undef, undef, undef, undef, undef, undef, undef, undef, undef, undef, undef, undef, undef, undef, undef, undef, undef, undef, undef, undef, undef], defers := [] }) ?hAx ?hassign ?hbody ?hdone ?hstop
    case hI =>
      rintro D s X Y hD hX ⟨h0, hb, h1⟩ hk
      exact ⟨h0, hb.trans (hk.belowOf (by have := hb.size; omega) (fun k hs => by have := hs.1; omega)), h1.kp hk (by omega) (fun k hs => .inr (by have := hs.1; omega))⟩
    case hIx =>
      rintro c D s X Y hD hX ⟨hc, h0, hb, h1⟩ hk
      exact ⟨hc, h0, hb.trans (hk.belowOf (by have := hb.size; omega) (fun k hs => by have := hs.1; omega)), h1.kp hk (by omega) (fun k hs => .inr (by have := hs.1; omega))⟩
    case h0 =>
      intro D X hD hX hb
      exact ⟨rfl, hbW.trans (hb.mono (by omega)), hst2.below hb⟩
    case hAx => exact fun _ _ _ _ _ _ h _ => h
    case hassign =>
      intro l' x args X K hz hs hK
      obtain ⟨pb, -, rfl, -⟩ := hs
      have hK' := hK _ X (.inl rfl) rfl
      clear hK
      simp only [List.zip_toArray, List.zip_cons_cons, List.zip_nil_right, List.foldl_toArray, List.foldl_cons, List.foldl_nil, List.setIfInBounds_toArray, List.set_cons_succ, List.set_cons_zero]
      gi_wp2
      exact hK'
    case hbody =>
      rintro l' D pre x args a' X hD hX hpre ⟨h0, hbX, hs⟩ hsee rfl
      obtain ⟨pb, hpb, rfl, hpk⟩ := hsee
      have f1 := hs.b1.frozen
      have f2 := hs.b2.frozen
      have c1 := hs.b1.cell
      have c2 := hs.b2.cell
      gi_wp2
      refine ⟨((KpB.refl _ _ _).set _ _ (.inl (.inl rfl))).set _ _ (.inl (.inr rfl)), rfl, by simp, buy_below hbX, (hs.setN 0).setE 0⟩
    case hdone =>
      rintro D X hD hX ⟨h0, hbX, hs⟩ hk
      obtain ⟨q0, q1, q2, q3⟩ := hs.b0.cells
      have c1 := hs.b1.cell
      have c2 := hs.b2.cell
      have f1 := hs.b1.frozen
      have f2 := hs.b2.frozen
      have hzX := hs.lt
      have hlx0 : w.heap.size < X.heap.size := by omega
      have hnx0 : ¬ w.heap.size = X.heap.size := by omega
      have hlx1 : w.heap.size + 1 < X.heap.size := by omega
      have hnx1 : ¬ w.heap.size + 1 = X.heap.size := by omega
      have hlx2 : w.heap.size + 1 + 1 < X.heap.size := by omega
      have hnx2 : ¬ w.heap.size + 1 + 1 = X.heap.size := by omega
      have HP0 := Lib.hid h0
      have HK := Lib.hid hk
      clear h0 hk
      by_cases hb4 : h.bs.length = 4
      · have hd : ((h.bs.length : Int) == 4) = true := by simp; omega
        have HB4 := Lib.hid hb4
        clear hb4
        gi_wp2
        have hsz2 : ((X.setCell ⟨w.heap.size + 1, 0, none⟩ (.int .i64 0)).setCell ⟨w.heap.size + 1 + 1, 0, none⟩ (.int .i64 2)).heap.size = X.heap.size := by simp [World.setCell]
        refine ⟨by simp, .inl ⟨_, _, rfl, run_takeDeferred (b := W1.heap.size) (ds := []) ((Below.heap_alloc _ _ _ (by rw [hsz2]; omega)).trans ((two_other (by omega) (by omega) (by omega)).trans HK.out)), ?_⟩⟩
        have hsa := ((hs.setN 0).setE 2).below ((Below.refl _ _).alloc (Nat.le_refl _) (.cells #[.int .i64 h.bs.length] 3))
        refine ⟨_, results20_of (L := L) (h := h) (hsa.putObj (by omega)) rfl rfl, ?_, put_below ((buy_below hbX).alloc (buy_below hbX).size _) (by omega)⟩
        rw [buyRet, if_neg (by rw [HV'.out]; decide), if_neg (by rw [HP0.out]; simp), if_pos HB4.out]
      · have hd : ((h.bs.length : Int) == 4) = false := by simp; omega
        have hlt4 : h.bs.length < 4 := by have := HV.out.bl; omega
        have ha1 : w.heap.size < X.heap.size + 1 := by omega
        have ha2 : w.heap.size < X.heap.size + 1 + 1 := by omega
        have ha3 : w.heap.size < X.heap.size + 1 + 1 + 1 := by omega
        have hn1 : ¬ w.heap.size = X.heap.size + 1 := by omega
        have hn2 : ¬ w.heap.size = X.heap.size + 1 + 1 := by omega
        have hn3 : ¬ w.heap.size = X.heap.size + 1 + 1 + 1 := by omega
        have hlcb := hcb.1
        have hcbm := hcb.2.2
        have hbcb : (h.bs.length : Int) ≤ (L.cb : Int) := by omega
        have hAb : L.Ab = none → h.bs = [] := fun e => by
          have := hcb.2.1 e
          exact List.eq_nil_of_length_eq_zero (by omega)
        have hIb : ∀ W, Below X.heap.size X W → IntsAt W W.heap.size L.Ab h.bs := fun W hW => (HH.out.below (hbX.trans (hW.mono hbX.size))).b
        have hb4x : Below X.heap.size X (((((X.alloc (.cells #[.int .i64 h.bs.length] 3)).alloc (.cells #[.slice L.Ak h.ks.length L.ck, .int .i64 h.fl, .slice L.Ap h.ps.length L.cp, .slice L.Ab h.bs.length L.cb] 26)).alloc (.cells #[.int .i64 100] 3))).alloc (.cells #[.int .i64 0] 3)) :=
          ((((Below.refl _ _).alloc (Nat.le_refl _) _).alloc (by simp) _).alloc (by simp; omega) _).alloc (by simp; omega) _
        have HM := Lib.hid (BuyM.new X L h (.cells #[.int .i64 0] 3))
        have HIB := Lib.hid (hIb _ hb4x)
        have HAB := Lib.hid hAb
        have HB4X := Lib.hid hb4x
        clear hIb hAb hb4x
        have hl1000 : h.bs.length ≤ 1000 := by omega
        gi_wp2_with (refine wplIn_app0 rfl (.tmp 29) (.tmp 30) rfl L.Ab h.bs 0 rfl HAB.out HIB.out ⟨X.heap.size + 1 + 1 + 1, 0, none⟩ 1 rfl (by simp [go_sem]) hl1000 ?_; intro v5 W5 hv5 hb5; obtain ⟨A5, c5, rfl, hA5, hl5c, hI5⟩ := hv5.lay; have hm5 := HM.out.below hb5; obtain ⟨r0, r1, r2, r3⟩ := hm5.y1.cells; have rf : W5.frozen? ⟨X.heap.size + 1, 3, none⟩ = false := (by simp [World.frozen?, show W5.heap[X.heap.size + 1]? = _ from hm5.y1]); have hlt5 := hm5.y1.lt; clear hv5 hm5 hA5 hl5c)
        have hs5 := (hs.below HB4X.out).below hb5
        have hm5 := HM.out.below hb5
        have hb5x := hb0to HB4X.out hb5
        have hz5 := hb5.size
        have hz4 : (((((X.alloc (.cells #[.int .i64 h.bs.length] 3)).alloc (.cells #[.slice L.Ak h.ks.length L.ck, .int .i64 h.fl, .slice L.Ap h.ps.length L.cp, .slice L.Ab h.bs.length L.cb] 26)).alloc (.cells #[.int .i64 100] 3))).alloc (.cells #[.int .i64 0] 3)).heap.size = X.heap.size + 4 := by simp
        rw [hz4] at hz5
        have hk6 : KpB (fun k => k = X.heap.size + 1) W5.heap.size W5 (W5.setCell ⟨X.heap.size + 1, 3, none⟩ (.slice A5 (h.bs.length + 1) c5)) := (KpB.refl _ _ _).set _ _ (.inl rfl)
        have hs6 := hs5.kp hk6 (by omega) (fun k hk => .inr (by omega))
        have hy0 : Boxed (W5.setCell ⟨X.heap.size + 1, 3, none⟩ (.slice A5 (h.bs.length + 1) c5)) X.heap.size 3 (.int .i64 h.bs.length) := boxed_other hm5.y0 (by omega)
        have hy2 : Boxed (W5.setCell ⟨X.heap.size + 1, 3, none⟩ (.slice A5 (h.bs.length + 1) c5)) (X.heap.size + 1 + 1) 3 (.int .i64 100) := boxed_other hm5.y2 (by omega)
        have hb6 : Below w.heap.size w (W5.setCell ⟨X.heap.size + 1, 3, none⟩ (.slice A5 (h.bs.length + 1) c5)) := hbX.trans ((hb5x.mono hbX.size).trans (hk6.belowOf (by omega) (fun k hk => by omega)))
        have hk6d : (W5.setCell ⟨X.heap.size + 1, 3, none⟩ (.slice A5 (h.bs.length + 1) c5)).heap[W1.heap.size]? = some (.deferred (some [])) := (hk6.block _ (by omega) (by omega)).trans ((hb5x.block _ (by omega)).trans HK.out)
        have hho : HouseOn (W5.setCell ⟨X.heap.size + 1, 3, none⟩ (.slice A5 (h.bs.length + 1) c5)) (fun k => k < w.heap.size ∨ (X.heap.size + 4 ≤ k ∧ k < W5.heap.size)) { L with Ab := A5, cb := c5 } (more0 h) := by
          intro W' hW' hzW'
          have hz6 : W5.heap.size ≤ W'.heap.size := Nat.le_trans hk6.size hzW'
          have hold : ∀ b o, b < w.heap.size → W'.cell? ⟨b, o, none⟩ = w.cell? ⟨b, o, none⟩ := fun b o hb => (hW' b o (.inl hb)).trans (hb6.cell (p := ⟨b, o, none⟩) hb)
          refine ⟨HH.out.k.keep (by omega) hold, HH.out.p.keep (by omega) hold, IntsIn.at_ (hI5.keep (Nat.le_refl _) hz6 fun b o h1 h2 => ?_)⟩
          rw [hz4] at h1
          exact (hW' b o (.inr ⟨h1, h2⟩)).trans (hk6.cell h2 (by omega))
        obtain ⟨W6, hW6⟩ : ∃ W6, W5.setCell ⟨X.heap.size + 1, 3, none⟩ (.slice A5 (h.bs.length + 1) c5) = W6 := ⟨_, rfl⟩
        have hz6 := hk6.size
        rw [hW6] at hs6 hy0 hy2 hb6 hk6d hho hz6 ⊢
        have HH6 := Lib.hid ((HH.out.below hb6).keep2 hb6 HH.out)
        clear hW6 hk6 hs5 hm5 hb5x r0 r1 r2 r3 rf hI5
        have HO6 := Lib.hid hho
        have HV6 := Lib.hid (HV.out.more0 hlt4)
        clear hho
        have hl6 : (more0 h).bs.length = h.bs.length + 1 := by simp [more0]
        have HL6 := Lib.hid hl6
        have hss := all_seesT 9 (by omega) { L with Ab := A5, cb := c5 } (more0 h) HV6.out 0 (by omega) _ W6 (fun k hk => by rcases hk with hk | hk <;> omega) HO6.out (fun k => k = X.heap.size + 1 + 1) (fun k hk => ⟨by omega, by omega⟩)
        rw [HL6.out, show (more0 h).ps = h.ps from rfl] at hss
        have hsv : stkV { L with Ab := A5, cb := c5 } (more0 h) 0 = .agg #[.slice L.Ak h.ks.length L.ck, .int .i64 h.fl, .slice L.Ap h.ps.length L.cp, .slice A5 (h.bs.length + 1) c5, .int .i64 0] := by rw [stkV, HL6.out]; rfl
        rw [hsv] at hss
        clear hsv hl6
        have HPC := Lib.hid (fun x => packedC_congr (h := more0 h) (g := h) rfl rfl x)
        have HI6 := Lib.hid (BuyI.mk (m := X.heap.size) (d := W1.heap.size) hb6 hs6 hy0 hy2 hk6d)
        clear hb6 hs6 hy0 hy2 hk6d
        refine wpIn_rangeFunc_sees (S := fun k => k = X.heap.size + 1 + 1) (Sees := SeesP (more0 h)) (fb := #[.agg #[.slice L.Ak h.ks.length L.ck, .int .i64 h.fl, .slice L.Ap h.ps.length L.cp, .slice A5 (h.bs.length + 1) c5, .int .i64 0]]) (lb := #[]) (xs := allS 0 (h.bs.length + 1) h.ps.length) (w0 := W6) rfl (by omega) rfl trivial (fun _ _ => rfl)
          hss (Below.refl _ _) (fun k hk => by omega)
          (fun B x args X hs => by obtain ⟨pb, -, rfl, -⟩ := hs; rfl) (fun B x args X Y _ hs hk => hs.kept hk)
          (fun D pre X' => BuyI X' w X.heap.size W1.heap.size L h (buyL h pre))
          (fun c D pre X' => False)
          ?jI ?jIx ?j0 (fun x args a' X' => ∃ b4, W6.heap.size + 2 ≤ b4 ∧ CasksAt X' b4 (packedC h x) ∧ a' = { tmps := #[L.enc h, .pointer (some ⟨w.heap.size, 0, none⟩), .pointer (some ⟨w.heap.size + 1, 0, none⟩), .pointer (some ⟨w.heap.size + 1 + 1, 0, none⟩), .int .i64 0, .pointer (some ⟨X.heap.size, 0, none⟩), .pointer (some ⟨X.heap.size + 1, 0, none⟩), .pointer (some ⟨X.heap.size + 1 + 1, 0, none⟩), undef, .pointer (some ⟨b4, 0, none⟩), L.enc h, .int .i64 0, .int .i64 0, .bool false, undef, L.enc h, .func (.func 96) #[] #[.pointer (some ⟨w1.heap.size, 0, none⟩)], undef, undef,
            .pointer (some ⟨w.heap.size, 3, none⟩), .slice L.Ab h.bs.length L.cb, .int .i64 h.bs.length, .int .i64 h.bs.length, .bool false, L.enc h, .pointer (some ⟨w.heap.size, 3, none⟩), .slice L.Ab h.bs.length L.cb, .int .i64 h.bs.length, .int .i64 h.bs.length, .slice L.Ab h.bs.length h.bs.length, .slice (some ⟨X.heap.size + 1 + 1 + 1, 0, none⟩) 1 1, .slice A5 (h.bs.length + 1) c5, .pointer (some ⟨X.heap.size + 1, 3, none⟩),
            .agg #[.slice L.Ak h.ks.length L.ck, .int .i64 h.fl, .slice L.Ap h.ps.length L.cp, .slice A5 (h.bs.length + 1) c5], .agg #[.slice L.Ak h.ks.length L.ck, .int .i64 h.fl, .slice L.Ap h.ps.length L.cp, .slice A5 (h.bs.length + 1) c5, .int .i64 0], .func (.func 66) #[.agg #[.slice L.Ak h.ks.length L.ck, .int .i64 h.fl, .slice L.Ap h.ps.length L.cp, .slice A5 (h.bs.length + 1) c5, .int .i64 0]] #[],
            args.getD 0 undef, args.getD 1 undef, undef, undef, undef, undef, undef, undef, undef, undef, undef, undef, undef, undef, undef, undef, undef, undef, undef, undef, undef], defers := [] }) ?jAx ?jassign ?jbody ?jdone ?jstop
        case jI =>
          rintro D s X' Y hD hX' h1 hk
          exact h1.kp hk (by omega) (by omega) (by omega) (fun k hs => by have := hs.1; omega)
        case jIx => exact fun _ _ _ _ _ _ _ h _ => h.elim
        case j0 =>
          intro D X' hD hX' hb
          exact HI6.out.below hb (by omega)
        case jAx =>
          rintro x args a' X' Y hz ⟨b4, h1, h2, h3⟩ hk
          exact ⟨b4, h1, (hk.block _ (Array.getElem?_eq_some_iff.1 h2).1 (fun hs => by have hs' : b4 < W6.heap.size + 2 := hs; omega)).trans h2, h3⟩
        case jassign =>
          intro l' x args X' K hz hs hK
          obtain ⟨pb, -, rfl, -⟩ := hs
          rw [HPC.out x] at hK ⊢
          have hK' := hK _ (X'.alloc (.cells (flatC (packedC h x)).toArray 81)) (.inr ⟨_, rfl⟩) ⟨X'.heap.size, by omega, World.alloc_heap_new X' _, rfl⟩
          clear hK
          simp only [List.zip_toArray, List.zip_cons_cons, List.zip_nil_right, List.foldl_toArray, List.foldl_cons, List.foldl_nil, List.setIfInBounds_toArray, List.set_cons_succ, List.set_cons_zero]
          have hl5 : (packedC h x).length = 5 := casksTo_len _ _ _
          gi_wp2_with (refine wplIn_store81 rfl (.tmp 9) (.tmp 37) rfl rfl (packedC h x) hl5 rfl ?_)
          exact hK'
        case jbody =>
          rintro l' D pre x args a' X' hD hX' hpre hs hsee ⟨b4, hb4, hC4, rfl⟩
          obtain ⟨pb, hpb, rfl, hpk⟩ := hsee
          rw [HPC.out x]
          have hl5 : (packedC h x).length = 5 := casksTo_len _ _ _
          have HOK5 := Lib.hid (packedC_ok HV.out x)
          have HSN := Lib.hid (buyL_snoc h pre x)
          have HHX := Lib.hid ((HH.out.below hs.bl).keep2 hs.bl HH.out)
          obtain ⟨q0, q1, q2, q3⟩ := hs.st.b0.cells
          have hzX' := hs.bl.size
          cases hf : fitsC h (packedC h x)
          · gi_wp2_with (first
              | (refine wplIn_load81 rfl (.tmp 9) rfl b4 rfl (packedC h x) hl5 hC4 ?_)
              | (refine ⟨trivial, ?_⟩; gi_at_call 67; refine (CallsIn.mono (CallsIn.inRound l' (callsIn_wide.2 (fits_any L h HV.out _ hl5 HOK5.out X' (HHX.out.more hzX')))) ?_); rintro e W7 ⟨rfl, hb7⟩))
            refine ⟨kpB_of_below (hb7.mono hX'), ?_⟩
            show BuyI W7 w X.heap.size W1.heap.size L h (buyL h (pre ++ [x]))
            rw [HSN.out, buyF, if_neg (by rw [hf]; decide)]
            exact hs.below hb7 (by omega)
          · have hC4' := fun W7 (hb7 : Below X'.heap.size X' W7) => ((hb7.block _ (Array.getElem?_eq_some_iff.1 hC4).1).trans hC4 : CasksAt W7 b4 (packedC h x))
            have HC4 := Lib.hid hC4'
            clear hC4'
            gi_wp2_with (first
              | (refine wplIn_load81 rfl (.tmp 9) rfl b4 rfl (packedC h x) hl5 hC4 ?_)
              | (refine ⟨trivial, ?_⟩; gi_at_call 67; refine (CallsIn.mono (CallsIn.inRound l' (callsIn_wide.2 (fits_any L h HV.out _ hl5 HOK5.out X' (HHX.out.more hzX')))) ?_); rintro e W7 ⟨rfl, hb7⟩))
            have hs7 := hs.below hb7 (by omega)
            have hC7 : CasksAt W7 b4 (packedC h x) := HC4.out W7 hb7
            obtain ⟨z0, z1, z2, z3⟩ := CasksAt.at_ hC7 (at_caskOf (show h.bs.length < (packedC h x).length by omega))
            have hck := HOK5.out h.bs.length _ (at_caskOf (by omega))
            have hnb := needAt_bd HV.out (show h.bs.length < 5 by omega) x
            have hsb := saltC_bd hck ⟨HV.out.f0, HV.out.f1⟩
            have hp0 := hck.p0
            have hp1 := hck.p1
            have hbb := buyL_bd HV.out hlt4 pre
            have e0 := extB_cell z0
            have e1 := extB_cell z1
            have e2 := extB_cell z2
            have e3 := extB_cell z3
            have e4 := extB_cell hs7.y0.cell
            have e5 := extB_cell hs7.y2.cell
            obtain ⟨_, u1, _, _⟩ := hs7.st.b0.cells
            have e6 := extB_cell u1
            have hi0 : (0 : Int) ≤ (h.bs.length : Int) := by omega
            have hi5 : (h.bs.length : Int) < 5 := by omega
            have HCK := Lib.hid hck
            have HF0 := Lib.hid (And.intro HV.out.f0 HV.out.f1)
            clear z0 z1 z2 z3 u1 hck
            refine wpIn_region_tailX 13 (by rfl) (by rintro ⟨_, _, hh⟩; exact hh) (by rfl) (by kernel_rfl) (by kernel_rfl) (by kernel_rfl) (by kernel_rfl) ?_
            simp only [List.take_succ_cons, List.take_zero, List.getD_cons_succ, List.getD_cons_zero, List.cons_append, List.nil_append, idle]
            repeat (go_big_quiet_step ((go_at_call 74; exact ext_call (saltC_any _ h.fl HCK.out HF0.out _))))
            refine wpQuiet_nil ?_
            rintro _ ⟨x1, rfl⟩
            have hb8 := extB_below W7 x1
            have hs8 := hs7.below hb8 (by omega)
            have hc8 := hs8.y2.cell
            have hf8 := hs8.y2.frozen
            clear e0 e1 e2 e3 e4 e5 e6
            obtain ⟨W8, hW8⟩ : ∃ W8, extB W7 x1 = W8 := ⟨_, rfl⟩
            rw [hW8] at hb8 hs8 hc8 hf8 ⊢
            clear hW8
            go_simp
            refine ⟨((kpB_of_below (hb7.mono hX')).trans (kpB_of_below (hb8.mono (by have := hb7.size; omega)))).set _ _ (.inl rfl), ?_⟩
            show BuyI _ w X.heap.size W1.heap.size L h (buyL h (pre ++ [x]))
            refine hs8.setX (by omega) (by omega) ?_
            rw [HSN.out, buyF, if_pos hf]
            rfl
        case jdone =>
          rintro D X' hD hX' hs hk2
          have c0 := hs.y2.cell
          have c1 := hs.st.b1.cell
          have c2 := hs.st.b2.cell
          have f1 := hs.st.b1.frozen
          have f2 := hs.st.b2.frozen
          have hbb := buyL_bd HV.out hlt4 (allS 0 (h.bs.length + 1) h.ps.length)
          have HK2 := Lib.hid hk2
          clear hk2
          by_cases h99 : 99 < buyL h (allS 0 (h.bs.length + 1) h.ps.length)
          · have hd9 : decide (99 < buyL h (allS 0 (h.bs.length + 1) h.ps.length)) = true := by simpa using h99
            have H99 := Lib.hid h99
            clear h99
            gi_wp2
            refine ⟨by simp, .inl ⟨_, _, rfl, run_takeDeferred (b := W6.heap.size) (ds := []) ((two_other (by omega) (by omega) (heap_lt HK2.out)).trans HK2.out), by simp, .inl ⟨_, _, rfl, run_takeDeferred (b := W1.heap.size) (ds := []) ((World.putObj_heap_other (by omega)).trans ((two_other (by omega) (by omega) (heap_lt hs.dk)).trans hs.dk)), ?_⟩⟩⟩
            refine ⟨_, results20_of (L := L) (h := h) ((((hs.st.setN 0).setE 3).putObj (by omega)).putObj (by omega)) rfl rfl, ?_, put_below (put_below (buy_below hs.bl) (by omega)) (by omega)⟩
            rw [buyRet, if_neg (by rw [HV'.out]; decide), if_neg (by rw [HP0.out]; simp), if_neg (by omega), if_pos H99.out]
          · have hd9 : decide (99 < buyL h (allS 0 (h.bs.length + 1) h.ps.length)) = false := by simpa using h99
            have H99 := Lib.hid h99
            clear h99
            gi_wp2
            refine ⟨by simp, .inl ⟨_, _, rfl, run_takeDeferred (b := W6.heap.size) (ds := []) ((two_other (by omega) (by omega) (heap_lt HK2.out)).trans HK2.out), by simp, .inl ⟨_, _, rfl, run_takeDeferred (b := W1.heap.size) (ds := []) ((World.putObj_heap_other (by omega)).trans ((two_other (by omega) (by omega) (heap_lt hs.dk)).trans hs.dk)), ?_⟩⟩⟩
            refine ⟨_, results20_of (L := L) (h := h) ((((hs.st.setN _).setE 0).putObj (by omega)).putObj (by omega)) rfl rfl, ?_, put_below (put_below (buy_below hs.bl) (by omega)) (by omega)⟩
            rw [buyRet, if_neg (by rw [HV'.out]; decide), if_neg (by rw [HP0.out]; simp), if_neg (by omega), if_neg (Int.not_lt.2 H99.out)]
        case jstop => exact fun _ _ _ _ _ _ _ h => h.elim
    case hstop =>
      rintro D c pre X hD hX hpre ⟨rfl, h0, hbX, hs⟩ hk
      have hne : packsL h ≠ [] := fun e => h0 (by rw [e] at hpre; exact List.prefix_nil.1 hpre)
      gi_wp2
      refine ⟨by simp, .inl ⟨_, _, rfl, run_takeDeferred hk, ?_⟩⟩
      refine ⟨_, results20_of (hs.putObj (k := W1.heap.size) (by omega)) rfl rfl, ?_, ?_⟩
      · rw [buyRet, if_neg (by rw [HV'.out]; decide), if_pos hne]
      · exact hbX.trans (KpB.belowOf (S := fun k => k = W1.heap.size) ((KpB.refl _ _ _).put _ _ (.inl rfl)) hbX.size (fun k hk => by omega))
end Go.Proofs.Ytgemmmdcpbajoaa
namespace Go.Proofs.Ytgemmmdcpbajoaa
open Go.RowKit

/-! Salt, Good, Barrel. -/
theorem wp_region_extW {P : Program} {id : Nat} {Q : Exit → Act → World → Prop} {a : Act} {w : World} {L : List Oper} (hm : P.follows .mixedOrders = true) (hB : Region.lexB .any L.toArray = true)
    (h : wpQuiet P L.toArray (fun w' => ∃ x, w' = extB w x) (fun a' => ∀ w', (∃ x, w' = extB w x) → Q .normal a' w') L a) : (Code.region id L.toArray true).wp P Q a w := wp_region_ext hm hB h
/-- The cask in the block cb, of its own. -/
def CaskBox (W : World) (cb : Nat) (c : Cask) : Prop := W.heap[cb]? = some (.cells #[.int .i64 c.n, .int .i64 c.p, .int .i64 c.s, .int .i64 c.d] 79 (0, 0))
theorem CaskBox.at_ {W : World} {cb : Nat} {c : Cask} (h : CaskBox W cb c) : CaskAt W cb 0 c := by
  have h : W.heap[cb]? = some (.cells #[.int .i64 c.n, .int .i64 c.p, .int .i64 c.s, .int .i64 c.d] 79 (0, 0)) := h
  exact ⟨by simp [World.cell?, h], by simp [World.cell?, h], by simp [World.cell?, h], by simp [World.cell?, h]⟩
theorem CaskBox.lt {W : World} {cb : Nat} {c : Cask} (h : CaskBox W cb c) : cb < W.heap.size := heap_lt h
theorem CaskBox.frozen {W : World} {cb : Nat} {c : Cask} (h : CaskBox W cb c) (o : Nat) : W.frozen? ⟨cb, o, none⟩ = false := by simp [World.frozen?, show W.heap[cb]? = _ from h]
set_option maxRecDepth 100000 in
set_option maxHeartbeats 4000000 in
theorem filled_any (L : HL) (h : House) (hv : HOK h) (l : List Int) (hl : l.length ≤ 100) (hp : PartsOK h l) (A : Option Addr) (c : Nat) (w : World) (hH : HouseAt w w.heap.size L h) (hI : IntsAt w w.heap.size A l) :
    Calls Try.prog 76 #[L.enc h, .slice A l.length c] w fun e w' => e = .returned (caskIn h l).enc ∧ Below w.heap.size w w' := by
  have HH := Lib.hid hH
  have HI := Lib.hid hI
  have HV := Lib.hid hv
  have HP := Lib.hid hp
  clear hH hI hv hp
  go_enter Try.func76, Try.ntmps76
  go_wp2
  go_loopw [10] (fun i wr => ∃ k : Nat, k ≤ l.length ∧ i = .int .i64 k ∧ Below w.heap.size w wr ∧ HBox wr w.heap.size L h ∧ CaskBox wr (w.heap.size + 1) c0 ∧ CaskBox wr (w.heap.size + 1 + 1) (caskIn h (l.take k))) (fun i _ => l.length - (intOf i).toNat)
  case atStart =>
    have hb := HBox.new w L h
    have h1 := World.alloc_heap_new (w.alloc (.cells #[.slice L.Ak h.ks.length L.ck, .int .i64 h.fl, .slice L.Ap h.ps.length L.cp, .slice L.Ab h.bs.length L.cb] 26)) (.cells #[.int .i64 0, .int .i64 0, .int .i64 0, .int .i64 0] 79)
    have h2 := World.alloc_heap_new ((w.alloc (.cells #[.slice L.Ak h.ks.length L.ck, .int .i64 h.fl, .slice L.Ap h.ps.length L.cp, .slice L.Ab h.bs.length L.cb] 26)).alloc (.cells #[.int .i64 0, .int .i64 0, .int .i64 0, .int .i64 0] 79)) (.cells #[.int .i64 0, .int .i64 0, .int .i64 0, .int .i64 0] 79)
    simp only [World.size_alloc] at h1 h2
    exact ⟨0, Nat.zero_le _, rfl, (((Below.refl _ _).alloc (Nat.le_refl _) _).alloc (by simp) _).alloc (by simp; omega) _, (hb.of (Below.heap_alloc _ _ _ (by simp))).of (Below.heap_alloc _ _ _ (by simp; omega)), (Below.heap_alloc _ _ _ (by simp)).trans h1, h2⟩
  case round =>
    obtain ⟨k, hk, rfl, hb, hB, hC0, hC⟩ := hrel
    have hsz := hb.size
    by_cases hlt : k < l.length
    · obtain ⟨x, hx⟩ : ∃ x, l[k]? = some x := ⟨_, List.getElem?_eq_getElem hlt⟩
      obtain ⟨b1, o1, rfl, b1lt, d1⟩ := HI.out.at_ hx
      have e1 := below_cell hb d1
      obtain ⟨x0, x1⟩ := HP.out x (List.mem_of_getElem? hx)
      obtain ⟨xn, rfl⟩ : ∃ xn : Nat, x = (xn : Int) := ⟨x.toNat, by omega⟩
      obtain ⟨kk, p1, p2, p3, p4, p5⟩ := HV.out.part (k := xn) (by omega)
      have htk : l.take (k + 1) = l.take k ++ [(xn : Int)] := (take_snoc_next hx).symm
      have hup := caskIn_upto HV.out (l.take k) (fun i hi => HP.out i (List.mem_of_mem_take hi))
      have hlen : (l.take k).length = k := by simp; omega
      have hcok := hup.ok (by omega)
      obtain ⟨g0, g1, g2, g3⟩ := hB.cells
      have P1 := Lib.hid p1
      have P2 := Lib.hid p2
      have P3 := Lib.hid p3
      have HX := Lib.hid htk
      clear p1 p2 p3 hx htk hup hlen d1
      go_wp2_with (go_at_call 97; go_must (refine (lay_any L h xn kk _ _ (caskIn h (l.take k)) hcok (w.heap.size + 1 + 1) 0 wr #[.int .i64 (caskIn h (l.take k)).n, .int .i64 (caskIn h (l.take k)).p, .int .i64 (caskIn h (l.take k)).s, .int .i64 (caskIn h (l.take k)).d] 79 (HH.out.below hb) P1.out P2.out P3.out p4 p5 ⟨by have := HV.out.pl; omega, by have := HV.out.kl; omega⟩ hC hC.at_).mono ?_); rintro e W5 ⟨⟨v, rfl⟩, r1, r2⟩)
      go_roundw
      case rel =>
        refine ⟨k + 1, by omega, by go_num, hb.trans (r1.belowOf hsz (fun j hj => by omega)), hB.of (r1.block _ hB.lt (by omega)), (r1.block _ hC0.lt (by omega)).trans hC0, ?_⟩
        have : CaskBox W5 (w.heap.size + 1 + 1) (layAt h (caskIn h (l.take k)) xn) := by
          unfold CaskBox
          rw [r2]
          simp [layAt]
        rw [HX.out, caskIn_snoc]
        exact this
      case measure => simp [intOf]; omega
    · obtain rfl : k = l.length := by omega
      rw [List.take_length] at hC
      have hA := hC.at_
      obtain ⟨q0, q1, q2, q3⟩ := hA
      obtain ⟨r0, r1, r2, r3⟩ := hC0.at_
      have f0 := hC0.frozen
      have hl0 := hC0.lt
      simp only [Nat.zero_add] at q1 q2 q3 r1 r2 r3
      go_wp2
      refine bodyPost_ret (v := (caskIn h l).enc) ?_ rfl ⟨rfl, ?_⟩
      · simp [results, Try.results76, go_sem, *]
      · exact (((hb.setCell (by simp) _).setCell (by simp) _).setCell (by simp) _).setCell (by simp) _

/-- Numbers from 0 to n - 1, strictly ascending. -/
def riseOK (l : List Int) (n : Int) (k : Nat) : Bool := inR (l.getD k 0) 0 (n - 1) && (k == 0 || decide (l.getD (k - 1) 0 < l.getD k 0))
def riseB (l : List Int) (n : Int) : Bool := (List.range l.length).all (riseOK l n)
theorem riseB_no {l : List Int} {n : Int} {k : Nat} (hk : k < l.length) (h : riseOK l n k = false) : riseB l n = false := by
  rw [riseB, List.all_eq_false]; exact ⟨k, List.mem_range.2 hk, by simp [h]⟩
theorem riseB_yes {l : List Int} {n : Int} (h : ∀ k, k < l.length → riseOK l n k = true) : riseB l n = true := by
  rw [riseB, List.all_eq_true]; exact fun k hk => h k (List.mem_range.1 hk)
theorem riseB_at {l : List Int} {n : Int} (h : riseB l n = true) {k : Nat} (hk : k < l.length) : riseOK l n k = true := List.all_eq_true.1 h k (List.mem_range.2 hk)
theorem riseB_in {l : List Int} {n : Int} (h : riseB l n = true) : ∀ i ∈ l, 0 ≤ i ∧ i < n := fun i hi => by
  obtain ⟨k, hk⟩ := List.getElem?_of_mem hi
  have h1 := riseB_at h (List.getElem?_eq_some_iff.1 hk).1
  simp only [riseOK, Bool.and_eq_true, inR_true, List.getD, hk, Option.getD_some] at h1
  omega
theorem riseB_lt {l : List Int} {n : Int} (h : riseB l n = true) {k : Nat} (hk : k + 1 < l.length) : l.getD k 0 < l.getD (k + 1) 0 := by
  have h1 := riseB_at h hk
  simp only [riseOK, Bool.and_eq_true] at h1
  simpa using h1.2
theorem riseB_ge {l : List Int} {n : Int} (h : riseB l n = true) : ∀ k, k < l.length → (k : Int) ≤ l.getD k 0
  | 0, hk => by
    have := riseB_in h (l.getD 0 0) (by simp [List.getD, List.getElem?_eq_getElem hk])
    omega
  | k + 1, hk => by
    have := riseB_ge h k (by omega)
    have := riseB_lt h hk
    omega
theorem riseB_len {l : List Int} {n : Nat} (h : riseB l n = true) : l.length ≤ n := by
  rcases Nat.eq_zero_or_pos l.length with e | e
  · omega
  · have h1 := riseB_ge h (l.length - 1) (by omega)
    have h2 := riseB_in h (l.getD (l.length - 1) 0) (by simp [List.getD, List.getElem?_eq_getElem (show l.length - 1 < l.length by omega)])
    omega
def saltRet (h : House) (l : List Int) : Int × Int :=
  if validH h = false then (0, 80) else if riseB l h.ps.length = false then (0, 1) else (saltC h.fl (caskIn h l), 0)
set_option maxRecDepth 100000 in
set_option maxHeartbeats 4000000 in
theorem salt_any (L : HL) (h : House) (hn : h.ks.length ≤ 1000 ∧ h.ps.length ≤ 1000 ∧ h.bs.length ≤ 1000) (l : List Int) (hl : l.length ≤ 1000) (A : Option Addr) (c : Nat) (w : World) (hH : HouseAt w w.heap.size L h) (hI : IntsAt w w.heap.size A l) :
    Calls Try.prog 25 #[L.enc h, .slice A l.length c] w fun e w' => e = .returned (.tuple #[.int .i64 (saltRet h l).1, .int .i64 (saltRet h l).2]) ∧ Below w.heap.size w w' := by
  have hbw := (Below.refl _ _).alloc (Nat.le_refl w.heap.size) (.cells #[.slice L.Ak h.ks.length L.ck, .int .i64 h.fl, .slice L.Ap h.ps.length L.cp, .slice L.Ab h.bs.length L.cb] 26)
  have HC := Lib.hid (check_any L h hn _ (hH.below hbw))
  have HB := Lib.hid (HBox.new w L h)
  have HBW := Lib.hid hbw
  have HH := Lib.hid hH
  have HI := Lib.hid hI
  have hp1000 := hn.2.1
  clear hbw hH hI
  cases hv : validH h
  · have hk : ckH h = 80 := ckH_no hv
    have HV := Lib.hid hv
    clear hv
    go_enter Try.func25, Try.ntmps25
    go_wp2_with (go_at_call 28; refine HC.out.mono ?_; rintro e w1 ⟨rfl, hb1⟩)
    go_ret2
    exact ⟨by rw [saltRet, if_pos HV.out]; rfl, hb0to HBW.out hb1⟩
  · have hk : ckH h = 0 := ckH_yes hv
    have HV := Lib.hid (HOK.ofValid hv)
    have HV' := Lib.hid hv
    clear hv
    go_enter Try.func25, Try.ntmps25
    go_wp2_with (go_at_call 28; refine HC.out.mono ?_; rintro e w1 ⟨rfl, hb1⟩)
    have hb1w := hb0to HBW.out hb1
    have hX1 := HB.out.of (hb1.block _ HB.out.lt)
    go_loopw [16] (fun i wr => ∃ k : Nat, k ≤ l.length ∧ i = .int .i64 k ∧ Hid (∀ j, j < k → riseOK l h.ps.length j = true) ∧ Below w.heap.size w wr ∧ HBox wr w.heap.size L h) (fun i _ => l.length - (intOf i).toNat)
    case atStart => exact ⟨0, Nat.zero_le _, rfl, Lib.hid (fun j hj => by omega), hb1w, hX1⟩
    case round =>
      clear hb1 hb1w hX1
      obtain ⟨k, hk', rfl, hok, hb, hB⟩ := hrel
      have hsz := hb.size
      obtain ⟨g0, g1, g2, g3⟩ := hB.cells
      by_cases hlt : k < l.length
      · obtain ⟨x, hx⟩ : ∃ x, l[k]? = some x := ⟨_, List.getElem?_eq_getElem hlt⟩
        have hgx : l.getD k 0 = x := by simp [List.getD, hx]
        have hI := HI.out
        obtain ⟨b1, o1, rfl, b1lt, d1⟩ := HI.out.at_ hx
        have e1 := below_cell hb d1
        cases hr : inR x 0 (h.ps.length - 1)
        · have hno : Hid (riseOK l h.ps.length k = false) := Lib.hid (by rw [riseOK, hgx, hr]; rfl)
          clear hx hgx hI d1
          go_wp2_with (go_at_call 75; refine (isPart_any L h _ _ hp1000).mono ?_; rintro e w2 ⟨rfl, hb2⟩)
          go_ret2
          exact ⟨by rw [saltRet, if_neg (by rw [HV'.out]; decide), if_pos (riseB_no hlt hno.out)]; rfl, hb0to hb hb2⟩
        · rcases Nat.eq_zero_or_pos k with rfl | hk0
          · have hyes : Hid (riseOK l h.ps.length 0 = true) := Lib.hid (by rw [riseOK, hgx, hr]; rfl)
            simp only [Nat.add_zero] at e1
            clear hx hgx hI d1
            go_wp2_with (go_at_call 75; refine (isPart_any L h _ _ hp1000).mono ?_; rintro e w2 ⟨rfl, hb2⟩)
            go_roundw
            case rel => exact ⟨1, by omega, by go_num, Lib.hid (fun j hj => by obtain rfl : j = 0 := (by omega); exact hyes.out), hb0to hb hb2, hB.of (hb2.block _ hB.lt)⟩
            case measure => simp [intOf]; omega
          · obtain ⟨y, hy⟩ : ∃ y, l[k - 1]? = some y := ⟨_, List.getElem?_eq_getElem (by omega)⟩
            have hgy : l.getD (k - 1) 0 = y := by simp [List.getD, hy]
            obtain ⟨b1', o1', e', _, d2⟩ := hI.at_ hy
            cases e'
            have hd0 : decide (0 < k) = true := by simp; omega
            have ht : ((k : Int) - 1).toNat = k - 1 := by omega
            have ht2 : (0 : Int) ≤ (k : Int) - 1 := by omega
            have ht3 : (1 : Int) ≤ (k : Int) := by omega
            have ec : (k : Int) - 1 = ((k - 1 : Nat) : Int) := by omega
            have e2 := below_cell hb d2
            by_cases hxy : x ≤ y
            · have hdx : decide (x ≤ y) = true := by simpa using hxy
              have hno : Hid (riseOK l h.ps.length k = false) := Lib.hid (by rw [riseOK, hgx, hgy, hr]; simp; omega)
              clear hx hgx hy hgy hI d1 d2
              go_wp2_with (go_at_call 75; refine (isPart_any L h _ _ hp1000).mono ?_; rintro e w2 ⟨rfl, hb2⟩; have e3 := below_cell hb2 e2)
              go_ret2
              exact ⟨by rw [saltRet, if_neg (by rw [HV'.out]; decide), if_pos (riseB_no hlt hno.out)]; rfl, hb0to hb hb2⟩
            · have hdx : decide (x ≤ y) = false := by simpa using hxy
              have hyes : Hid (riseOK l h.ps.length k = true) := Lib.hid (by rw [riseOK, hgx, hgy, hr]; simp; omega)
              clear hx hgx hy hgy hI d1 d2
              go_wp2_with (go_at_call 75; refine (isPart_any L h _ _ hp1000).mono ?_; rintro e w2 ⟨rfl, hb2⟩; have e3 := below_cell hb2 e2)
              go_roundw
              case rel => exact ⟨k + 1, by omega, by go_num, Lib.hid (fun j hj => by by_cases e : j = k; exact e ▸ hyes.out; exact hok.out j (by omega)), hb0to hb hb2, hB.of (hb2.block _ hB.lt)⟩
              case measure => simp [intOf]; omega
      · obtain rfl : k = l.length := by omega
        have hrise := riseB_yes hok.out
        have hpo : PartsOK h l := riseB_in hrise
        have hl6 := riseB_len hrise
        have hpl := HV.out.pl
        have hcok := (caskIn_upto HV.out l hpo).ok (by omega)
        have HR := Lib.hid hrise
        have HPO := Lib.hid hpo
        have HF0 := Lib.hid (And.intro HV.out.f0 HV.out.f1)
        have e0 := extB_cell g0
        have e1 := extB_cell g1
        have e2 := extB_cell g2
        have e3 := extB_cell g3
        clear hok hrise hpo
        go_wp2
        refine wp_region_extW (by kernel_rfl) (by kernel_rfl) ?_
        repeat (go_big_quiet_step (first
          | (go_at_call 76; exact ext_call (filled_any L h HV.out l (by omega) HPO.out A c _ (extB_house (HH.out.below hb) (Nat.le_refl _)) ((HI.out.keep (Nat.le_trans hsz (extB_below wr _).size) fun b o hlt => by exact ((extB_below wr _).cell (p := ⟨b, o, none⟩) (by show b < wr.heap.size; omega)).trans (hb.cell (p := ⟨b, o, none⟩) hlt)))))
          | (go_at_call 74; exact ext_call (saltC_any _ h.fl hcok HF0.out _))))
        refine wpQuiet_nil ?_
        rintro _ ⟨x1, rfl⟩
        have hb8 := extB_below wr x1
        clear e0 e1 e2 e3
        go_wp2
        go_ret2
        exact ⟨by rw [saltRet, if_neg (by rw [HV'.out]; decide), if_neg (by rw [HR.out]; decide)]; rfl, hb0to hb hb8⟩
/-- A list is a packing. -/
def goodB (h : House) (pack : List Int) : Bool := decide (pack.length = h.ps.length) && (pack.all (fun b => inR b 0 (h.bs.length - 1)) && fitsC h (packedC h pack))
theorem any_not_all2 (l : List Int) (p : Int → Bool) : l.any (fun x => !p x) = !l.all p := by rw [Bool.eq_iff_iff]; simp
theorem packed_of_good (L : HL) (h : House) (hv : HOK h) (pack : List Int) (hl : pack.length = h.ps.length) (hr : pack.all (fun b => inR b 0 (h.bs.length - 1)) = true) (A : Option Addr) (c : Nat) (w : World)
    (hH : HouseAt w w.heap.size L h) (hP : IntsAt w w.heap.size A pack) :
    Calls Try.prog 83 #[L.enc h, .slice A pack.length c] w fun e w' => e = .returned (encCs (packedC h pack)) ∧ Below w.heap.size w w' :=
  packed_any L h hv pack hl (fun k b hb => by
    have := inR_true.1 (List.all_eq_true.1 hr b (List.mem_of_getElem? hb))
    have := hv.bl
    omega) A c w hH hP
set_option maxRecDepth 100000 in
set_option maxHeartbeats 4000000 in
theorem good_any (L : HL) (h : House) (hv : HOK h) (pack : List Int) (hl : pack.length ≤ 1000) (A : Option Addr) (c : Nat) (w : World) (hH : HouseAt w w.heap.size L h) (hI : IntsAt w w.heap.size A pack) :
    Calls Try.prog 81 #[L.enc h, .slice A pack.length c] w fun e w' => e = .returned (.bool (goodB h pack)) ∧ Below w.heap.size w w' := by
  have hb0 := (Below.refl _ _).alloc (Nat.le_refl w.heap.size) (.cells #[.slice L.Ak h.ks.length L.ck, .int .i64 h.fl, .slice L.Ap h.ps.length L.cp, .slice L.Ab h.bs.length L.cb] 26)
  have hX := HBox.new w L h
  have hbl := hv.bl
  have HX := Lib.hid hX
  have HB0 := Lib.hid hb0
  obtain ⟨g0, g1, g2, g3⟩ := hX.cells
  have e0 := extB_cell g0
  have e1 := extB_cell g1
  have e2 := extB_cell g2
  have e3 := extB_cell g3
  have HV := Lib.hid hv
  have hH1 := hH.below hb0
  have hI1 : IntsAt (w.alloc (.cells #[.slice L.Ak h.ks.length L.ck, .int .i64 h.fl, .slice L.Ap h.ps.length L.cp, .slice L.Ab h.bs.length L.cb] 26)) (w.alloc (.cells #[.slice L.Ak h.ks.length L.ck, .int .i64 h.fl, .slice L.Ap h.ps.length L.cp, .slice L.Ab h.bs.length L.cb] 26)).heap.size A pack := hI.keep hb0.size fun b o hlt => hb0.cell (p := ⟨b, o, none⟩) hlt
  have HH := Lib.hid hH1
  have HI := Lib.hid hI1
  obtain ⟨W1, hW1⟩ : ∃ W1, W1 = w.alloc (.cells #[.slice L.Ak h.ks.length L.ck, .int .i64 h.fl, .slice L.Ap h.ps.length L.cp, .slice L.Ab h.bs.length L.cb] 26) := ⟨_, rfl⟩
  rw [← hW1] at HX HB0 HH HI e0 e1 e2 e3
  have hIe : ∀ x, IntsAt (extB W1 x) (extB W1 x).heap.size A pack := fun x => HI.out.keep (extB_below W1 x).size fun b o hlt => (extB_below W1 x).cell (p := ⟨b, o, none⟩) hlt
  have HIE := Lib.hid hIe
  have HW := Lib.hid hW1
  clear hX hb0 g0 g1 g2 g3 hv hH hI hH1 hI1 hIe hW1
  by_cases hlen : pack.length = h.ps.length
  · have hd1 : ((pack.length : Int) == (h.ps.length : Int)) = true := by simp; omega
    have HLEN := Lib.hid hlen
    cases hall : pack.all (fun b => inR b 0 (h.bs.length - 1))
    · have hany : (pack.any fun x => !inR x 0 (h.bs.length - 1)) = true := by rw [any_not_all2, hall]; rfl
      have HANY := Lib.hid hany
      have HALL := Lib.hid hall
      clear hall hlen
      go_enter Try.func81, Try.ntmps81
      go_wp2
      rw [← HW.out]
      refine wp_region_extW (by kernel_rfl) (by kernel_rfl) ?_
      repeat (go_big_quiet_step (first
        | (go_at_call 77; exact ext_call (contains99_any L h (by omega) w.heap.size A c pack hl _ (HIE.out _) (HX.out.of ((extB_below W1 _).block _ HX.out.lt))))
        ))
      refine wpQuiet_nil ?_
      rintro _ ⟨x1, rfl⟩
      have hb8 := hb0to HB0.out (extB_below W1 x1)
      clear e0 e1 e2 e3
      go_wp2
      go_ret
      exact ⟨by rw [goodB, HALL.out]; simp, hb8⟩
    · have hany : (pack.any fun x => !inR x 0 (h.bs.length - 1)) = false := by rw [any_not_all2, hall]; rfl
      have HANY := Lib.hid hany
      have HALL := Lib.hid hall
      clear hall hlen
      have hg : goodB h pack = fitsC h (packedC h pack) := by rw [goodB, HALL.out, HLEN.out]; simp
      have HG := Lib.hid hg
      clear hg
      go_enter Try.func81, Try.ntmps81
      go_wp2
      rw [← HW.out]
      refine wp_region_extW (by kernel_rfl) (by kernel_rfl) ?_
      repeat (go_big_quiet_step (first
        | (go_at_call 77; exact ext_call (contains99_any L h (by omega) w.heap.size A c pack hl _ (HIE.out _) (HX.out.of ((extB_below W1 _).block _ HX.out.lt))))
        | (go_at_call 83; exact ext_call (packed_of_good L h HV.out pack HLEN.out HALL.out A c _ (extB_house HH.out (Nat.le_refl _)) (HIE.out _)))
        | (go_at_call 67; exact ext_call (fits_any L h HV.out _ (packedC_len h pack) (packedC_ok HV.out pack) _ (extB_house HH.out (Nat.le_refl _))))))
      refine wpQuiet_nil ?_
      rintro _ ⟨x1, rfl⟩
      have hb8 := hb0to HB0.out (extB_below W1 x1)
      clear e0 e1 e2 e3
      go_wp2
      go_ret
      exact ⟨by rw [HG.out]; rfl, hb8⟩
  · have hd1 : ((pack.length : Int) == (h.ps.length : Int)) = false := by simp; omega
    have HLEN := Lib.hid hlen
    clear hlen
    go_enter Try.func81, Try.ntmps81
    go_wp2
    rw [← HW.out]
    refine wp_region_extW (by kernel_rfl) (by kernel_rfl) ?_
    repeat (go_big_quiet_step (fail))
    refine wpQuiet_nil ?_
    rintro _ ⟨x1, rfl⟩
    have hb8 := hb0to HB0.out (extB_below W1 x1)
    clear e0 e1 e2 e3
    go_wp2
    go_ret
    exact ⟨by rw [goodB, decide_eq_false HLEN.out]; rfl, hb8⟩
def goodRet (h : House) (pack : List Int) : Bool × Int := if validH h = false then (false, 80) else (goodB h pack, 0)
set_option maxRecDepth 100000 in
set_option maxHeartbeats 4000000 in
theorem Good_any (L : HL) (h : House) (hn : h.ks.length ≤ 1000 ∧ h.ps.length ≤ 1000 ∧ h.bs.length ≤ 1000) (pack : List Int) (hl : pack.length ≤ 1000) (A : Option Addr) (c : Nat) (w : World) (hH : HouseAt w w.heap.size L h) (hI : IntsAt w w.heap.size A pack) :
    Calls Try.prog 31 #[L.enc h, .slice A pack.length c] w fun e w' => e = .returned (.tuple #[.bool (goodRet h pack).1, .int .i64 (goodRet h pack).2]) ∧ Below w.heap.size w w' := by
  have hbw := (Below.refl _ _).alloc (Nat.le_refl w.heap.size) (.cells #[.slice L.Ak h.ks.length L.ck, .int .i64 h.fl, .slice L.Ap h.ps.length L.cp, .slice L.Ab h.bs.length L.cb] 26)
  have HC := Lib.hid (check_any L h hn _ (hH.below hbw))
  have HB := Lib.hid (HBox.new w L h)
  have HBW := Lib.hid hbw
  have HH := Lib.hid hH
  have HI := Lib.hid hI
  clear hbw hH hI
  cases hv : validH h
  · have hk : ckH h = 80 := ckH_no hv
    have HV := Lib.hid hv
    clear hv
    go_enter Try.func31, Try.ntmps31
    go_wp2_with (go_at_call 28; refine HC.out.mono ?_; rintro e w1 ⟨rfl, hb1⟩)
    go_ret2
    exact ⟨by rw [goodRet, if_pos HV.out]; rfl, hb0to HBW.out hb1⟩
  · have hk : ckH h = 0 := ckH_yes hv
    have HV := Lib.hid (HOK.ofValid hv)
    have HV' := Lib.hid hv
    clear hv
    go_enter Try.func31, Try.ntmps31
    go_wp2_with (first
      | (go_at_call 28; refine HC.out.mono ?_; rintro e w1 ⟨rfl, hb1⟩; obtain ⟨g0, g1, g2, g3⟩ := (HB.out.of (hb1.block _ HB.out.lt)).cells)
      | (go_at_call 81; refine (good_any L h HV.out pack hl A c _ (HH.out.below (hb0to HBW.out hb1)) (HI.out.keep (hb0to HBW.out hb1).size fun b o hlt => (hb0to HBW.out hb1).cell (p := ⟨b, o, none⟩) hlt)).mono ?_; rintro e w2 ⟨rfl, hb2⟩))
    go_ret2
    exact ⟨by rw [goodRet, if_neg (by rw [HV'.out]; decide)]; rfl, hb0to HBW.out (hb0to hb1 hb2)⟩
/-- What Barrel returns: pounds, salt, days, the error. -/
def barrelRet (h : House) (pack : List Int) (b : Int) : Int × Int × Int × Int :=
  if validH h = false then (0, 0, 0, 80) else if (goodB h pack && inR b 0 (h.bs.length - 1)) = false then (0, 0, 0, 1) else
    ((caskOf (packedC h pack) b.toNat).p, saltC h.fl (caskOf (packedC h pack) b.toNat), (caskOf (packedC h pack) b.toNat).d, 0)
set_option maxRecDepth 100000 in
set_option maxHeartbeats 4000000 in
theorem barrel_any (L : HL) (h : House) (hn : h.ks.length ≤ 1000 ∧ h.ps.length ≤ 1000 ∧ h.bs.length ≤ 1000) (pack : List Int) (hl : pack.length ≤ 1000) (b : Int) (A : Option Addr) (c : Nat) (w : World) (hH : HouseAt w w.heap.size L h) (hI : IntsAt w w.heap.size A pack) :
    Calls Try.prog 33 #[L.enc h, .slice A pack.length c, .int .i64 b] w fun e w' => e = .returned (.tuple #[.int .i64 (barrelRet h pack b).1, .int .i64 (barrelRet h pack b).2.1, .int .i64 (barrelRet h pack b).2.2.1, .int .i64 (barrelRet h pack b).2.2.2]) ∧ Below w.heap.size w w' := by
  have hbw := (Below.refl _ _).alloc (Nat.le_refl w.heap.size) (.cells #[.slice L.Ak h.ks.length L.ck, .int .i64 h.fl, .slice L.Ap h.ps.length L.cp, .slice L.Ab h.bs.length L.cb] 26)
  have HC := Lib.hid (check_any L h hn _ (hH.below hbw))
  have HB := Lib.hid (HBox.new w L h)
  have HBW := Lib.hid hbw
  have HH := Lib.hid hH
  have HI := Lib.hid hI
  have hIk : ∀ W, Below w.heap.size w W → IntsAt W W.heap.size A pack := fun W hW => HI.out.keep hW.size fun b o hlt => hW.cell (p := ⟨b, o, none⟩) hlt
  have HIK := Lib.hid hIk
  clear hbw hH hI hIk
  cases hv : validH h
  · have hk : ckH h = 80 := ckH_no hv
    have HV := Lib.hid hv
    clear hv
    go_enter Try.func33, Try.ntmps33
    go_wp2_with (go_at_call 28; refine HC.out.mono ?_; rintro e w1 ⟨rfl, hb1⟩)
    refine bodyPost_ret (v := .tuple #[.int .i64 0, .int .i64 0, .int .i64 0, .int .i64 80]) (by simp [results, Try.results33, go_sem]) rfl ⟨by rw [barrelRet, if_pos HV.out], hb0to HBW.out hb1⟩
  · have hk : ckH h = 0 := ckH_yes hv
    have HV := Lib.hid (HOK.ofValid hv)
    have HV' := Lib.hid hv
    clear hv
    cases hg : goodB h pack
    · have HG := Lib.hid hg
      go_enter Try.func33, Try.ntmps33
      go_wp2_with (first
        | (go_at_call 28; refine HC.out.mono ?_; rintro e w1 ⟨rfl, hb1⟩; obtain ⟨g0, g1, g2, g3⟩ := (HB.out.of (hb1.block _ HB.out.lt)).cells)
        | (go_at_call 81; refine (good_any L h HV.out pack hl A c _ (HH.out.below (hb0to HBW.out hb1)) (HIK.out _ (hb0to HBW.out hb1))).mono ?_; rintro e w2 ⟨rfl, hb2⟩))
      refine bodyPost_ret (v := .tuple #[.int .i64 0, .int .i64 0, .int .i64 0, .int .i64 1]) (by simp [results, Try.results33, go_sem]) rfl ⟨by rw [barrelRet, if_neg (by rw [HV'.out]; decide), HG.out]; rfl, hb0to HBW.out (hb0to hb1 hb2)⟩
    · have HG := Lib.hid hg
      have hb1000 := hn.2.2
      cases hr : inR b 0 (h.bs.length - 1)
      · have HR := Lib.hid hr
        go_enter Try.func33, Try.ntmps33
        go_wp2_with (first
          | (go_at_call 28; refine HC.out.mono ?_; rintro e w1 ⟨rfl, hb1⟩; obtain ⟨g0, g1, g2, g3⟩ := (HB.out.of (hb1.block _ HB.out.lt)).cells)
          | (go_at_call 81; refine (good_any L h HV.out pack hl A c _ (HH.out.below (hb0to HBW.out hb1)) (HIK.out _ (hb0to HBW.out hb1))).mono ?_; rintro e w2 ⟨rfl, hb2⟩; have x0 := below_cell hb2 g0; have x1 := below_cell hb2 g1; have x2 := below_cell hb2 g2; have x3 := below_cell hb2 g3)
          | (go_at_call 82; refine (isBarrel_any L h _ _ hb1000).mono ?_; rintro e w3 ⟨rfl, hb3⟩))
        refine bodyPost_ret (v := .tuple #[.int .i64 0, .int .i64 0, .int .i64 0, .int .i64 1]) (by simp [results, Try.results33, go_sem]) rfl ⟨by rw [barrelRet, if_neg (by rw [HV'.out]; decide), HG.out, HR.out]; rfl, hb0to HBW.out (hb0to hb1 (hb0to hb2 hb3))⟩
      · obtain ⟨hb0, hbl⟩ := inR_true.1 hr
        obtain ⟨bn, rfl⟩ : ∃ bn : Nat, b = (bn : Int) := ⟨b.toNat, by omega⟩
        have hb5 : bn < 5 := by have := HV.out.bl; omega
        have HR := Lib.hid hr
        have hl5 := packedC_len h pack
        have hix := index81 hl5 hb5
        have hgl : pack.length = h.ps.length ∧ pack.all (fun b => inR b 0 (h.bs.length - 1)) = true := by
          simp only [goodB, Bool.and_eq_true, decide_eq_true_eq] at hg
          exact ⟨hg.1, hg.2.1⟩
        have HGL := Lib.hid hgl
        have hcok := packedC_ok HV.out pack bn _ (at_caskOf (by omega))
        have HCK := Lib.hid hcok
        have HF0 := Lib.hid (And.intro HV.out.f0 HV.out.f1)
        have hbr : barrelRet h pack bn = ((caskOf (packedC h pack) bn).p, saltC h.fl (caskOf (packedC h pack) bn), (caskOf (packedC h pack) bn).d, 0) := by
          rw [barrelRet, if_neg (by rw [HV'.out]; decide), HG.out, HR.out, if_neg (by decide), Int.toNat_natCast]
        have HBR := Lib.hid hbr
        clear hgl hl5 hcok hbr hb0 hbl
        go_enter Try.func33, Try.ntmps33
        go_wp2_with (first
          | (go_at_call 28; refine HC.out.mono ?_; rintro e w1 ⟨rfl, hb1⟩; obtain ⟨g0, g1, g2, g3⟩ := (HB.out.of (hb1.block _ HB.out.lt)).cells)
          | (go_at_call 81; refine (good_any L h HV.out pack hl A c _ (HH.out.below (hb0to HBW.out hb1)) (HIK.out _ (hb0to HBW.out hb1))).mono ?_; rintro e w2 ⟨rfl, hb2⟩; have x0 := below_cell hb2 g0; have x1 := below_cell hb2 g1; have x2 := below_cell hb2 g2; have x3 := below_cell hb2 g3)
          | (go_at_call 82; refine (isBarrel_any L h _ _ hb1000).mono ?_; rintro e w3 ⟨rfl, hb3⟩; have y0 := below_cell hb3 x0; have y1 := below_cell hb3 x1; have y2 := below_cell hb3 x2; have y3 := below_cell hb3 x3)
          | (go_at_call 83; refine (packed_of_good L h HV.out pack HGL.out.1 HGL.out.2 A c _ (HH.out.below (hb0to HBW.out (hb0to hb1 (hb0to hb2 hb3)))) (HIK.out _ (hb0to HBW.out (hb0to hb1 (hb0to hb2 hb3))))).mono ?_; rintro e w4 ⟨rfl, hb4⟩))
        have z1 := below_cell hb4 y1
        have hcb : CaskBox (w4.alloc (.cells #[.int .i64 (caskOf (packedC h pack) bn).n, .int .i64 (caskOf (packedC h pack) bn).p, .int .i64 (caskOf (packedC h pack) bn).s, .int .i64 (caskOf (packedC h pack) bn).d] 79)) w4.heap.size (caskOf (packedC h pack) bn) := World.alloc_heap_new w4 _
        obtain ⟨r0, r1, r2, r3⟩ := hcb.at_
        simp only [Nat.zero_add] at r1 r2 r3
        have z2 := below_cell ((Below.refl _ w4).alloc (Nat.le_refl _) (.cells #[.int .i64 (caskOf (packedC h pack) bn).n, .int .i64 (caskOf (packedC h pack) bn).p, .int .i64 (caskOf (packedC h pack) bn).s, .int .i64 (caskOf (packedC h pack) bn).d] 79)) z1
        have hbz := hb0to HBW.out (hb0to hb1 (hb0to hb2 (hb0to hb3 (hb0to hb4 ((Below.refl _ w4).alloc (Nat.le_refl _) (.cells #[.int .i64 (caskOf (packedC h pack) bn).n, .int .i64 (caskOf (packedC h pack) bn).p, .int .i64 (caskOf (packedC h pack) bn).s, .int .i64 (caskOf (packedC h pack) bn).d] 79))))))
        obtain ⟨W5, hW5⟩ : ∃ W5, w4.alloc (.cells #[.int .i64 (caskOf (packedC h pack) bn).n, .int .i64 (caskOf (packedC h pack) bn).p, .int .i64 (caskOf (packedC h pack) bn).s, .int .i64 (caskOf (packedC h pack) bn).d] 79) = W5 := ⟨_, rfl⟩
        rw [hW5] at r0 r1 r2 r3 z2 hbz ⊢
        have e0 := extB_cell r0
        have e1 := extB_cell r1
        have e2 := extB_cell r2
        have e3 := extB_cell r3
        have e4 := extB_cell z2
        clear hW5 hcb r0 r1 r2 r3 z1 z2 y0 y1 y2 y3 x0 x1 x2 x3 g0 g1 g2 g3
        refine wp_region_extW (by kernel_rfl) (by kernel_rfl) ?_
        repeat (go_big_quiet_step ((go_at_call 74; exact ext_call (saltC_any _ h.fl HCK.out HF0.out _))))
        refine wpQuiet_nil ?_
        rintro _ ⟨x1, rfl⟩
        have hb8 := extB_below W5 x1
        clear e0 e1 e2 e3 e4
        go_wp2
        refine bodyPost_ret (v := .tuple #[.int .i64 (caskOf (packedC h pack) bn).p, .int .i64 (saltC h.fl (caskOf (packedC h pack) bn)), .int .i64 (caskOf (packedC h pack) bn).d, .int .i64 0]) (by simp [results, Try.results33, go_sem]) rfl ⟨by rw [HBR.out], hb0to hbz hb8⟩
end Go.Proofs.Ytgemmmdcpbajoaa
