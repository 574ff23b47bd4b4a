import Derived.ArgAppend
import Derived.Test.YtgemmmdcpbajoaaT9
namespace Go.Proofs.Ytgemmmdcpbajoaa
open Go.RowKit
attribute [local go_sem] Oper.semAt_some

theorem wpIn_region_tailX {P : Program} {k n id : Nat} {Q : Exit → Act → World → Prop} {a : Act} {w : World} {L : List Oper} (N : Nat) (hL : L = L.take N ++ [L.getD N default]) (hQ : ¬ LetsOut Q) (hd : noDefer L = true) (hm : P.follows .mixedOrders = true) (hl : lastOK (L.take N).length (L.getD N default) = true) (hb : backB L = true) (hB : Region.lexB .any (L.take N ++ [idle (L.getD N default)]).toArray = true)
    (h : wpQuiet P (L.take N ++ [idle (L.getD N default)]).toArray (fun w' => ∃ x, w' = extB w x) (fun a' => ∀ w', (∃ x, w' = extB w x) → (L.getD N default).wp P a' w' (fun a'' w'' => Q .normal a'' w'') Q) (L.take N) a) : (Code.region id L.toArray true).wpIn (Fence.wide.inRound k) n P Q a w :=
  wpIn_region_tail (C := fun w' => ∃ x, w' = extB w x) _ _ hL hQ hd hm hl hb hB (extB_of (Below.refl _ w).drew) h
theorem casksTo_congr {h g : House} (hk : h.ks = g.ks) (hp : h.ps = g.ps) (pack : List Int) : ∀ k, casksTo h pack k = casksTo g pack k
  | 0 => rfl
  | k + 1 => by
    have e1 : partOf h k = partOf g k := by simp [partOf, hp]
    have e2 : ∀ p, kindOf h p = kindOf g p := fun p => by simp [kindOf, hk]
    rw [casksTo, casksTo, casksTo_congr hk hp pack k, e1, e2]
theorem packedC_congr {h g : House} (hk : h.ks = g.ks) (hp : h.ps = g.ps) (pack : List Int) : packedC h pack = packedC g pack := by
  unfold packedC; rw [hp]; exact casksTo_congr hk hp pack _
/-- A house with one more barrel, of size 0. -/
def more0 (h : House) : House := { h with bs := h.bs ++ [0] }
theorem HOK.more0 {h : House} (hv : HOK h) (hb : h.bs.length < 4) : HOK (more0 h) :=
  ⟨hv.kl, hv.f0, hv.f1, hv.pl, by show (h.bs ++ [0]).length ≤ 4; simp; omega, hv.k, hv.p, fun i x hx => by
    have hx : (h.bs ++ [0])[i]? = some x := hx
    by_cases e : i < h.bs.length
    · rw [List.getElem?_append_left e] at hx; exact hv.b i x hx
    · rw [List.getElem?_append_right (by omega)] at hx
      have := List.mem_of_getElem? hx
      simp at this
      omega⟩
/-- What Buy returns. -/
def needAt (h : House) (k : Nat) (p : List Int) : Int := (caskOf (packedC h p) k).p + saltC h.fl (caskOf (packedC h p) k)
def buyF (h : House) (m : Int) (p : List Int) : Int := if fitsC h (packedC h p) then (if needAt h h.bs.length p < m then needAt h h.bs.length p else m) else m
def buyL (h : House) (l : List (List Int)) : Int := l.foldl (buyF h) 100
theorem buyL_snoc (h : House) (l : List (List Int)) (p : List Int) : buyL h (l ++ [p]) = buyF h (buyL h l) p := by simp [buyL]
def buyRet (h : House) : Int × Int :=
  if validH h = false then (0, 80) else if packsL h ≠ [] then (0, 0) else if h.bs.length = 4 then (0, 2) else
    if 99 < buyL h (allS 0 (h.bs.length + 1) h.ps.length) then (0, 3) else (buyL h (allS 0 (h.bs.length + 1) h.ps.length), 0)
theorem needAt_bd {h : House} (hv : HOK h) {k : Nat} (hk : k < 5) (p : List Int) : 0 ≤ needAt h k p ∧ needAt h k p ≤ 20000 := by
  have hc := packedC_ok hv p k _ (at_caskOf (by rw [packedC_len]; exact hk))
  have := saltC_bd hc ⟨hv.f0, hv.f1⟩
  have := hc.p0
  have := hc.p1
  unfold needAt; omega
theorem buyL_bd {h : House} (hv : HOK h) (hb : h.bs.length < 4) : ∀ l, 0 ≤ buyL h l ∧ buyL h l ≤ 100 := fun l => by
  refine snoc_ind (P := fun l => 0 ≤ buyL h l ∧ buyL h l ≤ 100) (by simp [buyL]) (fun l x ih => ?_) l
  rw [buyL_snoc]
  have := needAt_bd hv (show h.bs.length < 5 by omega) x
  unfold buyF
  split
  · split <;> omega
  · exact ih
/-- 'append(s[:n:n], x)'. -/
theorem run_app0 {w : World} (ty : TypeId) (A : Option Addr) (l : List Int) (k : Int) (hA : A = none → l = []) (hI : IntsAt w w.heap.size A l) (ad : Addr) (c : Nat) (hc : w.cell? ad = some (.int .i64 k)) (hl : l.length ≤ 1000) :
    ∃ v' w', (Builtin.append_ #[24, 24] ty #[.slice A l.length l.length, .slice (some ad) 1 c]).run Try.prog w = .ok v' w' ∧ Ints w' w.heap.size v' (l ++ [k]) ∧ Below w.heap.size w w' := by
  obtain ⟨i0, hi, hz0, hz1, hz2⟩ := info_parts info3'
  have hn : ∀ j u, [Value.int .i64 k][j]? = some u → w.cell? (ad.add j) = some u := by
    intro j u hj
    match j, hj with
    | 0, hj => simp at hj; subst hj; simpa [Addr.add] using hc
  have fin : ∀ v' w', w'.ownsRow w.heap.size 3 1 v' (l.length + 1) (l.map (.int .i64) ++ [.int .i64 k]) → Ints w' w.heap.size v' (l ++ [k]) := fun v' w' h => by
    unfold Ints
    rw [List.length_append, List.map_append]
    exact h
  cases A with
  | some b =>
    obtain ⟨v', w', hrun, r1, r2⟩ := run_append_arg_grows (P := Try.prog) w 24 ty 3 i0 (.int .i64 0) 1 8 Try.underlying24 hi hz0 hz1 hz2 rfl (by decide) b l.length l.length (l.map (.int .i64)) (by simp) (ints_news hI) ad 1 c [.int .i64 k] rfl hn (by omega) (by unfold maxLen; omega) (by omega)
    exact ⟨v', w', hrun, fin _ _ r1, (Below.refl _ w).grown r2 (Nat.le_refl _) fun j ej => by cases ej⟩
  | none =>
    have := hA rfl
    subst this
    obtain ⟨v', w', hrun, r1, r2, _⟩ := run_append_own (P := Try.prog) w w.heap.size 24 ty 3 i0 (.int .i64 0) 1 8 Try.underlying24 hi hz0 hz1 hz2 rfl (by decide) (.slice none 0 0) 0 [] (World.ownsRow_nil w _ 3 1) ad 1 c [.int .i64 k] rfl hn (by intro u hu; simp at hu; subst hu; rfl) (by unfold maxLen; omega) (by omega) (Nat.le_refl _)
    exact ⟨v', w', hrun, fin _ _ r1, (Below.refl _ w).grown r2 (Nat.le_refl _) fun j ej => by cases ej⟩
theorem wplIn_app0 {F : Fence} {nF : Nat} {ops : Array Oper} {rest : List Oper} {o : Oper} {a : Act} {w : World} {Q : Exit → Act → World → Prop} (hgd : o.guard = none) (s x : Operand)
    (ho : o.op = .call { callee := .builtin .append, args := #[s, x], argTypes := #[24, 24] }) (A : Option Addr) (l : List Int) (k : Int) (hs : a.eval s = .slice A l.length l.length) (hA : A = none → l = []) (hI : IntsAt w w.heap.size A l)
    (ad : Addr) (c : Nat) (hx : a.eval x = .slice (some ad) 1 c) (hc : w.cell? ad = some (.int .i64 k)) (hl : l.length ≤ 1000)
    (h : ∀ v' w', Ints w' w.heap.size v' (l ++ [k]) → Below w.heap.size w w' → wpListIn F nF Try.prog ops Q rest (a.put o.dst v') w') : wpListIn F nF Try.prog ops Q (o :: rest) a w := by
  refine wpListIn_plain hgd fun K hK' => ?_
  obtain ⟨v', w', hrun, r1, r2⟩ := run_app0 (w := w) o.type A l k hA hI ad c hc hl
  have fin := hK' _ _ (h v' w' r1 r2)
  unfold Oper.wpIn
  refine ⟨?_, ?_⟩
  · simp [Oper.about, ho, resolve, Target.leads, Sem.run_pure]
  · rw [Oper.semAt_plain F _ _ (by rw [ho]; intro c hc'; cases hc')]
    simp [execOp, ho, resolve, invoke, builtin, hs, hx, hrun, Result.andThen]
    exact fin
/-- Buy's memory: its house and its results. -/
structure BuySt (W : World) (s : Nat) (L : HL) (h : House) (n e : Int) : Prop where
  b0 : HBox W s L h
  b1 : Boxed W (s + 1) 3 (.int .i64 n)
  b2 : Boxed W (s + 1 + 1) 30 (.int .i64 e)
section
variable {W W' : World} {s : Nat} {L : HL} {h : House} {n e : Int}
theorem BuySt.kp (H : BuySt W s L h n e) {S : Nat → Prop} {m : Nat} (hk : KpB S m W W') (hs : s + 3 ≤ m) (hS : ∀ k, S k → k < s ∨ s + 3 ≤ k) : BuySt W' s L h n e :=
  ⟨H.b0.of (hk.block _ (by omega) (fun h => by have := hS _ h; omega)), (hk.block _ (by omega) (fun h => by have := hS _ h; omega)).trans H.b1, (hk.block _ (by omega) (fun h => by have := hS _ h; omega)).trans H.b2⟩
theorem BuySt.lt (H : BuySt W s L h n e) : s + 3 ≤ W.heap.size := by have := H.b2.lt; omega
theorem BuySt.below (H : BuySt W s L h n e) (hb : Below W.heap.size W W') : BuySt W' s L h n e :=
  H.kp (kpB_of_below hb (S := fun _ => False)) H.lt (fun _ h => h.elim)
theorem BuySt.setN (H : BuySt W s L h n e) (x : Int) : BuySt (W.setCell ⟨s + 1, 0, none⟩ (.int .i64 x)) s L h x e :=
  ⟨hbox_other H.b0 (by omega), H.b1.set _, boxed_other H.b2 (by omega)⟩
theorem BuySt.setE (H : BuySt W s L h n e) (x : Int) : BuySt (W.setCell ⟨s + 1 + 1, 0, none⟩ (.int .i64 x)) s L h n x :=
  ⟨hbox_other H.b0 (by omega), boxed_other H.b1 (by omega), H.b2.set _⟩
theorem BuySt.putObj (H : BuySt W s L h n e) {k : Nat} {o : Obj} (hk : s + 3 ≤ k) : BuySt (W.putObj k o) s L h n e :=
  H.kp (S := fun b => b = k) ((KpB.refl _ _ _).put _ _ (.inl rfl)) H.lt (fun b hb => .inr (by omega))
theorem results20_of (H : BuySt W s L h n e) {tmps : Array Value} (h2 : tmps[2]?.getD undef = .pointer (some ⟨s + 1, 0, none⟩)) (h3 : tmps[3]?.getD undef = .pointer (some ⟨s + 1 + 1, 0, none⟩)) :
    (results Try.f20 tmps).run Try.prog W = .ok (.tuple #[.int .i64 n, .int .i64 e]) W := by
  have c1 := H.b1.cell
  have c2 := H.b2.cell
  simp [results, Try.results20, go_sem, h2, h3, c1, c2]
end
/-- What the search for a size begins with. -/
structure BuyM (W : World) (m : Nat) (L : HL) (h : House) (x : Int) : Prop where
  y0 : Boxed W m 3 (.int .i64 h.bs.length)
  y1 : HBox W (m + 1) L h
  y2 : Boxed W (m + 1 + 1) 3 (.int .i64 x)
theorem BuyM.new (X : World) (L : HL) (h : House) (o : Obj) : BuyM ((((X.alloc (.cells #[.int .i64 h.bs.length] 3)).alloc (.cells #[.slice L.Ak h.ks.length L.ck, .int .i64 h.fl, .slice L.Ap h.ps.length L.cp, .slice L.Ab h.bs.length L.cb] 26)).alloc (.cells #[.int .i64 100] 3)).alloc o) X.heap.size L h 100 := by
  have c0 := Boxed.new X 3 (.int .i64 h.bs.length)
  have c1 := HBox.new (X.alloc (.cells #[.int .i64 h.bs.length] 3)) L h
  have c2 := Boxed.new ((X.alloc (.cells #[.int .i64 h.bs.length] 3)).alloc (.cells #[.slice L.Ak h.ks.length L.ck, .int .i64 h.fl, .slice L.Ap h.ps.length L.cp, .slice L.Ab h.bs.length L.cb] 26)) 3 (.int .i64 100)
  simp only [World.size_alloc] at c1 c2
  exact ⟨((c0.alloc _).alloc _).alloc _, (c1.of (Below.heap_alloc _ _ _ (by simp))).of (Below.heap_alloc _ _ _ (by simp)), c2.alloc _⟩
theorem BuyM.kp {W W' : World} {m : Nat} {L : HL} {h : House} {x : Int} (H : BuyM W m L h x) {S : Nat → Prop} {n : Nat} (hk : KpB S n W W') (hs : m + 3 ≤ n) (hS : ∀ k, S k → k < m ∨ m + 3 ≤ k) : BuyM W' m L h x :=
  ⟨(hk.block _ (by omega) (fun h => by have := hS _ h; omega)).trans H.y0, H.y1.of (hk.block _ (by omega) (fun h => by have := hS _ h; omega)), (hk.block _ (by omega) (fun h => by have := hS _ h; omega)).trans H.y2⟩
theorem BuyM.below {W W' : World} {m : Nat} {L : HL} {h : House} {x : Int} (H : BuyM W m L h x) (hb : Below W.heap.size W W') : BuyM W' m L h x :=
  H.kp (kpB_of_below hb (S := fun _ => False)) (by have := H.y2.lt; omega) (fun _ h => h.elim)
theorem two_other {W : World} {a b k : Nat} {x y : Value} (ha : k ≠ a) (hb : k ≠ b) (hk : k < W.heap.size) : ((W.setCell ⟨a, 0, none⟩ x).setCell ⟨b, 0, none⟩ y).heap[k]? = W.heap[k]? :=
  (((KpB.refl (fun j => j = b) (W.setCell ⟨a, 0, none⟩ x).heap.size (W.setCell ⟨a, 0, none⟩ x)).set 0 y (.inl rfl)).block k (by simpa [World.setCell] using hk) hb).trans (((KpB.refl (fun j => j = a) W.heap.size W).set 0 x (.inl rfl)).block k hk ha)
theorem heap_lt {W : World} {k : Nat} {o : Obj} (h : W.heap[k]? = some o) : k < W.heap.size := (Array.getElem?_eq_some_iff.1 h).1
theorem put_below {w W : World} {k : Nat} {o : Obj} (hb : Below w.heap.size w W) (hk : w.heap.size ≤ k) : Below w.heap.size w (W.putObj k o) :=
  hb.trans (KpB.belowOf (S := fun b => b = k) ((KpB.refl _ _ _).put _ _ (.inl rfl)) hb.size (fun b hb => by omega))
theorem buy_below {w W : World} {x y : Int} (hb : Below w.heap.size w W) : Below w.heap.size w ((W.setCell ⟨w.heap.size + 1, 0, none⟩ (.int .i64 x)).setCell ⟨w.heap.size + 1 + 1, 0, none⟩ (.int .i64 y)) :=
  (hb.setCell (by simp) _).setCell (by simp; omega) _
/-- What is kept while a size is sought. -/
structure BuyI (W : World) (w : World) (m d : Nat) (L : HL) (h : House) (x : Int) : Prop where
  bl : Below w.heap.size w W
  st : BuySt W w.heap.size L h 0 0
  y0 : Boxed W m 3 (.int .i64 h.bs.length)
  y2 : Boxed W (m + 1 + 1) 3 (.int .i64 x)
  dk : W.heap[d]? = some (.deferred (some []))
theorem BuyI.kp {W W' w : World} {m d : Nat} {L : HL} {h : House} {x : Int} (H : BuyI W w m d L h x) {S : Nat → Prop} {n : Nat} (hk : KpB S n W W') (hn : m + 3 ≤ n) (hd : d < n) (hm : w.heap.size + 3 ≤ m) (hS : ∀ k, S k → m + 3 ≤ k ∧ k ≠ d) : BuyI W' w m d L h x :=
  ⟨H.bl.trans (hk.belowOf (by omega) (fun k hs => by have := hS k hs; omega)), H.st.kp hk (by omega) (fun k hs => .inr (by have := hS k hs; omega)), (hk.block _ (by omega) (fun hs => by have := hS _ hs; omega)).trans H.y0, (hk.block _ (by omega) (fun hs => by have := hS _ hs; omega)).trans H.y2, (hk.block _ hd (fun hs => (hS _ hs).2 rfl)).trans H.dk⟩
theorem BuyI.below {W W' w : World} {m d : Nat} {L : HL} {h : House} {x : Int} (H : BuyI W w m d L h x) (hb : Below W.heap.size W W') (hm : w.heap.size + 3 ≤ m) : BuyI W' w m d L h x :=
  H.kp (kpB_of_below hb (S := fun _ => False)) (by have := H.y2.lt; omega) ((Array.getElem?_eq_some_iff.1 H.dk).1) hm (fun _ h => h.elim)
theorem BuyI.setX {W w : World} {m d : Nat} {L : HL} {h : House} {x : Int} (H : BuyI W w m d L h x) (hm : w.heap.size + 3 ≤ m) (hd : d ≠ m + 1 + 1) {y z : Int} (hy : y = z) : BuyI (W.setCell ⟨m + 1 + 1, 0, none⟩ (.int .i64 y)) w m d L h z := by
  subst hy
  have hk : KpB (fun k => k = m + 1 + 1) W.heap.size W (W.setCell ⟨m + 1 + 1, 0, none⟩ (.int .i64 y)) := (KpB.refl _ _ _).set _ _ (.inl rfl)
  exact ⟨H.bl.setCell (by simp; omega) _, H.st.kp hk H.st.lt (fun k hk => .inr (by omega)), boxed_other H.y0 (by omega), H.y2.set _, (hk.block _ (Array.getElem?_eq_some_iff.1 H.dk).1 hd).trans H.dk⟩
set_option maxRecDepth 100000 in
set_option maxHeartbeats 4000000 in
theorem buy_any (L : HL) (h : House) (hn : h.ks.length ≤ 1000 ∧ h.ps.length ≤ 1000 ∧ h.bs.length ≤ 1000) (hcb : h.bs.length ≤ L.cb ∧ (L.Ab = none → L.cb = 0) ∧ L.cb ≤ 9223372036854775807) (w : World) (hH : HouseAt w w.heap.size L h) :
    Calls Try.prog 20 #[L.enc h] w fun e w' => e = .returned (.tuple #[.int .i64 (buyRet h).1, .int .i64 (buyRet h).2]) ∧ Below w.heap.size w w' := by
  have hbw := (((Below.refl _ _).alloc (Nat.le_refl w.heap.size) (.cells #[.slice L.Ak h.ks.length L.ck, .int .i64 h.fl, .slice L.Ap h.ps.length L.cp, .slice L.Ab h.bs.length L.cb] 26)).alloc (by simp) (.cells #[.int .i64 0] 3)).alloc (by simp; omega) (.cells #[.int .i64 0] 30)
  have HC := Lib.hid (check_any L h hn _ (hH.below hbw))
  have HB := Lib.hid (((HBox.new w L h).of (Below.heap_alloc _ (.cells #[.int .i64 0] 3) _ (by simp))).of (Below.heap_alloc _ (.cells #[.int .i64 0] 30) _ (by simp; omega)))
  have hD := Boxed.new (w.alloc (.cells #[.slice L.Ak h.ks.length L.ck, .int .i64 h.fl, .slice L.Ap h.ps.length L.cp, .slice L.Ab h.bs.length L.cb] 26)) 3 (.int .i64 0)
  have hE := Boxed.new ((w.alloc (.cells #[.slice L.Ak h.ks.length L.ck, .int .i64 h.fl, .slice L.Ap h.ps.length L.cp, .slice L.Ab h.bs.length L.cb] 26)).alloc (.cells #[.int .i64 0] 3)) 30 (.int .i64 0)
  simp only [World.size_alloc] at hD hE
  have HD := Lib.hid (hD.alloc (.cells #[.int .i64 0] 30))
  have HE := Lib.hid hE
  have HBW := Lib.hid hbw
  have HH := Lib.hid hH
  clear hbw hH hD hE
  cases hv : validH h
  · have hk : ckH h = 80 := ckH_no hv
    have HV := Lib.hid hv
    clear hv
    go_enter Try.func20, Try.ntmps20
    go_wp2_with (go_at_call 28; refine HC.out.mono ?_; rintro e w1 ⟨rfl, hb1⟩; have gd := below_cell hb1 HD.out.cell; have ge := below_cell hb1 HE.out.cell; have fd := (show Boxed w1 _ _ _ from (hb1.block _ HD.out.lt).trans HD.out).frozen; have fe := (show Boxed w1 _ _ _ from (hb1.block _ HE.out.lt).trans HE.out).frozen)
    have hst : BuySt w1 w.heap.size L h 0 0 := ⟨HB.out.of (hb1.block _ HB.out.lt), (hb1.block _ HD.out.lt).trans HD.out, (hb1.block _ HE.out.lt).trans HE.out⟩
    refine bodyPost_ret (results20_of ((hst.setN 0).setE 80) rfl rfl) rfl ⟨?_, buy_below (hb0to HBW.out hb1)⟩
    rw [buyRet, if_pos HV.out]
  · have hk : ckH h = 0 := ckH_yes hv
    have HV := Lib.hid (HOK.ofValid hv)
    have HV' := Lib.hid hv
    clear hv
    refine (callsIn_wide (n := 10)).1 ?_
    refine callsIn_of_wp_marks Try.func20 rfl trivial ?_ rfl
    simp only [Try.ntmps20, List.size_toArray, List.length_cons, List.length_nil, Nat.reduceAdd, Nat.reduceSub, Array.replicate_succ, Array.replicate_zero, List.push_toArray, List.append_toArray, List.nil_append, List.cons_append]
    gi_wp2_with (first
      | (refine ⟨trivial, ?_⟩; gi_at_call 28; refine (callsIn_wide.2 HC.out).mono ?_; rintro e w1 ⟨rfl, hb1⟩; obtain ⟨g0, g1, g2, g3⟩ := (HB.out.of (hb1.block _ HB.out.lt)).cells; have gd := below_cell hb1 HD.out.cell; have ge := below_cell hb1 HE.out.cell; have fd := (show Boxed w1 _ _ _ from (hb1.block _ HD.out.lt).trans HD.out).frozen; have fe := (show Boxed w1 _ _ _ from (hb1.block _ HE.out.lt).trans HE.out).frozen; have hz0 := cell_lt g0; have hz2 : ¬ w.heap.size = w1.heap.size := (by have hz3 : w.heap.size < w1.heap.size := hz0; omega))
      | (refine ⟨trivial, ?_⟩; gi_at_call 73; refine (callsIn_wide.2 (packings_any L h _)).mono ?_; rintro e w2 ⟨rfl, rfl⟩))
    have hst : BuySt w1 w.heap.size L h 0 0 := ⟨HB.out.of (hb1.block _ HB.out.lt), (hb1.block _ HD.out.lt).trans HD.out, (hb1.block _ HE.out.lt).trans HE.out⟩
    have hX1 := HBox.new w1 L h
    have hst2 := hst.below ((Below.refl _ _).alloc (Nat.le_refl _) (.cells #[.slice L.Ak h.ks.length L.ck, .int .i64 h.fl, .slice L.Ap h.ps.length L.cp, .slice L.Ab h.bs.length L.cb] 26))
    have hbW : Below w.heap.size w (w1.alloc (.cells #[.slice L.Ak h.ks.length L.ck, .int .i64 h.fl, .slice L.Ap h.ps.length L.cp, .slice L.Ab h.bs.length L.cb] 26)) := (hb0to HBW.out hb1).alloc (hb0to HBW.out hb1).size _
    have hz3 := hst.lt
    obtain ⟨W1, hW1⟩ : ∃ W1, w1.alloc (.cells #[.slice L.Ak h.ks.length L.ck, .int .i64 h.fl, .slice L.Ap h.ps.length L.cp, .slice L.Ab h.bs.length L.cb] 26) = W1 := ⟨_, rfl⟩
    rw [hW1] at hst2 hX1 hbW ⊢
    clear hW1 hst g0 g1 g2 g3 gd ge fd fe hz0 hz2
    have hl1 := hst2.lt
    have hxl := hX1.lt
    refine wpIn_rangeFunc_sees (S := fun k => k = w.heap.size + 1 ∨ k = w.heap.size + 1 + 1) (Sees := SeesP h) (fb := #[]) (lb := #[.pointer (some ⟨w1.heap.size, 0, none⟩)]) (xs := packsL h) (w0 := W1) rfl (by omega) rfl trivial (fun _ _ => rfl)
      (packs_sees 9 (by omega) L h HV.out w.heap.size w1.heap.size W1 (by omega) ((HH.out.below hbW).keep2 hbW HH.out) hX1 _ (fun k hk => by omega) (by omega)) (Below.refl _ _) (fun k hk => by omega)
      (fun B x args X hs => by obtain ⟨pb, -, rfl, -⟩ := hs; rfl) (fun B x args X Y _ hs hk => hs.kept hk)
      (fun D pre X => pre = [] ∧ Below w.heap.size w X ∧ BuySt X w.heap.size L h 0 0)
      (fun c D pre X => c = .ret ∧ pre ≠ [] ∧ Below w.heap.size w X ∧ BuySt X w.heap.size L h 0 0)
      ?hI ?hIx ?h0 (fun x args a' X => a' = { tmps := #[L.enc h, .pointer (some ⟨w.heap.size, 0, none⟩), .pointer (some ⟨w.heap.size + 1, 0, none⟩), .pointer (some ⟨w.heap.size + 1 + 1, 0, none⟩), .int .i64 0, undef, undef, undef, undef, undef, L.enc h, .int .i64 0, .int .i64 0, .bool false, undef, L.enc h, .func (.func 96) #[] #[.pointer (some ⟨w1.heap.size, 0, none⟩)], args.getD 0 undef, args.getD 1 undef,
          undef, undef, undef, undef, undef, undef, undef, undef, undef, undef, undef, undef, undef, undef, undef, undef, undef, undef, undef, undef, undef, undef, undef, undef, undef, undef, undef, undef, undef, undef, undef, undef, undef, undef, undef, undef, undef, undef], defers := [] }) ?hAx ?hassign ?hbody ?hdone ?hstop
    case hI =>
      rintro D s X Y hD hX ⟨h0, hb, h1⟩ hk
      exact ⟨h0, hb.trans (hk.belowOf (by have := hb.size; omega) (fun k hs => by have := hs.1; omega)), h1.kp hk (by omega) (fun k hs => .inr (by have := hs.1; omega))⟩
    case hIx =>
      rintro c D s X Y hD hX ⟨hc, h0, hb, h1⟩ hk
      exact ⟨hc, h0, hb.trans (hk.belowOf (by have := hb.size; omega) (fun k hs => by have := hs.1; omega)), h1.kp hk (by omega) (fun k hs => .inr (by have := hs.1; omega))⟩
    case h0 =>
      intro D X hD hX hb
      exact ⟨rfl, hbW.trans (hb.mono (by omega)), hst2.below hb⟩
    case hAx => exact fun _ _ _ _ _ _ h _ => h
    case hassign =>
      intro l' x args X K hz hs hK
      obtain ⟨pb, -, rfl, -⟩ := hs
      have hK' := hK _ X (.inl rfl) rfl
      clear hK
      simp only [List.zip_toArray, List.zip_cons_cons, List.zip_nil_right, List.foldl_toArray, List.foldl_cons, List.foldl_nil, List.setIfInBounds_toArray, List.set_cons_succ, List.set_cons_zero]
      gi_wp2
      exact hK'
    case hbody =>
      rintro l' D pre x args a' X hD hX hpre ⟨h0, hbX, hs⟩ hsee rfl
      obtain ⟨pb, hpb, rfl, hpk⟩ := hsee
      have f1 := hs.b1.frozen
      have f2 := hs.b2.frozen
      have c1 := hs.b1.cell
      have c2 := hs.b2.cell
      gi_wp2
      refine ⟨((KpB.refl _ _ _).set _ _ (.inl (.inl rfl))).set _ _ (.inl (.inr rfl)), rfl, by simp, buy_below hbX, (hs.setN 0).setE 0⟩
    case hdone =>
      rintro D X hD hX ⟨h0, hbX, hs⟩ hk
      obtain ⟨q0, q1, q2, q3⟩ := hs.b0.cells
      have c1 := hs.b1.cell
      have c2 := hs.b2.cell
      have f1 := hs.b1.frozen
      have f2 := hs.b2.frozen
      have hzX := hs.lt
      have hlx0 : w.heap.size < X.heap.size := by omega
      have hnx0 : ¬ w.heap.size = X.heap.size := by omega
      have hlx1 : w.heap.size + 1 < X.heap.size := by omega
      have hnx1 : ¬ w.heap.size + 1 = X.heap.size := by omega
      have hlx2 : w.heap.size + 1 + 1 < X.heap.size := by omega
      have hnx2 : ¬ w.heap.size + 1 + 1 = X.heap.size := by omega
      have HP0 := Lib.hid h0
      have HK := Lib.hid hk
      clear h0 hk
      by_cases hb4 : h.bs.length = 4
      · have hd : ((h.bs.length : Int) == 4) = true := by simp; omega
        have HB4 := Lib.hid hb4
        clear hb4
        gi_wp2
        have hsz2 : ((X.setCell ⟨w.heap.size + 1, 0, none⟩ (.int .i64 0)).setCell ⟨w.heap.size + 1 + 1, 0, none⟩ (.int .i64 2)).heap.size = X.heap.size := by simp [World.setCell]
        refine ⟨by simp, .inl ⟨_, _, rfl, run_takeDeferred (b := W1.heap.size) (ds := []) ((Below.heap_alloc _ _ _ (by rw [hsz2]; omega)).trans ((two_other (by omega) (by omega) (by omega)).trans HK.out)), ?_⟩⟩
        have hsa := ((hs.setN 0).setE 2).below ((Below.refl _ _).alloc (Nat.le_refl _) (.cells #[.int .i64 h.bs.length] 3))
        refine ⟨_, results20_of (L := L) (h := h) (hsa.putObj (by omega)) rfl rfl, ?_, put_below ((buy_below hbX).alloc (buy_below hbX).size _) (by omega)⟩
        rw [buyRet, if_neg (by rw [HV'.out]; decide), if_neg (by rw [HP0.out]; simp), if_pos HB4.out]
      · have hd : ((h.bs.length : Int) == 4) = false := by simp; omega
        have hlt4 : h.bs.length < 4 := by have := HV.out.bl; omega
        have ha1 : w.heap.size < X.heap.size + 1 := by omega
        have ha2 : w.heap.size < X.heap.size + 1 + 1 := by omega
        have ha3 : w.heap.size < X.heap.size + 1 + 1 + 1 := by omega
        have hn1 : ¬ w.heap.size = X.heap.size + 1 := by omega
        have hn2 : ¬ w.heap.size = X.heap.size + 1 + 1 := by omega
        have hn3 : ¬ w.heap.size = X.heap.size + 1 + 1 + 1 := by omega
        have hlcb := hcb.1
        have hcbm := hcb.2.2
        have hbcb : (h.bs.length : Int) ≤ (L.cb : Int) := by omega
        have hAb : L.Ab = none → h.bs = [] := fun e => by
          have := hcb.2.1 e
          exact List.eq_nil_of_length_eq_zero (by omega)
        have hIb : ∀ W, Below X.heap.size X W → IntsAt W W.heap.size L.Ab h.bs := fun W hW => (HH.out.below (hbX.trans (hW.mono hbX.size))).b
        have hb4x : Below X.heap.size X (((((X.alloc (.cells #[.int .i64 h.bs.length] 3)).alloc (.cells #[.slice L.Ak h.ks.length L.ck, .int .i64 h.fl, .slice L.Ap h.ps.length L.cp, .slice L.Ab h.bs.length L.cb] 26)).alloc (.cells #[.int .i64 100] 3))).alloc (.cells #[.int .i64 0] 3)) :=
          ((((Below.refl _ _).alloc (Nat.le_refl _) _).alloc (by simp) _).alloc (by simp; omega) _).alloc (by simp; omega) _
        have HM := Lib.hid (BuyM.new X L h (.cells #[.int .i64 0] 3))
        have HIB := Lib.hid (hIb _ hb4x)
        have HAB := Lib.hid hAb
        have HB4X := Lib.hid hb4x
        clear hIb hAb hb4x
        have hl1000 : h.bs.length ≤ 1000 := by omega
        gi_wp2_with (refine wplIn_app0 rfl (.tmp 29) (.tmp 30) rfl L.Ab h.bs 0 rfl HAB.out HIB.out ⟨X.heap.size + 1 + 1 + 1, 0, none⟩ 1 rfl (by simp [go_sem]) hl1000 ?_; intro v5 W5 hv5 hb5; obtain ⟨A5, c5, rfl, hA5, hl5c, hI5⟩ := hv5.lay; have hm5 := HM.out.below hb5; obtain ⟨r0, r1, r2, r3⟩ := hm5.y1.cells; have rf : W5.frozen? ⟨X.heap.size + 1, 3, none⟩ = false := (by simp [World.frozen?, show W5.heap[X.heap.size + 1]? = _ from hm5.y1]); have hlt5 := hm5.y1.lt; clear hv5 hm5 hA5 hl5c)
        have hs5 := (hs.below HB4X.out).below hb5
        have hm5 := HM.out.below hb5
        have hb5x := hb0to HB4X.out hb5
        have hz5 := hb5.size
        have hz4 : (((((X.alloc (.cells #[.int .i64 h.bs.length] 3)).alloc (.cells #[.slice L.Ak h.ks.length L.ck, .int .i64 h.fl, .slice L.Ap h.ps.length L.cp, .slice L.Ab h.bs.length L.cb] 26)).alloc (.cells #[.int .i64 100] 3))).alloc (.cells #[.int .i64 0] 3)).heap.size = X.heap.size + 4 := by simp
        rw [hz4] at hz5
        have hk6 : KpB (fun k => k = X.heap.size + 1) W5.heap.size W5 (W5.setCell ⟨X.heap.size + 1, 3, none⟩ (.slice A5 (h.bs.length + 1) c5)) := (KpB.refl _ _ _).set _ _ (.inl rfl)
        have hs6 := hs5.kp hk6 (by omega) (fun k hk => .inr (by omega))
        have hy0 : Boxed (W5.setCell ⟨X.heap.size + 1, 3, none⟩ (.slice A5 (h.bs.length + 1) c5)) X.heap.size 3 (.int .i64 h.bs.length) := boxed_other hm5.y0 (by omega)
        have hy2 : Boxed (W5.setCell ⟨X.heap.size + 1, 3, none⟩ (.slice A5 (h.bs.length + 1) c5)) (X.heap.size + 1 + 1) 3 (.int .i64 100) := boxed_other hm5.y2 (by omega)
        have hb6 : Below w.heap.size w (W5.setCell ⟨X.heap.size + 1, 3, none⟩ (.slice A5 (h.bs.length + 1) c5)) := hbX.trans ((hb5x.mono hbX.size).trans (hk6.belowOf (by omega) (fun k hk => by omega)))
        have hk6d : (W5.setCell ⟨X.heap.size + 1, 3, none⟩ (.slice A5 (h.bs.length + 1) c5)).heap[W1.heap.size]? = some (.deferred (some [])) := (hk6.block _ (by omega) (by omega)).trans ((hb5x.block _ (by omega)).trans HK.out)
        have hho : HouseOn (W5.setCell ⟨X.heap.size + 1, 3, none⟩ (.slice A5 (h.bs.length + 1) c5)) (fun k => k < w.heap.size ∨ (X.heap.size + 4 ≤ k ∧ k < W5.heap.size)) { L with Ab := A5, cb := c5 } (more0 h) := by
          intro W' hW' hzW'
          have hz6 : W5.heap.size ≤ W'.heap.size := Nat.le_trans hk6.size hzW'
          have hold : ∀ b o, b < w.heap.size → W'.cell? ⟨b, o, none⟩ = w.cell? ⟨b, o, none⟩ := fun b o hb => (hW' b o (.inl hb)).trans (hb6.cell (p := ⟨b, o, none⟩) hb)
          refine ⟨HH.out.k.keep (by omega) hold, HH.out.p.keep (by omega) hold, IntsIn.at_ (hI5.keep (Nat.le_refl _) hz6 fun b o h1 h2 => ?_)⟩
          rw [hz4] at h1
          exact (hW' b o (.inr ⟨h1, h2⟩)).trans (hk6.cell h2 (by omega))
        obtain ⟨W6, hW6⟩ : ∃ W6, W5.setCell ⟨X.heap.size + 1, 3, none⟩ (.slice A5 (h.bs.length + 1) c5) = W6 := ⟨_, rfl⟩
        have hz6 := hk6.size
        rw [hW6] at hs6 hy0 hy2 hb6 hk6d hho hz6 ⊢
        have HH6 := Lib.hid ((HH.out.below hb6).keep2 hb6 HH.out)
        clear hW6 hk6 hs5 hm5 hb5x r0 r1 r2 r3 rf hI5
        have HO6 := Lib.hid hho
        have HV6 := Lib.hid (HV.out.more0 hlt4)
        clear hho
        have hl6 : (more0 h).bs.length = h.bs.length + 1 := by simp [more0]
        have HL6 := Lib.hid hl6
        have hss := all_seesT 9 (by omega) { L with Ab := A5, cb := c5 } (more0 h) HV6.out 0 (by omega) _ W6 (fun k hk => by rcases hk with hk | hk <;> omega) HO6.out (fun k => k = X.heap.size + 1 + 1) (fun k hk => ⟨by omega, by omega⟩)
        rw [HL6.out, show (more0 h).ps = h.ps from rfl] at hss
        have hsv : stkV { L with Ab := A5, cb := c5 } (more0 h) 0 = .agg #[.slice L.Ak h.ks.length L.ck, .int .i64 h.fl, .slice L.Ap h.ps.length L.cp, .slice A5 (h.bs.length + 1) c5, .int .i64 0] := by rw [stkV, HL6.out]; rfl
        rw [hsv] at hss
        clear hsv hl6
        have HPC := Lib.hid (fun x => packedC_congr (h := more0 h) (g := h) rfl rfl x)
        have HI6 := Lib.hid (BuyI.mk (m := X.heap.size) (d := W1.heap.size) hb6 hs6 hy0 hy2 hk6d)
        clear hb6 hs6 hy0 hy2 hk6d
        refine wpIn_rangeFunc_sees (S := fun k => k = X.heap.size + 1 + 1) (Sees := SeesP (more0 h)) (fb := #[.agg #[.slice L.Ak h.ks.length L.ck, .int .i64 h.fl, .slice L.Ap h.ps.length L.cp, .slice A5 (h.bs.length + 1) c5, .int .i64 0]]) (lb := #[]) (xs := allS 0 (h.bs.length + 1) h.ps.length) (w0 := W6) rfl (by omega) rfl trivial (fun _ _ => rfl)
          hss (Below.refl _ _) (fun k hk => by omega)
          (fun B x args X hs => by obtain ⟨pb, -, rfl, -⟩ := hs; rfl) (fun B x args X Y _ hs hk => hs.kept hk)
          (fun D pre X' => BuyI X' w X.heap.size W1.heap.size L h (buyL h pre))
          (fun c D pre X' => False)
          ?jI ?jIx ?j0 (fun x args a' X' => ∃ b4, W6.heap.size + 2 ≤ b4 ∧ CasksAt X' b4 (packedC h x) ∧ a' = { tmps := #[L.enc h, .pointer (some ⟨w.heap.size, 0, none⟩), .pointer (some ⟨w.heap.size + 1, 0, none⟩), .pointer (some ⟨w.heap.size + 1 + 1, 0, none⟩), .int .i64 0, .pointer (some ⟨X.heap.size, 0, none⟩), .pointer (some ⟨X.heap.size + 1, 0, none⟩), .pointer (some ⟨X.heap.size + 1 + 1, 0, none⟩), undef, .pointer (some ⟨b4, 0, none⟩), L.enc h, .int .i64 0, .int .i64 0, .bool false, undef, L.enc h, .func (.func 96) #[] #[.pointer (some ⟨w1.heap.size, 0, none⟩)], undef, undef,
            .pointer (some ⟨w.heap.size, 3, none⟩), .slice L.Ab h.bs.length L.cb, .int .i64 h.bs.length, .int .i64 h.bs.length, .bool false, L.enc h, .pointer (some ⟨w.heap.size, 3, none⟩), .slice L.Ab h.bs.length L.cb, .int .i64 h.bs.length, .int .i64 h.bs.length, .slice L.Ab h.bs.length h.bs.length, .slice (some ⟨X.heap.size + 1 + 1 + 1, 0, none⟩) 1 1, .slice A5 (h.bs.length + 1) c5, .pointer (some ⟨X.heap.size + 1, 3, none⟩),
            .agg #[.slice L.Ak h.ks.length L.ck, .int .i64 h.fl, .slice L.Ap h.ps.length L.cp, .slice A5 (h.bs.length + 1) c5], .agg #[.slice L.Ak h.ks.length L.ck, .int .i64 h.fl, .slice L.Ap h.ps.length L.cp, .slice A5 (h.bs.length + 1) c5, .int .i64 0], .func (.func 66) #[.agg #[.slice L.Ak h.ks.length L.ck, .int .i64 h.fl, .slice L.Ap h.ps.length L.cp, .slice A5 (h.bs.length + 1) c5, .int .i64 0]] #[],
            args.getD 0 undef, args.getD 1 undef, undef, undef, undef, undef, undef, undef, undef, undef, undef, undef, undef, undef, undef, undef, undef, undef, undef, undef, undef], defers := [] }) ?jAx ?jassign ?jbody ?jdone ?jstop
        case jI =>
          rintro D s X' Y hD hX' h1 hk
          exact h1.kp hk (by omega) (by omega) (by omega) (fun k hs => by have := hs.1; omega)
        case jIx => exact fun _ _ _ _ _ _ _ h _ => h.elim
        case j0 =>
          intro D X' hD hX' hb
          exact HI6.out.below hb (by omega)
        case jAx =>
          rintro x args a' X' Y hz ⟨b4, h1, h2, h3⟩ hk
          exact ⟨b4, h1, (hk.block _ (Array.getElem?_eq_some_iff.1 h2).1 (fun hs => by have hs' : b4 < W6.heap.size + 2 := hs; omega)).trans h2, h3⟩
        case jassign =>
          intro l' x args X' K hz hs hK
          obtain ⟨pb, -, rfl, -⟩ := hs
          rw [HPC.out x] at hK ⊢
          have hK' := hK _ (X'.alloc (.cells (flatC (packedC h x)).toArray 81)) (.inr ⟨_, rfl⟩) ⟨X'.heap.size, by omega, World.alloc_heap_new X' _, rfl⟩
          clear hK
          simp only [List.zip_toArray, List.zip_cons_cons, List.zip_nil_right, List.foldl_toArray, List.foldl_cons, List.foldl_nil, List.setIfInBounds_toArray, List.set_cons_succ, List.set_cons_zero]
          have hl5 : (packedC h x).length = 5 := casksTo_len _ _ _
          gi_wp2_with (refine wplIn_store81 rfl (.tmp 9) (.tmp 37) rfl rfl (packedC h x) hl5 rfl ?_)
          exact hK'
        case jbody =>
          rintro l' D pre x args a' X' hD hX' hpre hs hsee ⟨b4, hb4, hC4, rfl⟩
          obtain ⟨pb, hpb, rfl, hpk⟩ := hsee
          rw [HPC.out x]
          have hl5 : (packedC h x).length = 5 := casksTo_len _ _ _
          have HOK5 := Lib.hid (packedC_ok HV.out x)
          have HSN := Lib.hid (buyL_snoc h pre x)
          have HHX := Lib.hid ((HH.out.below hs.bl).keep2 hs.bl HH.out)
          obtain ⟨q0, q1, q2, q3⟩ := hs.st.b0.cells
          have hzX' := hs.bl.size
          cases hf : fitsC h (packedC h x)
          · gi_wp2_with (first
              | (refine wplIn_load81 rfl (.tmp 9) rfl b4 rfl (packedC h x) hl5 hC4 ?_)
              | (refine ⟨trivial, ?_⟩; gi_at_call 67; refine (CallsIn.mono (CallsIn.inRound l' (callsIn_wide.2 (fits_any L h HV.out _ hl5 HOK5.out X' (HHX.out.more hzX')))) ?_); rintro e W7 ⟨rfl, hb7⟩))
            refine ⟨kpB_of_below (hb7.mono hX'), ?_⟩
            show BuyI W7 w X.heap.size W1.heap.size L h (buyL h (pre ++ [x]))
            rw [HSN.out, buyF, if_neg (by rw [hf]; decide)]
            exact hs.below hb7 (by omega)
          · have hC4' := fun W7 (hb7 : Below X'.heap.size X' W7) => ((hb7.block _ (Array.getElem?_eq_some_iff.1 hC4).1).trans hC4 : CasksAt W7 b4 (packedC h x))
            have HC4 := Lib.hid hC4'
            clear hC4'
            gi_wp2_with (first
              | (refine wplIn_load81 rfl (.tmp 9) rfl b4 rfl (packedC h x) hl5 hC4 ?_)
              | (refine ⟨trivial, ?_⟩; gi_at_call 67; refine (CallsIn.mono (CallsIn.inRound l' (callsIn_wide.2 (fits_any L h HV.out _ hl5 HOK5.out X' (HHX.out.more hzX')))) ?_); rintro e W7 ⟨rfl, hb7⟩))
            have hs7 := hs.below hb7 (by omega)
            have hC7 : CasksAt W7 b4 (packedC h x) := HC4.out W7 hb7
            obtain ⟨z0, z1, z2, z3⟩ := CasksAt.at_ hC7 (at_caskOf (show h.bs.length < (packedC h x).length by omega))
            have hck := HOK5.out h.bs.length _ (at_caskOf (by omega))
            have hnb := needAt_bd HV.out (show h.bs.length < 5 by omega) x
            have hsb := saltC_bd hck ⟨HV.out.f0, HV.out.f1⟩
            have hp0 := hck.p0
            have hp1 := hck.p1
            have hbb := buyL_bd HV.out hlt4 pre
            have e0 := extB_cell z0
            have e1 := extB_cell z1
            have e2 := extB_cell z2
            have e3 := extB_cell z3
            have e4 := extB_cell hs7.y0.cell
            have e5 := extB_cell hs7.y2.cell
            obtain ⟨_, u1, _, _⟩ := hs7.st.b0.cells
            have e6 := extB_cell u1
            have hi0 : (0 : Int) ≤ (h.bs.length : Int) := by omega
            have hi5 : (h.bs.length : Int) < 5 := by omega
            have HCK := Lib.hid hck
            have HF0 := Lib.hid (And.intro HV.out.f0 HV.out.f1)
            clear z0 z1 z2 z3 u1 hck
            refine wpIn_region_tailX 13 (by rfl) (by rintro ⟨_, _, hh⟩; exact hh) (by rfl) (by kernel_rfl) (by kernel_rfl) (by kernel_rfl) (by kernel_rfl) ?_
            simp only [List.take_succ_cons, List.take_zero, List.getD_cons_succ, List.getD_cons_zero, List.cons_append, List.nil_append, idle]
            repeat (go_big_quiet_step ((go_at_call 74; exact ext_call (saltC_any _ h.fl HCK.out HF0.out _))))
            refine wpQuiet_nil ?_
            rintro _ ⟨x1, rfl⟩
            have hb8 := extB_below W7 x1
            have hs8 := hs7.below hb8 (by omega)
            have hc8 := hs8.y2.cell
            have hf8 := hs8.y2.frozen
            clear e0 e1 e2 e3 e4 e5 e6
            obtain ⟨W8, hW8⟩ : ∃ W8, extB W7 x1 = W8 := ⟨_, rfl⟩
            rw [hW8] at hb8 hs8 hc8 hf8 ⊢
            clear hW8
            go_simp
            refine ⟨((kpB_of_below (hb7.mono hX')).trans (kpB_of_below (hb8.mono (by have := hb7.size; omega)))).set _ _ (.inl rfl), ?_⟩
            show BuyI _ w X.heap.size W1.heap.size L h (buyL h (pre ++ [x]))
            refine hs8.setX (by omega) (by omega) ?_
            rw [HSN.out, buyF, if_pos hf]
            rfl
        case jdone =>
          rintro D X' hD hX' hs hk2
          have c0 := hs.y2.cell
          have c1 := hs.st.b1.cell
          have c2 := hs.st.b2.cell
          have f1 := hs.st.b1.frozen
          have f2 := hs.st.b2.frozen
          have hbb := buyL_bd HV.out hlt4 (allS 0 (h.bs.length + 1) h.ps.length)
          have HK2 := Lib.hid hk2
          clear hk2
          by_cases h99 : 99 < buyL h (allS 0 (h.bs.length + 1) h.ps.length)
          · have hd9 : decide (99 < buyL h (allS 0 (h.bs.length + 1) h.ps.length)) = true := by simpa using h99
            have H99 := Lib.hid h99
            clear h99
            gi_wp2
            refine ⟨by simp, .inl ⟨_, _, rfl, run_takeDeferred (b := W6.heap.size) (ds := []) ((two_other (by omega) (by omega) (heap_lt HK2.out)).trans HK2.out), by simp, .inl ⟨_, _, rfl, run_takeDeferred (b := W1.heap.size) (ds := []) ((World.putObj_heap_other (by omega)).trans ((two_other (by omega) (by omega) (heap_lt hs.dk)).trans hs.dk)), ?_⟩⟩⟩
            refine ⟨_, results20_of (L := L) (h := h) ((((hs.st.setN 0).setE 3).putObj (by omega)).putObj (by omega)) rfl rfl, ?_, put_below (put_below (buy_below hs.bl) (by omega)) (by omega)⟩
            rw [buyRet, if_neg (by rw [HV'.out]; decide), if_neg (by rw [HP0.out]; simp), if_neg (by omega), if_pos H99.out]
          · have hd9 : decide (99 < buyL h (allS 0 (h.bs.length + 1) h.ps.length)) = false := by simpa using h99
            have H99 := Lib.hid h99
            clear h99
            gi_wp2
            refine ⟨by simp, .inl ⟨_, _, rfl, run_takeDeferred (b := W6.heap.size) (ds := []) ((two_other (by omega) (by omega) (heap_lt HK2.out)).trans HK2.out), by simp, .inl ⟨_, _, rfl, run_takeDeferred (b := W1.heap.size) (ds := []) ((World.putObj_heap_other (by omega)).trans ((two_other (by omega) (by omega) (heap_lt hs.dk)).trans hs.dk)), ?_⟩⟩⟩
            refine ⟨_, results20_of (L := L) (h := h) ((((hs.st.setN _).setE 0).putObj (by omega)).putObj (by omega)) rfl rfl, ?_, put_below (put_below (buy_below hs.bl) (by omega)) (by omega)⟩
            rw [buyRet, if_neg (by rw [HV'.out]; decide), if_neg (by rw [HP0.out]; simp), if_neg (by omega), if_neg (Int.not_lt.2 H99.out)]
        case jstop => exact fun _ _ _ _ _ _ _ h => h.elim
    case hstop =>
      rintro D c pre X hD hX hpre ⟨rfl, h0, hbX, hs⟩ hk
      have hne : packsL h ≠ [] := fun e => h0 (by rw [e] at hpre; exact List.prefix_nil.1 hpre)
      gi_wp2
      refine ⟨by simp, .inl ⟨_, _, rfl, run_takeDeferred hk, ?_⟩⟩
      refine ⟨_, results20_of (hs.putObj (k := W1.heap.size) (by omega)) rfl rfl, ?_, ?_⟩
      · rw [buyRet, if_neg (by rw [HV'.out]; decide), if_pos hne]
      · exact hbX.trans (KpB.belowOf (S := fun k => k = W1.heap.size) ((KpB.refl _ _ _).put _ _ (.inl rfl)) hbX.size (fun k hk => by omega))
end Go.Proofs.Ytgemmmdcpbajoaa
