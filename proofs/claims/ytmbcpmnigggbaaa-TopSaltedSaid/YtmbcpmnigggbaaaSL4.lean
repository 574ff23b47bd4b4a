import Derived.Test.YtmbcpmnigggbaaaSaUF
import Derived.Test.YtmbcpmnigggbaaaCJ
namespace Go.Proofs.Ytmbcpmnigggbaaa.Sa
open Go.RowKit

def exS : House := ⟨[(3, 10), (5, 4)], 2, [(0, 10), (0, 15), (1, 8)], [40, 20]⟩
def exT : House := ⟨[(3, 10), (5, 4)], 2, [(0, 10), (0, 15), (1, 8)], [40, 13]⟩
theorem exBest : bestOf (fun p => sumC (saltC exS.fl) (packedC exS p) 5) (packsL exS) = some ([0, 0, 1], 16) := by kernel_rfl
theorem six (w : World) (o0 o1 o2 o3 o4 o5 : Obj) : ∃ W, W = ((((((w.alloc o0).alloc o1).alloc o2).alloc o3).alloc o4).alloc o5).drew ∧ W.heap[w.heap.size]? = some o0 ∧ W.heap[w.heap.size + 1]? = some o1 ∧ W.heap[w.heap.size + 1 + 1]? = some o2 ∧ W.heap[w.heap.size + 1 + 1 + 1]? = some o3 ∧ W.heap[w.heap.size + 1 + 1 + 1 + 1]? = some o4 ∧ W.heap[w.heap.size + 1 + 1 + 1 + 1 + 1]? = some o5 ∧ Below w.heap.size w W := by
  have a0 := World.alloc_heap_new w o0
  have a1 := World.alloc_heap_new (w.alloc o0) o1
  have a2 := World.alloc_heap_new ((w.alloc o0).alloc o1) o2
  have a3 := World.alloc_heap_new (((w.alloc o0).alloc o1).alloc o2) o3
  have a4 := World.alloc_heap_new ((((w.alloc o0).alloc o1).alloc o2).alloc o3) o4
  have a5 := World.alloc_heap_new (((((w.alloc o0).alloc o1).alloc o2).alloc o3).alloc o4) o5
  have up : ∀ {W : World} {k : Nat} {o o' : Obj}, W.heap[k]? = some o → (W.alloc o').heap[k]? = some o := fun h => (Below.heap_alloc _ _ _ (Array.getElem?_eq_some_iff.1 h).1).trans h
  simp only [World.size_alloc] at a1 a2 a3 a4 a5
  refine ⟨_, rfl, up (up (up (up (up a0)))), up (up (up (up a1))), up (up (up a2)), up (up a3), up a4, a5, ?_⟩
  exact (((((((Below.refl _ w).alloc (Nat.le_refl _) _).alloc (by simp) _).alloc (by simp; omega) _).alloc (by simp; omega) _).alloc (by simp; omega) _).alloc (by simp; omega) _).drew
theorem pairs_lay {W : World} {g : Nat} {t : TypeId} {ns : List (Int × Int)} (h : W.heap[g]? = some (.cells (pairCells ns).toArray t (0, 0))) : PairsAt W W.heap.size (some ⟨g, 0, none⟩) ns := by
  refine .inr ⟨g, 0, rfl, heap_lt h, fun i x hx => ?_⟩
  obtain ⟨d1, d2⟩ := pairCells_at ns i x hx
  have hk : ∀ j v, (pairCells ns)[j]? = some v → W.cell? ⟨g, j, none⟩ = some v := fun j v hj => by simp [World.cell?, h, hj]
  rw [Nat.zero_add]
  exact ⟨hk _ _ d1, hk _ _ d2⟩
theorem ints_lay {W : World} {g : Nat} {t : TypeId} {l : List Int} (h : W.heap[g]? = some (.cells (l.map (Value.int .i64)).toArray t (0, 0))) : IntsAt W W.heap.size (some ⟨g, 0, none⟩) l := by
  refine .inr ⟨g, 0, rfl, heap_lt h, fun i x hx => ?_⟩
  rw [Nat.zero_add]
  simp [World.cell?, h, hx]
set_option maxRecDepth 100000 in
set_option maxHeartbeats 4000000 in
theorem example_any (w : World) : Calls Try.prog 59 #[] w fun e w' => ∃ a b c d, e = .returned (.tuple #[.agg #[.slice (some ⟨a, 0, none⟩) 2 2, .int .i64 2, .slice (some ⟨b, 0, none⟩) 3 3, .slice (some ⟨c, 0, none⟩) 2 2], .agg #[.slice (some ⟨a, 0, none⟩) 2 2, .int .i64 2, .slice (some ⟨b, 0, none⟩) 3 3, .slice (some ⟨d, 0, none⟩) 2 2]]) ∧
    HouseAt w' w'.heap.size ⟨some ⟨a, 0, none⟩, 2, some ⟨b, 0, none⟩, 3, some ⟨c, 0, none⟩, 2⟩ exS ∧ HouseAt w' w'.heap.size ⟨some ⟨a, 0, none⟩, 2, some ⟨b, 0, none⟩, 3, some ⟨d, 0, none⟩, 2⟩ exT ∧ Below w.heap.size w w' := by
  go_enter Try.func59, Try.ntmps59
  go_wp2
  go_region
  go_wp2
  obtain ⟨W, hW, a0, a1, a2, a3, a4, a5, hb⟩ := six w (.cells #[.slice (some ⟨w.heap.size + 1 + 1, 0, none⟩) 2 2, .int .i64 2, .slice (some ⟨w.heap.size + 1 + 1 + 1, 0, none⟩) 3 3, .slice (some ⟨w.heap.size + 1 + 1 + 1 + 1, 0, none⟩) 2 2] 27)
    (.cells #[.slice (some ⟨w.heap.size + 1 + 1, 0, none⟩) 2 2, .int .i64 2, .slice (some ⟨w.heap.size + 1 + 1 + 1, 0, none⟩) 3 3, .slice (some ⟨w.heap.size + 1 + 1 + 1 + 1 + 1, 0, none⟩) 2 2] 27)
    (.cells #[.int .i64 3, .int .i64 10, .int .i64 5, .int .i64 4] 95) (.cells #[.int .i64 0, .int .i64 10, .int .i64 0, .int .i64 15, .int .i64 1, .int .i64 8] 97) (.cells #[.int .i64 40, .int .i64 20] 3) (.cells #[.int .i64 40, .int .i64 13] 3)
  rw [← hW]
  clear hW
  have e0 := load26 (W := W) (b := w.heap.size) (by simp [World.cell?, a0]; rfl) (by simp [World.cell?, a0]; rfl) (by simp [World.cell?, a0]; rfl) (by simp [World.cell?, a0]; rfl)
  have e1 := load26 (W := W) (b := w.heap.size + 1) (by simp [World.cell?, a1]; rfl) (by simp [World.cell?, a1]; rfl) (by simp [World.cell?, a1]; rfl) (by simp [World.cell?, a1]; rfl)
  refine bodyPost_ret (v := .tuple #[.agg #[.slice (some ⟨w.heap.size + 1 + 1, 0, none⟩) 2 2, .int .i64 2, .slice (some ⟨w.heap.size + 1 + 1 + 1, 0, none⟩) 3 3, .slice (some ⟨w.heap.size + 1 + 1 + 1 + 1, 0, none⟩) 2 2], .agg #[.slice (some ⟨w.heap.size + 1 + 1, 0, none⟩) 2 2, .int .i64 2, .slice (some ⟨w.heap.size + 1 + 1 + 1, 0, none⟩) 3 3, .slice (some ⟨w.heap.size + 1 + 1 + 1 + 1 + 1, 0, none⟩) 2 2]]) ?_ rfl ⟨w.heap.size + 1 + 1, w.heap.size + 1 + 1 + 1, w.heap.size + 1 + 1 + 1 + 1, w.heap.size + 1 + 1 + 1 + 1 + 1, rfl, ?_, ?_, hb⟩
  · simp only [Instr.loadAt, Instr.sureAddr, Sem.run_bind, Sem.run_pure, Result.andThen_ok] at e0 e1
    simp [results, Try.f59, go_sem, World.cell?, a0, a1]
  · exact ⟨pairs_lay (ns := exS.ks) a2, pairs_lay (ns := exS.ps) a3, ints_lay (l := exS.bs) a4⟩
  · exact ⟨pairs_lay (ns := exT.ks) a2, pairs_lay (ns := exT.ps) a3, ints_lay (l := exT.bs) a5⟩
open Go.RowKit

/-- The memory of works. -/
structure ExM (W : World) (a b c d s : Nat) : Prop where
  S : HouseAt W W.heap.size ⟨some ⟨a, 0, none⟩, 2, some ⟨b, 0, none⟩, 3, some ⟨c, 0, none⟩, 2⟩ exS
  T : HouseAt W W.heap.size ⟨some ⟨a, 0, none⟩, 2, some ⟨b, 0, none⟩, 3, some ⟨d, 0, none⟩, 2⟩ exT
  x : HBox W s ⟨some ⟨a, 0, none⟩, 2, some ⟨b, 0, none⟩, 3, some ⟨c, 0, none⟩, 2⟩ exS
  y : HBox W (s + 1) ⟨some ⟨a, 0, none⟩, 2, some ⟨b, 0, none⟩, 3, some ⟨d, 0, none⟩, 2⟩ exT
theorem ExM.next {W W' : World} {a b c d s : Nat} (H : ExM W a b c d s) (hb : Below W.heap.size W W') : ExM W' a b c d s :=
  ⟨H.S.below hb, H.T.below hb, H.x.of (hb.block _ H.x.lt), H.y.of (hb.block _ H.y.lt)⟩
theorem ExM.al {W : World} {a b c d s : Nat} (H : ExM W a b c d s) (o : Obj) : ExM (W.alloc o) a b c d s := H.next ((Below.refl _ W).alloc (Nat.le_refl _) o)
theorem ExM.c {W : World} {a b c d s : Nat} (H : ExM W a b c d s) : (W.cell? ⟨s, 0, none⟩ = some (.slice (some ⟨a, 0, none⟩) 2 2) ∧ W.cell? ⟨s, 1, none⟩ = some (.int .i64 2) ∧ W.cell? ⟨s, 2, none⟩ = some (.slice (some ⟨b, 0, none⟩) 3 3) ∧ W.cell? ⟨s, 3, none⟩ = some (.slice (some ⟨c, 0, none⟩) 2 2)) ∧
    (W.cell? ⟨s + 1, 0, none⟩ = some (.slice (some ⟨a, 0, none⟩) 2 2) ∧ W.cell? ⟨s + 1, 1, none⟩ = some (.int .i64 2) ∧ W.cell? ⟨s + 1, 2, none⟩ = some (.slice (some ⟨b, 0, none⟩) 3 3) ∧ W.cell? ⟨s + 1, 3, none⟩ = some (.slice (some ⟨d, 0, none⟩) 2 2)) := ⟨H.x.cells, H.y.cells⟩
theorem ExM.new {W : World} {a b c d : Nat} (hS : HouseAt W W.heap.size ⟨some ⟨a, 0, none⟩, 2, some ⟨b, 0, none⟩, 3, some ⟨c, 0, none⟩, 2⟩ exS) (hT : HouseAt W W.heap.size ⟨some ⟨a, 0, none⟩, 2, some ⟨b, 0, none⟩, 3, some ⟨d, 0, none⟩, 2⟩ exT) :
    ExM ((W.alloc (.cells #[.slice (some ⟨a, 0, none⟩) 2 2, .int .i64 2, .slice (some ⟨b, 0, none⟩) 3 3, .slice (some ⟨c, 0, none⟩) 2 2] 27)).alloc (.cells #[.slice (some ⟨a, 0, none⟩) 2 2, .int .i64 2, .slice (some ⟨b, 0, none⟩) 3 3, .slice (some ⟨d, 0, none⟩) 2 2] 27)) a b c d W.heap.size := by
  have c1 := HBox.new (W.alloc (.cells #[.slice (some ⟨a, 0, none⟩) 2 2, .int .i64 2, .slice (some ⟨b, 0, none⟩) 3 3, .slice (some ⟨c, 0, none⟩) 2 2] 27)) ⟨some ⟨a, 0, none⟩, 2, some ⟨b, 0, none⟩, 3, some ⟨d, 0, none⟩, 2⟩ exT
  rw [World.size_alloc] at c1
  have hb := ((Below.refl _ W).alloc (Nat.le_refl _) (.cells #[.slice (some ⟨a, 0, none⟩) 2 2, .int .i64 2, .slice (some ⟨b, 0, none⟩) 3 3, .slice (some ⟨c, 0, none⟩) 2 2] 27)).alloc (by simp) (.cells #[.slice (some ⟨a, 0, none⟩) 2 2, .int .i64 2, .slice (some ⟨b, 0, none⟩) 3 3, .slice (some ⟨d, 0, none⟩) 2 2] 27)
  exact ⟨hS.below hb, hT.below hb, (HBox.new W ⟨some ⟨a, 0, none⟩, 2, some ⟨b, 0, none⟩, 3, some ⟨c, 0, none⟩, 2⟩ exS).of (Below.heap_alloc _ _ _ (by simp)), c1⟩
theorem exC38 {W : World} {a b c d s : Nat} (H : ExM W a b c d s) :
    Calls Try.prog 60 #[.agg #[.slice (some ⟨a, 0, none⟩) 2 2, .int .i64 2, .slice (some ⟨b, 0, none⟩) 3 3, .slice (some ⟨c, 0, none⟩) 2 2]] W fun e w' => (∃ pb, e = .returned (.tuple #[.slice (some ⟨pb, 0, none⟩) 3 3, .int .i64 0]) ∧ IntsAt w' w'.heap.size (some ⟨pb, 0, none⟩) [0, 0, 1]) ∧ Below W.heap.size W w' := by
  have h := pack_any ⟨some ⟨a, 0, none⟩, 2, some ⟨b, 0, none⟩, 3, some ⟨c, 0, none⟩, 2⟩ exS (by decide) W H.S
  refine h.mono ?_
  rintro e w' ⟨⟨A, n, c', he, _, hq⟩, hb⟩
  obtain ⟨pb, rfl, rfl, rfl, hp, _⟩ := hq _ _ (by kernel_rfl) exBest
  refine ⟨⟨pb, ?_, ?_⟩, hb⟩
  · rw [he]
    have : (numRet exS true fun l => sumC (saltC exS.fl) l 5).2 = 0 := by kernel_rfl
    rw [this]; rfl
  · exact hp.ints
theorem new3 (W : World) : IntsAt (W.alloc (.cells #[.int .i64 0, .int .i64 0, .int .i64 1] 3)) (W.alloc (.cells #[.int .i64 0, .int .i64 0, .int .i64 1] 3)).heap.size (some ⟨W.heap.size, 0, none⟩) [0, 0, 1] := ints_lay (World.alloc_heap_new W _)
end Go.Proofs.Ytmbcpmnigggbaaa.Sa
namespace Go.Proofs.Ytmbcpmnigggbaaa.Sa
open Go.RowKit

theorem least_eq (h : House) : numRet h true (fun l => sumC (saltC h.fl) l 5) = leastS h := by
  unfold numRet leastS
  by_cases hv : validH h = false
  · rw [if_pos hv, if_pos hv]
  · rw [if_neg hv, if_neg hv, if_neg (by simp)]
    rw [bestOf_congr (packF_eq (HOK.ofValid (by simpa using hv)))]
    cases bestOf (packF h) (packsL h) <;> rfl
def orMin (i : Int) : Option (List Int × Int) → Int
  | none => i
  | some q => min i q.2
theorem foldMin_best (f : List Int → Int) (i : Int) (l : List (List Int)) : foldMin f i l = orMin i (bestOf f l) := by
  refine snoc_ind (P := fun l => foldMin f i l = orMin i (bestOf f l)) rfl (fun l x ih => ?_) l
  have e : foldMin f i (l ++ [x]) = if f x < foldMin f i l then f x else foldMin f i l := by unfold foldMin; rw [List.foldl_append]; rfl
  rw [e, bestOf_snoc, ih]
  cases hb : bestOf f l with
  | none =>
    show (if f x < i then f x else i) = min i (f x)
    by_cases h2 : f x < i
    · rw [if_pos h2]; omega
    · rw [if_neg h2]; omega
  | some q =>
    obtain ⟨p, m⟩ := q
    simp only [stepB]
    by_cases h1 : f x < m
    · rw [if_pos h1]
      show (if f x < min i m then f x else min i m) = min i (f x)
      by_cases h2 : f x < min i m
      · rw [if_pos h2]; omega
      · rw [if_neg h2]; omega
    · rw [if_neg h1]
      show (if f x < min i m then f x else min i m) = min i m
      rw [if_neg (by omega)]
theorem used_pack {h : House} (hv : HOK h) : ∀ p ∈ packsL h, sumC usedC (packedC h p) 5 = usedF h p := fun p hp => by
  obtain ⟨h1, h2⟩ := mem_packsL hp
  exact sumC_packed (by simp [usedC, c0]) h1 (InRange.low (lo := 0) h2 (by omega)) (by have := hv.bl; omega)
theorem pks_err {h : House} {is : Bool} : (pksS h is).2 = if validH h = false then 80 else if is = false then 1 else if packsL h = [] then 3 else 0 := by
  unfold pksS askH
  by_cases hv : validH h = false
  · simp [hv]
  · by_cases hi : is = false
    · simp [hv, hi]
    · by_cases hp : packsL h = []
      · simp [hv, hi, hp]
      · simp [hv, hi, hp]
theorem few_eq (h : House) : numRet h true (fun l => sumC usedC l 5) = fewS h := by
  unfold numRet fewS
  rw [pks_err]
  by_cases hv : validH h = false
  · simp [hv]
  · have hV := HOK.ofValid (h := h) (by simpa using hv)
    simp only [hv, if_false, Bool.true_eq_false]
    rw [bestOf_congr (used_pack hV)]
    by_cases hp : packsL h = []
    · simp [hp, bestOf]
    · simp only [hp, if_false, ne_eq, not_true_eq_false]
      rw [foldMin_best]
      cases hb : bestOf (usedF h) (packsL h) with
      | none => exact absurd (bestOf_none.1 hb) hp
      | some q =>
        obtain ⟨p, m⟩ := q
        obtain ⟨e, _⟩ := bestOf_some hb
        have := usedF_bd h p
        simp only [orMin]
        rw [show min (h.bs.length : Int) m = m by omega]
open Go.RowKit

theorem pack_to {h : House} {B : Nat} {w' : World} {e : Ending} (hp : PackRet h (fun l => sumC (saltC h.fl) l 5) B w' e) : LRet (packS h) B w' e := by
  obtain ⟨A, n, c, he, h0, h1⟩ := hp
  have hn : (numRet h true (fun l => sumC (saltC h.fl) l 5)).2 = (packS h).2 := by
    rw [least_eq]
    unfold leastS packS
    by_cases hv : validH h = false
    · rw [if_pos hv, if_pos hv]
    · rw [if_neg hv, if_neg hv]
      cases bestOf (packF h) (packsL h) with
      | none => rfl
      | some q => obtain ⟨p, m⟩ := q; rfl
  have hpl : (packS h).2 ≠ 0 → (packS h).1 = [] := by
    unfold packS
    by_cases hv : validH h = false
    · rw [if_pos hv]; intro _; rfl
    · rw [if_neg hv]
      cases bestOf (packF h) (packsL h) with
      | none => intro _; rfl
      | some q => obtain ⟨p, m⟩ := q; intro hh; exact absurd rfl hh
  by_cases hz : (packS h).2 = 0
  · have hv : validH h = true := by
      cases hv : validH h
      · unfold packS at hz; rw [if_pos hv] at hz; cases hz
      · rfl
    cases hb : bestOf (packF h) (packsL h) with
    | none => unfold packS at hz; rw [if_neg (by simp [hv]), hb] at hz; cases hz
    | some q =>
      obtain ⟨p, m⟩ := q
      have hp1 : (packS h).1 = p := by unfold packS; rw [if_neg (by simp [hv]), hb]
      obtain ⟨pb, rfl, rfl, rfl, hP, hB⟩ := h1 p m hv (by rw [← hb]; exact bestOf_congr (packF_eq (HOK.ofValid hv)))
      refine ⟨some ⟨pb, 0, none⟩, p.length, by rw [he, hn, hp1], (fun h => by cases h), ?_⟩
      rw [hp1]
      refine .inr ⟨pb, 0, rfl, hB, heap_lt hP, fun i x hx => ?_⟩
      rw [Nat.zero_add]; exact hP.cell hx
  · obtain ⟨rfl, rfl, rfl⟩ := h0 (by rw [hn]; exact hz)
    have h3 := hpl hz
    exact ⟨none, 0, by rw [he, hn, h3]; rfl, fun _ => ⟨rfl, h3⟩, by rw [h3]; exact .inl rfl⟩
end Go.Proofs.Ytmbcpmnigggbaaa.Sa
namespace Go.Proofs.Ytmbcpmnigggbaaa.Sa
open Go.RowKit

theorem least_any2 (L : HL) (h : House) (hn : h.ks.length ≤ 1000 ∧ h.ps.length ≤ 1000 ∧ h.bs.length ≤ 1000) (w : World) (hH : HouseAt w w.heap.size L h) :
    Calls Try.prog 64 #[L.enc h] w fun e w' => e = .returned (.tuple #[.int .i64 (leastS h).1, .int .i64 (leastS h).2]) ∧ Below w.heap.size w w' := by
  rw [← least_eq]; exact least_any L h hn w hH
theorem fewest_any2 (L : HL) (h : House) (hn : h.ks.length ≤ 1000 ∧ h.ps.length ≤ 1000 ∧ h.bs.length ≤ 1000) (w : World) (hH : HouseAt w w.heap.size L h) :
    Calls Try.prog 65 #[L.enc h] w fun e w' => e = .returned (.tuple #[.int .i64 (fewS h).1, .int .i64 (fewS h).2]) ∧ Below w.heap.size w w' := by
  rw [← few_eq]; exact fewest_any L h hn w hH
theorem pack_any2 (L : HL) (h : House) (hn : h.ks.length ≤ 1000 ∧ h.ps.length ≤ 1000 ∧ h.bs.length ≤ 1000) (w : World) (hH : HouseAt w w.heap.size L h) :
    Calls Try.prog 60 #[L.enc h] w fun e w' => LRet (packS h) w.heap.size w' e ∧ Below w.heap.size w w' :=
  (pack_any L h hn w hH).mono fun _ _ ⟨h1, h2⟩ => ⟨pack_to h1, h2⟩
/-- The memory of a law: the house as it came, and its copy. -/
structure LawM (W : World) (s bo : Nat) (L Lo : HL) (h : House) : Prop where
  H : HouseAt W W.heap.size L h
  x : HBox W s L h
  O : HouseAt W W.heap.size Lo h
  y : HBox W bo Lo h
theorem LawM.next {W W' : World} {s bo : Nat} {L Lo : HL} {h : House} (M : LawM W s bo L Lo h) (hb : Below W.heap.size W W') : LawM W' s bo L Lo h :=
  ⟨M.H.below hb, M.x.of (hb.block _ M.x.lt), M.O.below hb, M.y.of (hb.block _ M.y.lt)⟩
theorem LawM.c {W : World} {s bo : Nat} {L Lo : HL} {h : House} (M : LawM W s bo L Lo h) : (W.cell? ⟨s, 0, none⟩ = some (.slice L.Ak h.ks.length L.ck) ∧ W.cell? ⟨s, 1, none⟩ = some (.int .i64 h.fl) ∧ W.cell? ⟨s, 2, none⟩ = some (.slice L.Ap h.ps.length L.cp) ∧ W.cell? ⟨s, 3, none⟩ = some (.slice L.Ab h.bs.length L.cb)) ∧
    (W.cell? ⟨bo, 0, none⟩ = some (.slice Lo.Ak h.ks.length Lo.ck) ∧ W.cell? ⟨bo, 1, none⟩ = some (.int .i64 h.fl) ∧ W.cell? ⟨bo, 2, none⟩ = some (.slice Lo.Ap h.ps.length Lo.cp) ∧ W.cell? ⟨bo, 3, none⟩ = some (.slice Lo.Ab h.bs.length Lo.cb)) := ⟨M.x.cells, M.y.cells⟩
theorem LawM.new {W : World} {s : Nat} {L Lo : HL} {h : House} (H : HouseAt W W.heap.size L h) (x : HBox W s L h) (O : HouseAt W W.heap.size Lo h) :
    LawM (W.alloc (.cells #[.slice Lo.Ak h.ks.length Lo.ck, .int .i64 h.fl, .slice Lo.Ap h.ps.length Lo.cp, .slice Lo.Ab h.bs.length Lo.cb] 27)) s W.heap.size L Lo h := by
  have hb := (Below.refl _ W).alloc (Nat.le_refl _) (.cells #[.slice Lo.Ak h.ks.length Lo.ck, .int .i64 h.fl, .slice Lo.Ap h.ps.length Lo.cp, .slice Lo.Ab h.bs.length Lo.cb] 27)
  exact ⟨H.below hb, x.of (hb.block _ x.lt), O.below hb, HBox.new W Lo h⟩
end Go.Proofs.Ytmbcpmnigggbaaa.Sa
namespace Go.Proofs.Ytmbcpmnigggbaaa.Sa
open Go.RowKit

theorem pack_need {h : House} {lo : Int} {p : List Int} (hp : p ∈ fitting h lo) {b : Nat} (hb : b < h.bs.length) : needC h (inOf p b) ≤ h.bs.getD b 0 := fitsR_true.1 (mem_fitting hp).2.2 b hb
theorem bs_le {h : House} (hv : HOK h) {b : Nat} (hb : b < h.bs.length) : 0 ≤ h.bs.getD b 0 ∧ h.bs.getD b 0 ≤ 99 := by
  have e : h.bs[b]? = some h.bs[b] := List.getElem?_eq_getElem hb
  have := hv.b b _ e
  rw [List.getD_eq_getElem?_getD, e]
  exact this
theorem saltC_nn {h : House} (hv : HOK h) {c : Cask} (hc : c.ok) : 0 ≤ saltC h.fl c := by
  unfold saltC
  have := hv.f0
  have := Int.mul_nonneg hc.p0 hc.s0
  split
  · exact Int.le_refl _
  · omega
theorem packF_bd2 {h : House} (hv : HOK h) {lo : Int} {p : List Int} (hp : p ∈ fitting h lo) : 0 ≤ packF h p ∧ packF h p ≤ 99 * h.bs.length := by
  obtain ⟨l1, l2, l3⟩ := mem_fitting hp
  have : ∀ k, k ≤ h.bs.length → 0 ≤ sumB (saltC h.fl) h p k ∧ sumB (saltC h.fl) h p k ≤ 99 * k := fun k => by
    induction k with
    | zero => intro _; simp [sumB]
    | succ k ih =>
      intro hk
      have h1 := ih (by omega)
      have hok := inOf_ok hv (by omega : p.length ≤ h.ps.length) (k : Int)
      have h2 := saltC_nn hv hok
      have h3 := pack_need hp (b := k) (by omega)
      have h4 := bs_le hv (b := k) (by omega)
      have h5 := hok.p0
      unfold needC at h3
      simp only [sumB]
      push_cast
      omega
  exact this _ (Nat.le_refl _)
/-- Least and Fewest of a valid house. -/
theorem least_yes {h : House} (hv : validH h = true) (hp : packsL h ≠ []) : ∃ p m, bestOf (packF h) (packsL h) = some (p, m) ∧ leastS h = (m, 0) ∧ p ∈ packsL h ∧ m = packF h p ∧ ∀ q ∈ packsL h, m ≤ packF h q := by
  cases hb : bestOf (packF h) (packsL h) with
  | none => exact absurd (bestOf_none.1 hb) hp
  | some q =>
    obtain ⟨p, m⟩ := q
    obtain ⟨e, h1, h2, _⟩ := bestOf_some hb
    refine ⟨p, m, rfl, ?_, h1, e, h2⟩
    unfold leastS
    rw [if_neg (by simp [hv]), hb]
theorem least_no {h : House} (hv : validH h = true) (hp : packsL h = []) : leastS h = (0, 3) := by
  unfold leastS
  rw [if_neg (by simp [hv]), bestOf_none.2 hp]
theorem few_yes {h : House} (hv : validH h = true) (hp : packsL h ≠ []) : ∃ p m, bestOf (usedF h) (packsL h) = some (p, m) ∧ fewS h = (m, 0) ∧ p ∈ packsL h ∧ m = usedF h p ∧ ∀ q ∈ packsL h, m ≤ usedF h q := by
  cases hb : bestOf (usedF h) (packsL h) with
  | none => exact absurd (bestOf_none.1 hb) hp
  | some q =>
    obtain ⟨p, m⟩ := q
    obtain ⟨e, h1, h2, _⟩ := bestOf_some hb
    refine ⟨p, m, rfl, ?_, h1, e, h2⟩
    unfold fewS
    rw [pks_err]
    simp only [hv, hp, if_false, Bool.true_eq_false, ne_eq, not_true_eq_false]
    rw [foldMin_best, hb]
    have := usedF_bd h p
    simp only [orMin]
    rw [show min (h.bs.length : Int) m = m by omega]
theorem few_no {h : House} (hv : validH h = true) (hp : packsL h = []) : fewS h = (0, 3) := by
  unfold fewS
  rw [pks_err]
  simp [hv, hp]
def isB (h : House) : Bool := !(packsL h).isEmpty
theorem both_nums {h : House} (hv : validH h = true) : (isB h = true ∧ (leastS h).2 = 0 ∧ (fewS h).2 = 0 ∨ isB h = false ∧ (leastS h).2 = 3 ∧ (fewS h).2 = 3) ∧ 0 ≤ (leastS h).1 ∧ (leastS h).1 ≤ 400 ∧ 0 ≤ (fewS h).1 ∧ (fewS h).1 ≤ h.bs.length := by
  have hV := HOK.ofValid hv
  by_cases hp : packsL h = []
  · rw [least_no hv hp, few_no hv hp]
    exact ⟨.inr ⟨by simp [isB, hp], rfl, rfl⟩, by simp, by simp, by simp, by simp⟩
  · obtain ⟨p, m, _, e1, h1, h2, _⟩ := least_yes hv hp
    obtain ⟨q, k, _, e2, h3, h4, _⟩ := few_yes hv hp
    have b1 := packF_bd2 hV (by rw [← packs_eq hV]; exact h1)
    have b2 := usedF_bd h q
    have := hV.bl
    rw [e1, e2]
    refine ⟨.inl ⟨by simp [isB, hp], rfl, rfl⟩, ?_, ?_, ?_, ?_⟩
    all_goals (simp only; omega)
open Go.RowKit

end Go.Proofs.Ytmbcpmnigggbaaa.Sa
namespace Go.Proofs.Ytmbcpmnigggbaaa.Sa
open Go.RowKit

/-! One more barrel. -/
def moreH (h : House) (s : Int) : House := { h with bs := h.bs ++ [s] }
theorem valid_more {h : House} (hv : validH h = true) (hb : h.bs.length < 4) {s : Int} (hs : inR s 0 99 = true) : validH (moreH h s) = true := by
  unfold validH bigOK at hv ⊢
  simp only [Bool.and_eq_true, decide_eq_true_eq] at hv ⊢
  obtain ⟨⟨h1, h2, h3, h4⟩, h5, h6, h7⟩ := hv
  refine ⟨⟨h1, h2, h3, ?_⟩, h5, h6, ?_⟩
  · simp only [moreH, List.length_append, List.length_singleton]; omega
  · simp only [moreH, List.all_append, h7, Bool.true_and]; simpa using hs
theorem more_len (h : House) (s : Int) : (moreH h s).bs.length = h.bs.length + 1 := by simp [moreH]
theorem more_at {h : House} {s : Int} {b : Nat} (hb : b < h.bs.length) : (moreH h s).bs.getD b 0 = h.bs.getD b 0 := by
  simp [moreH, List.getD, List.getElem?_append_left hb]
theorem more_end (h : House) (s : Int) : (moreH h s).bs.getD h.bs.length 0 = s := by simp [moreH, List.getD]
theorem fitsR_more (h : House) (s : Int) (p : List Int) : fitsR (moreH h s) p = true ↔ fitsR h p = true ∧ needC h (inOf p (h.bs.length : Int)) ≤ s := by
  rw [fitsR_true, fitsR_true, more_len]
  constructor
  · intro H
    refine ⟨fun b hb => ?_, ?_⟩
    · have := H b (by omega)
      rw [more_at hb] at this; exact this
    · have := H h.bs.length (by omega)
      rw [more_end] at this; exact this
  · rintro ⟨H, hs⟩ b hb
    by_cases e : b < h.bs.length
    · rw [more_at e]; exact H b e
    · obtain rfl : b = h.bs.length := by omega
      rw [more_end]; exact hs
theorem buyL_le {h : House} {s : Int} (hs : s ≤ 99) : ∀ L : List (List Int), buyL h L ≤ s ↔ ∃ p ∈ L, fitsC h (packedC h p) = true ∧ needAt h h.bs.length p ≤ s := fun L => by
  refine snoc_ind (P := fun L => buyL h L ≤ s ↔ ∃ p ∈ L, fitsC h (packedC h p) = true ∧ needAt h h.bs.length p ≤ s) ?_ (fun L x ih => ?_) L
  · simp [buyL]; omega
  · rw [buyL_snoc]
    simp only [List.mem_append, List.mem_singleton]
    have key : buyF h (buyL h L) x ≤ s ↔ buyL h L ≤ s ∨ (fitsC h (packedC h x) = true ∧ needAt h h.bs.length x ≤ s) := by
      unfold buyF
      by_cases hf : fitsC h (packedC h x) = true
      · rw [if_pos hf]
        simp only [hf, true_and]
        split <;> omega
      · rw [if_neg hf]
        simp [hf]
    rw [key, ih]
    constructor
    · rintro (⟨p, hp, h1⟩ | h1)
      · exact ⟨p, .inl hp, h1⟩
      · exact ⟨x, .inr rfl, h1⟩
    · rintro ⟨p, hp | rfl, h1⟩
      · exact .inl ⟨p, hp, h1⟩
      · exact .inr h1
/-- What fits with one more barrel of some size. -/
theorem more_fit {h : House} (hv : HOK h) (hb : h.bs.length < 4) (s : Int) {p : List Int} (hp : p ∈ allS 0 (h.bs.length + 1) h.ps.length) : fitsR (moreH h s) p = true ↔ fitsC h (packedC h p) = true ∧ needAt h h.bs.length p ≤ s := by
  obtain ⟨h1, h2⟩ := mem_allS.1 hp
  have hr : InRange (-1) (h.bs.length + 1) p := fun x hx => by have := h2 x hx; omega
  rw [fitsR_more, fits_packed hv h1 hr (by omega)]
  unfold needAt
  rw [caskOf_packed h1 hr (by omega) (by omega)]
  rfl
theorem isB_iff {h : House} (hv : HOK h) : isB h = true ↔ ∃ p, p ∈ fitting h 0 := by
  unfold isB
  rw [packs_eq hv]
  cases fitting h 0 with
  | nil => simp
  | cons a l => simp
theorem more_is {h : House} (hv : HOK h) (hb : h.bs.length < 4) {s : Int} (hV : HOK (moreH h s)) (hs : s ≤ 99) : isB (moreH h s) = true ↔ buyL h (allS 0 (h.bs.length + 1) h.ps.length) ≤ s := by
  rw [isB_iff hV, buyL_le hs]
  unfold fitting
  rw [more_len]
  constructor
  · rintro ⟨p, hp⟩
    obtain ⟨h1, h2⟩ := List.mem_filter.1 hp
    exact ⟨p, h1, (more_fit hv hb s h1).1 h2⟩
  · rintro ⟨p, h1, h2⟩
    exact ⟨p, List.mem_filter.2 ⟨h1, (more_fit hv hb s h1).2 h2⟩⟩
theorem inTo_none {p : List Int} {b : Int} : ∀ {k : Nat}, (∀ j, j < k → barrelOf p j ≠ b) → inTo p b k = []
  | 0, _ => rfl
  | k + 1, h => by rw [inTo_no (h k (by omega)), inTo_none fun j hj => h j (by omega)]
theorem inOf_far {lo : Int} {nb : Nat} {p : List Int} (hr : InRange lo nb p) {b : Int} (hb : b < lo ∨ (nb : Int) ≤ b) : inOf p b = [] := by
  refine inTo_none fun j hj e => ?_
  have hx : p[j]? = some (barrelOf p j) := by simp [barrelOf, List.getD, List.getElem?_eq_getElem hj]
  have := hr _ (List.mem_of_getElem? hx)
  omega
theorem need_nil (h : House) : needC h [] = 0 := by simp [needC, caskIn, saltC, c0]
/-- A packing is one with one more barrel. -/
theorem fit_more {h : House} {s : Int} (hs : 0 ≤ s) {lo : Int} (_hlo : lo ≤ 0) {p : List Int} (hp : p ∈ fitting h lo) : p ∈ fitting (moreH h s) lo := by
  obtain ⟨h1, h2, h3⟩ := mem_fitting hp
  refine List.mem_filter.2 ⟨mem_allS.2 ⟨h1, fun x hx => ?_⟩, (fitsR_more h s p).2 ⟨h3, ?_⟩⟩
  · have := h2 x hx
    rw [more_len]; omega
  · rw [inOf_far h2 (.inr (Int.le_refl _)), need_nil]; exact hs
theorem isB_no {h : House} : isB h = false ↔ packsL h = [] := by simp [isB]
/-- What Buy says, with packings of a house with one more barrel. -/
theorem buy_plain {h : House} (hv : validH h = true) (hb : h.bs.length < 4) {s : Int} (hs : inR s 0 99 = true) :
    (isB h = true → buyRet h = (0, 0)) ∧ (isB h = false → (buyRet h = (0, 3) ∧ isB (moreH h s) = false) ∨ ((buyRet h).2 = 0 ∧ 0 ≤ (buyRet h).1 ∧ (buyRet h).1 ≤ 99 ∧ (isB (moreH h s) = true ↔ (buyRet h).1 ≤ s))) ∧ (isB h = true → isB (moreH h s) = true) := by
  have hV := HOK.ofValid hv
  have hV2 := HOK.ofValid (valid_more hv hb hs)
  have hs1 := inR_true.1 hs
  refine ⟨fun hi => ?_, fun hi => ?_, fun hi => ?_⟩
  · have : packsL h ≠ [] := fun e => by rw [isB_no.2 e] at hi; cases hi
    unfold buyRet; simp [hv, this]
  · have hp := isB_no.1 hi
    have hbd := buyL_bd hV hb (allS 0 (h.bs.length + 1) h.ps.length)
    have hm := more_is hV hb hV2 hs1.2
    by_cases h9 : 99 < buyL h (allS 0 (h.bs.length + 1) h.ps.length)
    · left
      refine ⟨by unfold buyRet; rw [if_neg (by simp [hv]), if_neg (by simp [hp]), if_neg (by omega), if_pos h9], ?_⟩
      cases e : isB (moreH h s)
      · rfl
      · have := hm.1 e; omega
    · right
      have e : buyRet h = (buyL h (allS 0 (h.bs.length + 1) h.ps.length), 0) := by unfold buyRet; rw [if_neg (by simp [hv]), if_neg (by simp [hp]), if_neg (by omega), if_neg h9]
      rw [e]
      exact ⟨rfl, hbd.1, by show _ ≤ _; omega, hm⟩
  · rw [isB_iff hV] at hi
    rw [isB_iff hV2]
    obtain ⟨p, hp⟩ := hi
    exact ⟨p, fit_more hs1.1 (by omega) hp⟩
open Go.RowKit

/-- A box of a house's kind, as it was made. -/
def ZBox (W : World) (b : Nat) : Prop := W.heap[b]? = some (.cells #[.slice none 0 0, .int .i64 0, .slice none 0 0, .slice none 0 0] 27 (0, 0))
theorem box_store {W : World} {b : Nat} (hy : ZBox W b) (x y z u : Value) :
    (Instr.loadAt 27 (.pointer (some ⟨b, 0, none⟩))).run Try.prog ((((W.setCell ⟨b, 0, none⟩ x).setCell ⟨b, 1, none⟩ y).setCell ⟨b, 2, none⟩ z).setCell ⟨b, 3, none⟩ u) = .ok (.agg #[x, y, z, u]) ((((W.setCell ⟨b, 0, none⟩ x).setCell ⟨b, 1, none⟩ y).setCell ⟨b, 2, none⟩ z).setCell ⟨b, 3, none⟩ u) := by
  have e := heap_set u (o := 3) (heap_set z (o := 2) (heap_set y (o := 1) (heap_set x (o := 0) hy)))
  refine load26 ?_ ?_ ?_ ?_ <;> simp [World.cell?, e]
theorem zbox_frozen {W : World} {b : Nat} {arr : Array Value} (h : W.heap[b]? = some (.cells arr 27 (0, 0))) : ∀ o, W.frozen? ⟨b, o, none⟩ = false := fun o => by simp [World.frozen?, h]
theorem zbox_cells {W : World} {b : Nat} (h : ZBox W b) : W.cell? ⟨b, 0, none⟩ = some (.slice none 0 0) ∧ W.cell? ⟨b, 1, none⟩ = some (.int .i64 0) ∧ W.cell? ⟨b, 2, none⟩ = some (.slice none 0 0) ∧ W.cell? ⟨b, 3, none⟩ = some (.slice none 0 0) := by
  simp [World.cell?, show W.heap[b]? = _ from h]
theorem set_other_heap {W : World} {b o k : Nat} {u : Value} (hk : k < W.heap.size) (hne : k ≠ b) : (W.setCell ⟨b, o, none⟩ u).heap[k]? = W.heap[k]? := ((KpB.refl (fun k => k = b) W.heap.size W).set o u (.inl rfl)).block k hk hne
/-- A copy, and what is written outside it. -/
theorem Copied.set_other {W : World} {n0 n1 n2 b o : Nat} {u : Value} {L : HL} {h : House} (H : Copied W n0 n1 n2 L h) (hk : ∀ g, (Value.slice L.Ak h.ks.length L.ck).ownBlock = some g → g ≠ b) (hp : ∀ g, (Value.slice L.Ap h.ps.length L.cp).ownBlock = some g → g ≠ b) (hb : ∀ g, (Value.slice L.Ab h.bs.length L.cb).ownBlock = some g → g ≠ b) : Copied (W.setCell ⟨b, o, none⟩ u) n0 n1 n2 L h := by
  have key : ∀ {base e size n : Nat} {v : Value} {xs : List Value}, W.ownsRow base e size v n xs → (∀ g, v.ownBlock = some g → g ≠ b) → (W.setCell ⟨b, o, none⟩ u).ownsRow base e size v n xs := fun {base e size n v xs} h hne => by
    refine ⟨h.1, ?_⟩
    rcases h.2 with h2 | ⟨g, cap, cur, e, hb2, hg, h4⟩
    · exact .inl h2
    · refine .inr ⟨g, cap, cur, e, hb2, (set_other_heap (heap_lt hg) (hne g ?_)).trans hg, h4⟩
      rw [e]; rfl
  exact ⟨key H.k hk, H.k1, key H.p hp, H.p1, key H.b hb, H.n01, H.n12⟩
theorem box_ne {W : World} {b base e size n : Nat} {arr : Array Value} {z : Nat × Nat} {v : Value} {xs : List Value} (h : W.ownsRow base e size v n xs) (hb : W.heap[b]? = some (.cells arr 27 z)) (he : e ≠ 27) : ∀ g, v.ownBlock = some g → g ≠ b := by
  rintro g hg rfl
  rcases h.2 with ⟨rfl, _⟩ | ⟨g', cap, cur, rfl, _, hg', _⟩
  · simp [Value.ownBlock] at hg
  · simp only [Value.ownBlock, Option.some.injEq] at hg
    subst hg
    rw [hb] at hg'
    simp only [Option.some.injEq, Obj.cells.injEq] at hg'
    exact he hg'.2.1.symm
theorem Copied.set_box {W : World} {n0 n1 n2 b o : Nat} {u : Value} {L : HL} {h : House} {arr : Array Value} {z : Nat × Nat} (H : Copied W n0 n1 n2 L h) (hb : W.heap[b]? = some (.cells arr 27 z)) : Copied (W.setCell ⟨b, o, none⟩ u) n0 n1 n2 L h :=
  H.set_other (box_ne H.k hb (by decide)) (box_ne H.p hb (by decide)) (box_ne H.b hb (by decide))
theorem Copied.set_box4 {W : World} {n0 n1 n2 b : Nat} {L : HL} {h : House} (H : Copied W n0 n1 n2 L h) (hb : ZBox W b) (x y z u : Value) : Copied ((((W.setCell ⟨b, 0, none⟩ x).setCell ⟨b, 1, none⟩ y).setCell ⟨b, 2, none⟩ z).setCell ⟨b, 3, none⟩ u) n0 n1 n2 L h :=
  (((H.set_box hb).set_box (heap_set x (o := 0) hb)).set_box (heap_set y (o := 1) (heap_set x (o := 0) hb))).set_box (heap_set z (o := 2) (heap_set y (o := 1) (heap_set x (o := 0) hb)))
theorem below_set4 {w W : World} {n b : Nat} (hb : Below n w W) (hn : n ≤ b) (x y z u : Value) : Below n w ((((W.setCell ⟨b, 0, none⟩ x).setCell ⟨b, 1, none⟩ y).setCell ⟨b, 2, none⟩ z).setCell ⟨b, 3, none⟩ u) :=
  set_any (s := b) (Q := fun W => Below n w W) (fun _ o u hh => hh.setCell (p := ⟨b, o, none⟩) hn u) hb _ _ _ _
open Go.RowKit

end Go.Proofs.Ytmbcpmnigggbaaa.Sa
namespace Go.Proofs.Ytmbcpmnigggbaaa.Sa
open Go.RowKit

/-! Two houses: where each list of one has a list of the other. -/
theorem isB_ne {h : House} : isB h = true ↔ packsL h ≠ [] := by simp [isB]
theorem isB_mono {h o : House} (H : ∀ p ∈ packsL h, ∃ q, q ∈ packsL o) (hi : isB h = true) : isB o = true := by
  rw [isB_ne] at hi ⊢
  obtain ⟨p, hp⟩ := List.exists_mem_of_ne_nil _ hi
  obtain ⟨q, hq⟩ := H p hp
  exact List.ne_nil_of_mem hq
theorem least_mono {h o : House} (hv : validH h = true) (ho : validH o = true) (H : ∀ p ∈ packsL h, ∃ q ∈ packsL o, packF o q ≤ packF h p) (hi : isB h = true) : (leastS o).1 ≤ (leastS h).1 := by
  have hj := isB_mono (fun p hp => (H p hp).imp fun q hq => hq.1) hi
  obtain ⟨p, m, _, e1, h1, e2, _⟩ := least_yes hv (isB_ne.1 hi)
  obtain ⟨q, k, _, e3, _, _, h4⟩ := least_yes ho (isB_ne.1 hj)
  obtain ⟨x, hx, h5⟩ := H p h1
  have := h4 x hx
  rw [e1, e3]
  show k ≤ m
  omega
theorem few_mono {h o : House} (hv : validH h = true) (ho : validH o = true) (H : ∀ p ∈ packsL h, ∃ q ∈ packsL o, usedF o q ≤ usedF h p) (hi : isB h = true) : (fewS o).1 ≤ (fewS h).1 := by
  have hj := isB_mono (fun p hp => (H p hp).imp fun q hq => hq.1) hi
  obtain ⟨p, m, _, e1, h1, e2, _⟩ := few_yes hv (isB_ne.1 hi)
  obtain ⟨q, k, _, e3, _, _, h4⟩ := few_yes ho (isB_ne.1 hj)
  obtain ⟨x, hx, h5⟩ := H p h1
  have := h4 x hx
  rw [e1, e3]
  show k ≤ m
  omega
theorem buy_full {h : House} (hv : validH h = true) (hb : h.bs.length = 4) : buyRet h = if isB h = true then (0, 0) else (0, 2) := by
  unfold buyRet
  by_cases hp : packsL h = []
  · simp [hv, hp, hb, isB]
  · simp [hv, hp, isB]
theorem buy_mono {h o : House} (hv : validH h = true) (ho : validH o = true) (hb : o.bs.length = h.bs.length) (H1 : isB h = true → isB o = true) (H2 : h.bs.length < 4 → ∀ s, inR s 0 99 = true → isB (moreH h s) = true → isB (moreH o s) = true) (he : (buyRet h).2 = 0) :
    (buyRet o).2 = 0 ∧ 0 ≤ (buyRet o).1 ∧ (buyRet o).1 ≤ (buyRet h).1 ∧ (buyRet h).1 ≤ 99 := by
  have hbl := (HOK.ofValid hv).bl
  by_cases h4 : h.bs.length = 4
  · rw [buy_full hv h4] at he ⊢
    rw [buy_full ho (by omega)]
    by_cases hi : isB h = true
    · rw [if_pos hi, if_pos (H1 hi)]; simp
    · rw [if_neg hi] at he; cases he
  · have hl : h.bs.length < 4 := by omega
    have hl2 : o.bs.length < 4 := by omega
    by_cases hi : isB h = true
    · rw [(buy_plain hv hl (s := 0) (by decide)).1 hi, (buy_plain ho hl2 (s := 0) (by decide)).1 (H1 hi)]; simp
    · have hi : isB h = false := by simpa using hi
      rcases (buy_plain hv hl (s := 0) (by decide)).2.1 hi with ⟨e, _⟩ | ⟨e, b0, b9, _⟩
      · rw [e] at he; cases he
      · have hs : inR (buyRet h).1 0 99 = true := inR_true.2 ⟨b0, b9⟩
        rcases (buy_plain hv hl hs).2.1 hi with ⟨e2, _⟩ | ⟨_, _, _, e2⟩
        · rw [e2] at he; cases he
        · have h5 := H2 hl _ hs (e2.2 (Int.le_refl _))
          by_cases hj : isB o = true
          · rw [(buy_plain ho hl2 (s := 0) (by decide)).1 hj]
            exact ⟨rfl, Int.le_refl _, b0, b9⟩
          · have hj : isB o = false := by simpa using hj
            rcases (buy_plain ho hl2 hs).2.1 hj with ⟨_, e3⟩ | ⟨e3, c0, c9, e4⟩
            · rw [e3] at h5; cases h5
            · exact ⟨e3, c0, e4.1 h5, b9⟩
theorem buy_err {h : House} (hv : validH h = true) : (buyRet h).2 ≠ 0 → buyRet h = if h.bs.length = 4 then (0, 2) else (0, 3) := fun he => by
  unfold buyRet at he ⊢
  by_cases hp : packsL h = []
  · by_cases hb : h.bs.length = 4
    · simp [hv, hp, hb]
    · by_cases h9 : 99 < buyL h (allS 0 (h.bs.length + 1) h.ps.length)
      · simp [hv, hp, hb, h9]
      · simp [hv, hp, hb, h9] at he
  · simp [hv, hp] at he
/-! More room. -/
structure Roomier (h o : House) : Prop where
  k : o.ks = h.ks
  f : o.fl = h.fl
  p : o.ps = h.ps
  l : h.bs.length ≤ o.bs.length
  b : ∀ b, b < h.bs.length → h.bs.getD b 0 ≤ o.bs.getD b 0
open Go.RowKit

/-! What is in a barrel: two lots together. -/
def mergeC (c d : Cask) : Cask := ⟨c.n + d.n, c.p + d.p, max c.s d.s, max c.d d.d⟩
theorem cask_ext {a b : Cask} (h1 : a.n = b.n) (h2 : a.p = b.p) (h3 : a.s = b.s) (h4 : a.d = b.d) : a = b := by
  cases a; cases b; simp_all
theorem layC_merge (c d : Cask) (k p : Int × Int) : layC (mergeC c d) k p = mergeC c (layC d k p) := cask_ext (by simp only [mergeC, layC]; omega) (by simp only [mergeC, layC]; omega) (by simp only [mergeC, layC]; omega) (by simp only [mergeC, layC]; omega)
/-- Not below zero. -/
structure Cask.nn (c : Cask) : Prop where
  n : 0 ≤ c.n
  p : 0 ≤ c.p
  s : 0 ≤ c.s
  d : 0 ≤ c.d
theorem merge_c0 {c : Cask} (h : c.nn) : mergeC c c0 = c := by
  obtain ⟨h1, h2, h3, h4⟩ := h
  exact cask_ext (by simp only [mergeC, c0]; omega) (by simp only [mergeC, c0]; omega) (by simp only [mergeC, c0]; omega) (by simp only [mergeC, c0]; omega)
/-- One cask has no more than another of anything. -/
structure Cask.leZ (c d : Cask) : Prop where
  n : c.n ≤ d.n
  p : c.p ≤ d.p
  s : c.s ≤ d.s
  d : c.d ≤ d.d
theorem salt_mono {fl : Int} (hf : 0 ≤ fl) {c d : Cask} (hc : c.nn) (h : c.leZ d) : saltC fl c ≤ saltC fl d := by
  have hm : c.p * c.s ≤ d.p * d.s := Int.le_trans (Int.mul_le_mul_of_nonneg_right h.p hc.s) (Int.mul_le_mul_of_nonneg_left h.s (Int.le_trans hc.p h.p))
  have h0 : 0 ≤ c.p * c.s := Int.mul_nonneg hc.p hc.s
  have hn := hc.n
  have hn2 := h.n
  unfold saltC
  by_cases a : c.n = 0
  · rw [if_pos a]
    split <;> omega
  · rw [if_neg a, if_neg (by omega)]
    omega
/-- The cask of a barrel, of parts each with its barrel. -/
def castZ (ks : List (Int × Int)) (l : List ((Int × Int) × Int)) (b : Int) : Cask := l.foldl (fun c x => if x.2 = b then layC c (ks.getD x.1.1.toNat (0, 0)) x.1 else c) c0
theorem castZ_snoc (ks : List (Int × Int)) (l : List ((Int × Int) × Int)) (x : (Int × Int) × Int) (b : Int) : castZ ks (l ++ [x]) b = if x.2 = b then layC (castZ ks l b) (ks.getD x.1.1.toNat (0, 0)) x.1 else castZ ks l b := by
  simp [castZ]
/-- Kinds and parts not below zero. -/
def NNs (ks : List (Int × Int)) (l : List ((Int × Int) × Int)) : Prop := (∀ k : Nat, 0 ≤ (ks.getD k (0, 0)).1 ∧ 0 ≤ (ks.getD k (0, 0)).2) ∧ ∀ x ∈ l, 0 ≤ x.1.2
theorem castZ_nn {ks : List (Int × Int)} (b : Int) : ∀ {l : List ((Int × Int) × Int)}, NNs ks l → (castZ ks l b).nn := fun {l} => by
  refine snoc_ind (P := fun l => NNs ks l → (castZ ks l b).nn) (fun _ => ⟨by simp [castZ, c0], by simp [castZ, c0], by simp [castZ, c0], by simp [castZ, c0]⟩) (fun l x ih h => ?_) l
  have h1 := ih ⟨h.1, fun y hy => h.2 y (by simp [hy])⟩
  have h2 := h.2 x (by simp)
  have h3 := h.1 x.1.1.toNat
  rw [castZ_snoc]
  split
  · exact ⟨by have := h1.n; simp only [layC]; omega, by have := h1.p; simp only [layC]; omega, by have := h1.s; simp only [layC]; omega, by have := h1.d; simp only [layC]; omega⟩
  · exact h1
theorem castZ_app {ks : List (Int × Int)} (b : Int) (l1 : List ((Int × Int) × Int)) (h1 : NNs ks l1) : ∀ (l2 : List ((Int × Int) × Int)), castZ ks (l1 ++ l2) b = mergeC (castZ ks l1 b) (castZ ks l2 b) := fun l2 => by
  refine snoc_ind (P := fun l2 => castZ ks (l1 ++ l2) b = mergeC (castZ ks l1 b) (castZ ks l2 b)) ?_ (fun l x ih => ?_) l2
  · rw [List.append_nil]
    exact (merge_c0 (castZ_nn b h1)).symm
  · rw [← List.append_assoc, castZ_snoc, castZ_snoc, ih]
    split
    · exact layC_merge _ _ _ _
    · rfl
theorem zip_take_next {α β : Type} {a : List α} {b : List β} {k : Nat} {x : α} {y : β} (ha : a[k]? = some x) (hb : b[k]? = some y) : (a.zip b).take (k + 1) = (a.zip b).take k ++ [(x, y)] := by
  have : (a.zip b)[k]? = some (x, y) := by rw [List.getElem?_zip_eq_some]; exact ⟨ha, hb⟩
  rw [List.take_add_one, this]; rfl
theorem caskIn_castZ {h : House} {p : List Int} (hl : p.length = h.ps.length) (b : Int) : ∀ k, k ≤ p.length → caskIn h (inTo p b k) = castZ h.ks ((h.ps.zip p).take k) b
  | 0, _ => rfl
  | k + 1, hk => by
    have ih := caskIn_castZ hl b k (by omega)
    have hx : p[k]? = some (barrelOf p k) := by simp [barrelOf, List.getD, List.getElem?_eq_getElem (show k < p.length by omega)]
    have hp : h.ps[k]? = some (partOf h k) := by simp [partOf, List.getD, List.getElem?_eq_getElem (show k < h.ps.length by omega)]
    rw [zip_take_next hp hx, castZ_snoc, ← ih]
    by_cases e : barrelOf p k = b
    · rw [inTo_yes e, if_pos e, caskIn_snoc]; rfl
    · rw [inTo_no e, if_neg e]
theorem caskIn_zip {h : House} {p : List Int} (hl : p.length = h.ps.length) (b : Int) : caskIn h (inOf p b) = castZ h.ks (h.ps.zip p) b := by
  unfold inOf
  rw [caskIn_castZ hl b _ (Nat.le_refl _), List.take_of_length_le (by rw [List.length_zip]; omega)]
open Go.RowKit

theorem HOK.nns {h : House} (hv : HOK h) (l : List ((Int × Int) × Int)) (hl : ∀ x ∈ l, x.1 ∈ h.ps) : NNs h.ks l := by
  refine ⟨fun k => ?_, fun x hx => ?_⟩
  · cases e : h.ks[k]? with
    | none => simp [List.getD, e]
    | some y => have := hv.k k y e; simp [List.getD, e]; omega
  · obtain ⟨i, hi⟩ := List.getElem?_of_mem (hl x hx)
    have := hv.p i _ hi
    omega
theorem merge_le2 {a b c : Cask} (h : b.leZ c) : (mergeC a b).leZ (mergeC a c) := by
  obtain ⟨h1, h2, h3, h4⟩ := h
  exact ⟨by simp only [mergeC]; omega, by simp only [mergeC]; omega, by simp only [mergeC]; omega, by simp only [mergeC]; omega⟩
theorem ok_nn {c : Cask} (h : c.ok) : c.nn := ⟨h.n0, h.p0, h.s0, h.d0⟩
end Go.Proofs.Ytmbcpmnigggbaaa.Sa
namespace Go.Proofs.Ytmbcpmnigggbaaa.Sa
open Go.RowKit

/-! Parts that weigh less: the plain law of TopSalted. -/
/-- Parts of the same kinds, none of which weighs more. -/
def LeP : List (Int × Int) → List (Int × Int) → Prop
  | [], [] => True
  | x :: xs, y :: ys => x.1 = y.1 ∧ x.2 ≤ y.2 ∧ LeP xs ys
  | _, _ => False
theorem LeP.len : ∀ {a b : List (Int × Int)}, LeP a b → a.length = b.length
  | [], [], _ => rfl
  | x :: xs, y :: ys, h => by simp only [List.length_cons]; rw [LeP.len h.2.2]
  | [], _ :: _, h => h.elim
  | _ :: _, [], h => h.elim
theorem lay_leZ {c d : Cask} (h : c.leZ d) {k x y : Int × Int} (hxy : x.2 ≤ y.2) : (layC c k x).leZ (layC d k y) := by
  obtain ⟨h1, h2, h3, h4⟩ := h
  exact ⟨by simp only [layC]; omega, by simp only [layC]; omega, by simp only [layC]; omega, by simp only [layC]; omega⟩
theorem cast_le (ks : List (Int × Int)) (b : Int) : ∀ (a o : List (Int × Int)) (p : List Int) (c d : Cask), LeP a o → c.leZ d →
    ((a.zip p).foldl (fun c x => if x.2 = b then layC c (ks.getD x.1.1.toNat (0, 0)) x.1 else c) c).leZ ((o.zip p).foldl (fun c x => if x.2 = b then layC c (ks.getD x.1.1.toNat (0, 0)) x.1 else c) d)
  | [], [], _, c, d, _, h => by simpa using h
  | x :: xs, y :: ys, [], c, d, _, h => by simpa using h
  | x :: xs, y :: ys, q :: p, c, d, hl, h => by
    simp only [List.zip_cons_cons, List.foldl_cons]
    refine cast_le ks b xs ys p _ _ hl.2.2 ?_
    rw [hl.1]
    split
    · exact lay_leZ h hl.2.1
    · exact h
  | [], _ :: _, _, _, _, hl, _ => hl.elim
  | _ :: _, [], _, _, _, hl, _ => hl.elim
/-- A house that is another one with lighter parts. -/
structure Lighter (o h : House) : Prop where
  k : o.ks = h.ks
  f : o.fl = h.fl
  b : o.bs = h.bs
  p : LeP o.ps h.ps
theorem leZ_refl (c : Cask) : c.leZ c := ⟨Int.le_refl _, Int.le_refl _, Int.le_refl _, Int.le_refl _⟩
theorem light_cask {o h : House} (H : Lighter o h) {p : List Int} (hl : p.length = h.ps.length) (b : Int) : (caskIn o (inOf p b)).leZ (caskIn h (inOf p b)) := by
  have hlo : p.length = o.ps.length := by rw [hl, LeP.len H.p]
  rw [caskIn_zip hlo, caskIn_zip hl, H.k]
  exact cast_le h.ks b o.ps h.ps p c0 c0 H.p (leZ_refl _)
theorem light_fit {o h : House} (H : Lighter o h) (hv : HOK h) (ho : HOK o) {p : List Int} (hp : p ∈ fitting h 0) : p ∈ fitting o 0 ∧ packF o p ≤ packF h p ∧ usedF o p ≤ usedF h p := by
  obtain ⟨h1, h2, h3⟩ := mem_fitting hp
  have hc := fun b : Int => light_cask H h1 b
  have hlo : p.length = o.ps.length := by rw [h1, LeP.len H.p]
  have hn := fun b : Int => ok_nn (inOf_ok ho (by omega : p.length ≤ o.ps.length) b)
  have hs : ∀ b : Int, saltC o.fl (caskIn o (inOf p b)) ≤ saltC h.fl (caskIn h (inOf p b)) := fun b => by
    rw [H.f]
    exact salt_mono hv.f0 (hn b) (hc b)
  refine ⟨List.mem_filter.2 ⟨mem_allS.2 ⟨hlo, fun x hx => ?_⟩, fitsR_true.2 fun b hb => ?_⟩, ?_, ?_⟩
  · rw [H.b]
    exact h2 x hx
  · rw [H.b] at hb ⊢
    have h4 := fitsR_true.1 h3 b hb
    have h5 := (hc (b : Int)).p
    have h6 := hs (b : Int)
    unfold needC at h4 ⊢
    omega
  · show sumB (saltC o.fl) o p o.bs.length ≤ sumB (saltC h.fl) h p h.bs.length
    rw [H.b]
    have : ∀ n, sumB (saltC o.fl) o p n ≤ sumB (saltC h.fl) h p n := fun n => by
      induction n with
      | zero => exact Int.le_refl _
      | succ n ih => have := hs (n : Int); simp only [sumB]; omega
    exact this _
  · show sumB usedC o p o.bs.length ≤ sumB usedC h p h.bs.length
    rw [H.b]
    have : ∀ n, sumB usedC o p n ≤ sumB usedC h p n := fun n => by
      induction n with
      | zero => exact Int.le_refl _
      | succ n ih =>
        have := (hc (n : Int)).n
        simp only [sumB, usedC]
        split <;> split <;> omega
    exact this _
theorem Lighter.more {o h : House} (H : Lighter o h) (s : Int) : Lighter (moreH o s) (moreH h s) :=
  ⟨H.k, H.f, by show o.bs ++ [s] = h.bs ++ [s]; rw [H.b], H.p⟩
/-- The plain law of the salt of lighter parts. -/
theorem light_plain {o h : House} (H : Lighter o h) (hv : validH h = true) (ho : validH o = true) :
    (isB h = true → isB o = true ∧ (leastS o).1 ≤ (leastS h).1 ∧ (fewS o).1 ≤ (fewS h).1) ∧
    ((buyRet h).2 = 0 → (buyRet o).2 = 0 ∧ 0 ≤ (buyRet o).1 ∧ (buyRet o).1 ≤ (buyRet h).1) := by
  have hV := HOK.ofValid hv
  have hO := HOK.ofValid ho
  have key : ∀ p ∈ packsL h, p ∈ packsL o ∧ packF o p ≤ packF h p ∧ usedF o p ≤ usedF h p := fun p hp => by
    rw [packs_eq hV] at hp
    rw [packs_eq hO]
    exact light_fit H hV hO hp
  have hi1 : isB h = true → isB o = true := isB_mono fun p hp => ⟨_, (key p hp).1⟩
  refine ⟨fun hi => ⟨hi1 hi, least_mono hv ho (fun p hp => ⟨_, (key p hp).1, (key p hp).2.1⟩) hi, few_mono hv ho (fun p hp => ⟨_, (key p hp).1, (key p hp).2.2⟩) hi⟩, fun he => ?_⟩
  have h1 := buy_mono hv ho (by rw [H.b]) hi1 (fun hb s hs hi => ?_) he
  · exact ⟨h1.1, h1.2.1, h1.2.2.1⟩
  have hV2 := HOK.ofValid (valid_more hv hb hs)
  have hO2 := HOK.ofValid (valid_more ho (by rw [H.b]; exact hb) hs)
  rw [isB_iff hO2]
  obtain ⟨p, hp⟩ := (isB_iff hV2).1 hi
  exact ⟨_, (light_fit (H.more s) hV2 hO2 hp).1⟩
/-! Parts with other weights. -/
def laidP : List (Int × Int) → List Int → List (Int × Int)
  | [], _ => []
  | ps, [] => ps
  | p :: ps, w :: ws => (p.1, w) :: laidP ps ws
def laidH (h : House) (ws : List Int) : House := { h with ps := laidP h.ps ws }
theorem laidP_len : ∀ (ps : List (Int × Int)) (ws : List Int), (laidP ps ws).length = ps.length
  | [], _ => rfl
  | _ :: _, [] => rfl
  | p :: ps, w :: ws => by simp only [laidP, List.length_cons, laidP_len ps ws]
theorem laidP_le : ∀ (ps : List (Int × Int)) (ws vs : List Int), ws.length = vs.length → (∀ (i : Nat) x y, ws[i]? = some x → vs[i]? = some y → x ≤ y) → LeP (laidP ps ws) (laidP ps vs)
  | [], _, _, _, _ => trivial
  | p :: ps, [], [], _, _ => by
    have : ∀ l : List (Int × Int), LeP l l := fun l => by
      induction l with
      | nil => trivial
      | cons x xs ih => exact ⟨rfl, Int.le_refl _, ih⟩
    exact this _
  | p :: ps, w :: ws, v :: vs, hl, h => ⟨rfl, h 0 w v rfl rfl, laidP_le ps ws vs (by simpa using hl) fun i x y hx hy => h (i + 1) x y (by simpa using hx) (by simpa using hy)⟩
theorem laidP_at : ∀ (ps : List (Int × Int)) (ws : List Int) (i : Nat) (p : Int × Int), ps[i]? = some p → (laidP ps ws)[i]? = some (p.1, ws.getD i p.2)
  | q :: ps, [], i, p, h => by simpa [laidP] using h
  | q :: ps, w :: ws, 0, p, h => by
    simp at h
    subst h
    simp [laidP]
  | q :: ps, w :: ws, i + 1, p, h => by
    simp only [List.getElem?_cons_succ] at h
    simp only [laidP, List.getElem?_cons_succ]
    rw [laidP_at ps ws i p h]
    simp
  | [], _, i, p, h => by simp at h
theorem laid_light {h : House} {ws vs : List Int} (hl : ws.length = vs.length) (hle : ∀ (i : Nat) x y, ws[i]? = some x → vs[i]? = some y → x ≤ y) : Lighter (laidH h ws) (laidH h vs) := ⟨rfl, rfl, rfl, laidP_le _ _ _ hl hle⟩
theorem laidP_mem : ∀ {ps : List (Int × Int)} {ws : List Int} {x : Int × Int}, x ∈ laidP ps ws → x ∈ ps ∨ ∃ p ∈ ps, ∃ w ∈ ws, x = (p.1, w)
  | [], _, x, h => by simp [laidP] at h
  | p :: ps, [], x, h => .inl (by simpa [laidP] using h)
  | p :: ps, w :: ws, x, h => by
    simp only [laidP, List.mem_cons] at h
    rcases h with rfl | h
    · exact .inr ⟨p, by simp, w, by simp, rfl⟩
    · rcases laidP_mem h with h | ⟨q, hq, v, hv, rfl⟩
      · exact .inl (by simp [h])
      · exact .inr ⟨q, by simp [hq], v, by simp [hv], rfl⟩
theorem valid_laid {h : House} (hv : validH h = true) {ws : List Int} (hw : ∀ w ∈ ws, 0 ≤ w ∧ w ≤ 40) : validH (laidH h ws) = true := by
  unfold validH bigOK at hv ⊢
  unfold laidH
  simp only [Bool.and_eq_true, List.all_eq_true, laidP_len] at hv ⊢
  refine ⟨hv.1, hv.2.1, fun x hx => ?_, hv.2.2.2⟩
  rcases laidP_mem hx with hx | ⟨p, hp, w, hw', rfl⟩
  · exact hv.2.2.1 x hx
  · have h1 := hv.2.2.1 p hp
    unfold partOK at h1 ⊢
    simp only [Bool.and_eq_true] at h1 ⊢
    exact ⟨h1.1, inR_true.2 (hw w hw')⟩
/-- What lighter looks at. -/
theorem lighter_yes {o h : House} (H : Lighter o h) (hv : validH h = true) (ho : validH o = true) :
    ∃ a b e f p q i j, leastS o = (a, e) ∧ leastS h = (b, f) ∧ (∃ c, fewS o = (c, e) ∧ ∃ d, fewS h = (d, f) ∧ (f = 0 → c ≤ d) ∧ 0 ≤ c) ∧ buyRet o = (p, i) ∧ buyRet h = (q, j) ∧ (f = 0 ∧ e = 0 ∧ a ≤ b ∨ f = 3 ∧ (e = 0 ∨ e = 3)) ∧ 0 ≤ a ∧ (j = 0 → i = 0 ∧ p ≤ q ∧ 0 ≤ p) := by
  obtain ⟨h1, h2⟩ := light_plain H hv ho
  obtain ⟨n1, n2, n3, n4, n5⟩ := both_nums hv
  obtain ⟨m1, m2, m3, m4, m5⟩ := both_nums ho
  have hfe : (fewS o).2 = (leastS o).2 := by rcases m1 with ⟨_, e1, e2⟩ | ⟨_, e1, e2⟩ <;> rw [e1, e2]
  have hff : (fewS h).2 = (leastS h).2 := by rcases n1 with ⟨_, e1, e2⟩ | ⟨_, e1, e2⟩ <;> rw [e1, e2]
  have hi0 : (leastS h).2 = 0 → isB h = true := fun e => by
    rcases n1 with ⟨g, _, _⟩ | ⟨_, e1, _⟩
    · exact g
    · rw [e] at e1; cases e1
  refine ⟨(leastS o).1, (leastS h).1, (leastS o).2, (leastS h).2, (buyRet o).1, (buyRet h).1, (buyRet o).2, (buyRet h).2, rfl, rfl, ⟨(fewS o).1, by rw [← hfe], (fewS h).1, by rw [← hff], fun e => (h1 (hi0 e)).2.2, m4⟩, rfl, rfl, ?_, m2, fun e => ?_⟩
  · rcases n1 with ⟨g, e1, _⟩ | ⟨g, e1, _⟩
    · refine .inl ⟨e1, ?_, (h1 g).2.1⟩
      rcases m1 with ⟨_, e2, _⟩ | ⟨g2, _, _⟩
      · exact e2
      · rw [(h1 g).1] at g2; cases g2
    · refine .inr ⟨e1, ?_⟩
      rcases m1 with ⟨_, e2, _⟩ | ⟨_, e2, _⟩
      · exact .inl e2
      · exact .inr e2
  · obtain ⟨b1, b2, b3⟩ := h2 e
    exact ⟨b1, b3, b2⟩
end Go.Proofs.Ytmbcpmnigggbaaa.Sa
namespace Go.Proofs.Ytmbcpmnigggbaaa.Sa
open Go.RowKit

open Go.RowKit

end Go.Proofs.Ytmbcpmnigggbaaa.Sa
namespace Go.Proofs.Ytmbcpmnigggbaaa.Sa
open Go.RowKit

/-! Stock and Buy. -/
theorem ints_capm {W : World} {base : Nat} {A : Option Addr} {n c : Nat} {l : List Int} (h : Ints W base (.slice A n c) l) : c ≤ 9223372036854775807 := by
  rcases h.2 with ⟨e, _⟩ | ⟨g, cap, cur, e, _, _, _, h5, _⟩
  · cases e; omega
  · cases e; unfold maxLen at h5; omega
theorem Copied.cap3 {W : World} {n0 n1 n2 : Nat} {L : HL} {h : House} (H : Copied W n0 n1 n2 L h) : h.bs.length ≤ L.cb ∧ (L.Ab = none → L.cb = 0) ∧ L.cb ≤ 9223372036854775807 := ⟨H.cap.1, H.cap.2, ints_capm H.b⟩
end Go.Proofs.Ytmbcpmnigggbaaa.Sa
namespace Go.Proofs.Ytmbcpmnigggbaaa.Sa
open Go.RowKit

end Go.Proofs.Ytmbcpmnigggbaaa.Sa
namespace Go.Proofs.Ytmbcpmnigggbaaa.Sa
open Go.RowKit

/-- The memory of a law without a copy. -/
structure LawN (W : World) (s : Nat) (L : HL) (h : House) : Prop where
  H : HouseAt W W.heap.size L h
  x : HBox W s L h
theorem LawN.next {W W' : World} {s : Nat} {L : HL} {h : House} (M : LawN W s L h) (hb : Below W.heap.size W W') : LawN W' s L h :=
  ⟨M.H.below hb, M.x.of (hb.block _ M.x.lt)⟩
theorem LawN.c {W : World} {s : Nat} {L : HL} {h : House} (M : LawN W s L h) : W.cell? ⟨s, 0, none⟩ = some (.slice L.Ak h.ks.length L.ck) ∧ W.cell? ⟨s, 1, none⟩ = some (.int .i64 h.fl) ∧ W.cell? ⟨s, 2, none⟩ = some (.slice L.Ap h.ps.length L.cp) ∧ W.cell? ⟨s, 3, none⟩ = some (.slice L.Ab h.bs.length L.cb) := M.x.cells
theorem LawN.new {w : World} {L : HL} {h : House} (hH : HouseAt w w.heap.size L h) : ∃ W0, w.alloc (.cells #[.slice L.Ak h.ks.length L.ck, .int .i64 h.fl, .slice L.Ap h.ps.length L.cp, .slice L.Ab h.bs.length L.cb] 27) = W0 ∧ LawN W0 w.heap.size L h ∧ Below w.heap.size w W0 := by
  have hbw := (Below.refl w.heap.size w).alloc (Nat.le_refl _) (.cells #[.slice L.Ak h.ks.length L.ck, .int .i64 h.fl, .slice L.Ap h.ps.length L.cp, .slice L.Ab h.bs.length L.cb] 27)
  exact ⟨_, rfl, ⟨hH.below hbw, HBox.new w L h⟩, hbw⟩
end Go.Proofs.Ytmbcpmnigggbaaa.Sa
namespace Go.Proofs.Ytmbcpmnigggbaaa.Sa
open Go.RowKit

/-! SaltBuy. -/
/-- The memory of a law, as it is carried on. -/
structure LawW (W0 W : World) (s : Nat) (L : HL) (h : House) : Prop where
  M : LawN W s L h
  B : Below W0.heap.size W0 W
theorem LawW.next {W0 W W' : World} {s : Nat} {L : HL} {h : House} (H : LawW W0 W s L h) (hb : Below W.heap.size W W') : LawW W0 W' s L h := ⟨H.M.next hb, hb0to H.B hb⟩
theorem LawW.new {W : World} {s : Nat} {L : HL} {h : House} (H : LawN W s L h) : LawW W W s L h := ⟨H, Below.refl _ _⟩
end Go.Proofs.Ytmbcpmnigggbaaa.Sa
namespace Go.Proofs.Ytmbcpmnigggbaaa.Sa
open Go.RowKit

theorem Ints.setAt {W : World} {base n c g : Nat} {l : List Int} (h : Ints W base (.slice (some ⟨g, 0, none⟩) n c) l) {i : Nat} (hi : i < l.length) (x : Int) : Ints (W.setCell ⟨g, i, none⟩ (.int .i64 x)) base (.slice (some ⟨g, 0, none⟩) n c) (l.set i x) ∧ W.frozen? ⟨g, i, none⟩ = false ∧ ∃ y, W.cell? ⟨g, i, none⟩ = some (.int .i64 y) := by
  rcases h.2 with ⟨e, h0⟩ | ⟨g', cap, cur, e, hb, hg, h1, h5, h2, h3⟩
  · cases e
  · cases e
    have h3' : cur.toList.take l.length = l.map (Value.int .i64) := by simpa using h3
    refine ⟨⟨by simp, .inr ⟨g, c, _, by rw [List.length_set], hb, heap_set (.int .i64 x) hg, by rw [List.length_set]; exact h1, h5, by simpa using h2, ?_⟩⟩, by simp [World.frozen?, hg], l[i], ?_⟩
    · rw [List.length_set, Nat.mul_one, Array.toList_setIfInBounds, List.take_set, h3', List.map_set]
    · have : cur[i]? = some (.int .i64 l[i]) := by
        have e2 : (cur.toList.take l.length)[i]? = some (.int .i64 l[i]) := by rw [h3', List.getElem?_map, List.getElem?_eq_getElem hi]; rfl
        rw [List.getElem?_take_of_lt hi] at e2
        simpa using e2
      simp [World.cell?, hg, this]
theorem pairCells_set : ∀ (ns : List (Int × Int)) (i : Nat) (x : Int × Int), pairCells (ns.set i x) = ((pairCells ns).set (i * 2) (.int .i64 x.1)).set (i * 2 + 1) (.int .i64 x.2)
  | [], i, x => by simp [pairCells]
  | y :: ns, 0, x => rfl
  | y :: ns, i + 1, x => by
    show _ :: _ :: pairCells (ns.set i x) = _
    rw [pairCells_set ns i x]
    rw [show (i + 1) * 2 = i * 2 + 1 + 1 by omega]
    rfl
theorem OwnsP.setAt {W : World} {base n c g : Nat} {ns : List (Int × Int)} (h : OwnsP W 97 base (.slice (some ⟨g, 0, none⟩) n c) ns) {i : Nat} (hi : i < ns.length) (x : Int × Int) : OwnsP ((W.setCell ⟨g, i * 2, none⟩ (.int .i64 x.1)).setCell ⟨g, i * 2 + 1, none⟩ (.int .i64 x.2)) 97 base (.slice (some ⟨g, 0, none⟩) n c) (ns.set i x) ∧ (∀ o, W.frozen? ⟨g, o, none⟩ = false) ∧ ∃ y z, W.cell? ⟨g, i * 2, none⟩ = some (.int .i64 y) ∧ W.cell? ⟨g, i * 2 + 1, none⟩ = some (.int .i64 z) := by
  rcases h.2 with ⟨e, h0⟩ | ⟨g', cap, cur, e, hb, hg, h1, h5, h2, h3⟩
  · cases e
  · cases e
    have hlen := pairCells_len ns
    obtain ⟨c0, c1⟩ := pairCells_at ns i ns[i] (List.getElem?_eq_getElem hi)
    have hcell : ∀ (j : Nat) (v : Value), (pairCells ns)[j]? = some v → cur[j]? = some v := fun j v hv => by
      have hj := (List.getElem?_eq_some_iff.1 hv).1
      rw [← h3, List.getElem?_take_of_lt (by omega)] at hv
      simpa using hv
    refine ⟨⟨by rw [pairCells_len], .inr ⟨g, c, _, by rw [List.length_set], hb, heap_set (.int .i64 x.2) (heap_set (.int .i64 x.1) hg), by rw [List.length_set]; exact h1, h5, by simpa using h2, ?_⟩⟩, fun o => by simp [World.frozen?, hg], ns[i].1, ns[i].2, ?_, ?_⟩
    · rw [List.length_set, Array.toList_setIfInBounds, Array.toList_setIfInBounds, List.take_set, List.take_set, h3, pairCells_set]
    · simp [World.cell?, hg, hcell _ _ c0]
    · simp [World.cell?, hg, hcell _ _ c1]
theorem owns_other {W : World} {base e size n b o : Nat} {u v : Value} {xs : List Value} (h : W.ownsRow base e size v n xs) (hne : ∀ g, v.ownBlock = some g → g ≠ b) : (W.setCell ⟨b, o, none⟩ u).ownsRow base e size v n xs := by
  refine ⟨h.1, ?_⟩
  rcases h.2 with h2 | ⟨g, cap, cur, e, hb2, hg, h4⟩
  · exact .inl h2
  · refine .inr ⟨g, cap, cur, e, hb2, (set_other_heap (heap_lt hg) (hne g ?_)).trans hg, h4⟩
    rw [e]; rfl
theorem Copied.setB {W : World} {n0 n1 n2 g : Nat} {L : HL} {h : House} (H : Copied W n0 n1 n2 L h) (hA : L.Ab = some ⟨g, 0, none⟩) {i : Nat} (hi : i < h.bs.length) (x : Int) : Copied (W.setCell ⟨g, i, none⟩ (.int .i64 x)) n0 n1 n2 L { h with bs := h.bs.set i x } := by
  have hb : Ints W n2 (.slice (some ⟨g, 0, none⟩) h.bs.length L.cb) h.bs := by have := H.b; rw [hA] at this; exact this
  have hg := (World.ownsRow.lt hb g rfl).1
  have h12 := H.n12
  refine ⟨owns_other H.k fun g' hg' => by have := H.k1 g' hg'; omega, H.k1, owns_other H.p fun g' hg' => by have := H.p1 g' hg'; omega, H.p1, ?_, H.n01, H.n12⟩
  simp only [List.length_set, hA]
  exact (hb.setAt hi x).1
theorem Copied.setP {W : World} {n0 n1 n2 g : Nat} {L : HL} {h : House} (H : Copied W n0 n1 n2 L h) (hA : L.Ap = some ⟨g, 0, none⟩) {i : Nat} (hi : i < h.ps.length) (x : Int × Int) : Copied ((W.setCell ⟨g, i * 2, none⟩ (.int .i64 x.1)).setCell ⟨g, i * 2 + 1, none⟩ (.int .i64 x.2)) n0 n1 n2 L { h with ps := h.ps.set i x } := by
  have hp : OwnsP W 97 n1 (.slice (some ⟨g, 0, none⟩) h.ps.length L.cp) h.ps := by have := H.p; rw [hA] at this; exact this
  have hg := (World.ownsRow.lt hp g rfl).1
  have hg2 := H.p1 g (by rw [hA]; rfl)
  refine ⟨owns_other (owns_other H.k fun g' hg' => by have := H.k1 g' hg'; omega) fun g' hg' => by have := H.k1 g' hg'; omega, H.k1, ?_, ?_, owns_other (owns_other H.b fun g' hg' => by have := (World.ownsRow.lt H.b g' hg').1; omega) fun g' hg' => by have := (World.ownsRow.lt H.b g' hg').1; omega, H.n01, H.n12⟩
  · simp only [List.length_set, hA]
    exact (OwnsP.setAt hp hi x).1
  · simp only [List.length_set]
    exact H.p1
/-- The first ones new, the others old. -/
def mixL {α : Type} (old new : List α) (k : Nat) : List α := new.take k ++ old.drop k
theorem mixL_zero {α : Type} (old new : List α) : mixL old new 0 = old := by simp [mixL]
theorem mixL_len {α : Type} {old new : List α} (hl : new.length = old.length) (k : Nat) : (mixL old new k).length = old.length := by
  simp only [mixL, List.length_append, List.length_take, List.length_drop]; omega
theorem mixL_all {α : Type} {old new : List α} (hl : new.length = old.length) : mixL old new old.length = new := by
  unfold mixL
  rw [List.take_of_length_le (by omega), List.drop_eq_nil_of_le (Nat.le_refl _), List.append_nil]
theorem mixL_next {α : Type} {old new : List α} {k : Nat} {x : α} (hl : new.length = old.length) (hk : k < old.length) (hx : new[k]? = some x) : mixL old new (k + 1) = (mixL old new k).set k x := by
  unfold mixL
  have hkt : (new.take k).length = k := by rw [List.length_take]; omega
  rw [List.set_append, if_neg (by omega), hkt, Nat.sub_self, List.drop_eq_getElem_cons hk, List.set_cons_zero, List.take_add_one, hx]
  simp
end Go.Proofs.Ytmbcpmnigggbaaa.Sa
namespace Go.Proofs.Ytmbcpmnigggbaaa.Sa
open Go.RowKit

/-- The copy, in a box of its own. -/
structure TurnO (W : World) (s bo : Nat) (Lo : HL) (o : House) : Prop where
  z : HBox W bo Lo o
  C : ∃ n0 n1 n2, Copied W n0 n1 n2 Lo o ∧ s ≤ n0
theorem TurnO.next {W W' : World} {s bo : Nat} {Lo : HL} {o : House} (H : TurnO W s bo Lo o) (hb : Below W.heap.size W W') : TurnO W' s bo Lo o := by
  obtain ⟨n0, n1, n2, hC, hs⟩ := H.C
  exact ⟨H.z.of (hb.block _ H.z.lt), n0, n1, n2, hC.below hb, hs⟩
theorem TurnO.house {W : World} {s bo : Nat} {Lo : HL} {o : House} (H : TurnO W s bo Lo o) : HouseAt W W.heap.size Lo o := by
  obtain ⟨n0, n1, n2, hC, hs⟩ := H.C
  exact hC.house
theorem TurnO.cap {W : World} {s bo : Nat} {Lo : HL} {o : House} (H : TurnO W s bo Lo o) : o.bs.length ≤ Lo.cb ∧ (Lo.Ab = none → Lo.cb = 0) ∧ Lo.cb ≤ 9223372036854775807 := by
  obtain ⟨n0, n1, n2, hC, hs⟩ := H.C
  exact hC.cap3
theorem TurnO.new {W : World} {s n0 n1 n2 : Nat} {Lo : HL} {o : House} (C : Copied W n0 n1 n2 Lo o) (hs : s ≤ n0) : TurnO (W.alloc (.cells #[.slice Lo.Ak o.ks.length Lo.ck, .int .i64 o.fl, .slice Lo.Ap o.ps.length Lo.cp, .slice Lo.Ab o.bs.length Lo.cb] 27)) s W.heap.size Lo o :=
  ⟨HBox.new W Lo o, n0, n1, n2, C.below ((Below.refl _ W).alloc (Nat.le_refl _) _), hs⟩
theorem TurnO.putP {W : World} {s bo : Nat} {Lo : HL} {o : House} (H : TurnO W s bo Lo o) {i : Nat} (hi : i < o.ps.length) : ∃ g, Lo.Ap = some ⟨g, 0, none⟩ ∧ s ≤ g ∧ g ≠ bo ∧ (∀ q, W.frozen? ⟨g, q, none⟩ = false) ∧ (∃ y z, W.cell? ⟨g, i * 2, none⟩ = some (.int .i64 y) ∧ W.cell? ⟨g, i * 2 + 1, none⟩ = some (.int .i64 z)) ∧ ∀ x : Int × Int, TurnO ((W.setCell ⟨g, i * 2, none⟩ (.int .i64 x.1)).setCell ⟨g, i * 2 + 1, none⟩ (.int .i64 x.2)) s bo Lo { o with ps := o.ps.set i x } := by
  obtain ⟨n0, n1, n2, hC, hs⟩ := H.C
  have hp := hC.p
  obtain ⟨g, eA, hg⟩ : ∃ g, Lo.Ap = some ⟨g, 0, none⟩ ∧ n1 ≤ g := by
    rcases hp.2 with ⟨_, h0⟩ | ⟨g, cap, cur, e, hb, _⟩
    · omega
    · refine ⟨g, ?_, hb⟩
      cases hh : Lo.Ap <;> rw [hh] at e <;> cases e
      rfl
  have hp2 : OwnsP W 97 n1 (.slice (some ⟨g, 0, none⟩) o.ps.length Lo.cp) o.ps := by rw [eA] at hp; exact hp
  obtain ⟨_, f1, f2⟩ := OwnsP.setAt hp2 hi (0, 0)
  have h1 := hC.n01
  have hne : g ≠ bo := box_ne hp2 H.z (by decide) g rfl
  refine ⟨g, eA, by omega, hne, f1, f2, fun x => ⟨?_, n0, n1, n2, hC.setP eA hi x, hs⟩⟩
  have := (H.z.of (set_other_heap (o := i * 2) (u := .int .i64 x.1) H.z.lt hne.symm))
  have := this.of (set_other_heap (o := i * 2 + 1) (u := .int .i64 x.2) this.lt hne.symm)
  unfold HBox at this ⊢
  simp only [List.length_set]
  exact this
end Go.Proofs.Ytmbcpmnigggbaaa.Sa
namespace Go.Proofs.Ytmbcpmnigggbaaa.Sa
open Go.RowKit

/-! A house with other weights: laid 16. -/
theorem al_below (w : World) (o : Obj) : Below w.heap.size w (w.alloc o) := (Below.refl _ w).alloc (Nat.le_refl _) o
theorem mixL_at {α : Type} {old new : List α} {k : Nat} (hl : new.length = old.length) (hk : k < old.length) : (mixL old new k)[k]? = old[k]? := by
  unfold mixL
  have hkt : (new.take k).length = k := by rw [List.length_take]; omega
  rw [List.getElem?_append_right (by omega), hkt, List.getElem?_drop]
  simp
theorem mixL_laid : ∀ (ps : List (Int × Int)) (ws : List Int) (k : Nat), ws.length ≤ k → mixL ps (laidP ps ws) k = laidP ps ws
  | [], ws, k, _ => by simp [mixL, laidP]
  | p :: ps, [], k, _ => by simp [mixL, laidP]
  | p :: ps, w :: ws, 0, h => by simp at h
  | p :: ps, w :: ws, k + 1, h => by
    have := mixL_laid ps ws k (by simpa using h)
    unfold mixL at this ⊢
    simp only [laidP, List.take_succ_cons, List.drop_succ_cons, List.cons_append, this]
theorem laid_end {ps : List (Int × Int)} {ws : List Int} {k : Nat} (h : k = ps.length ∨ ws.length ≤ k) : mixL ps (laidP ps ws) k = laidP ps ws := by
  rcases h with rfl | h
  · exact mixL_all (laidP_len _ _)
  · exact mixL_laid _ _ _ h
/-- Room behind the barrels. -/
def Caps (L : HL) (h : House) : Prop := h.bs.length ≤ L.cb ∧ (L.Ab = none → L.cb = 0) ∧ L.cb ≤ 9223372036854775807
/-- The memory of laid. -/
structure LaidM (w : World) (bo : Nat) (Lo : HL) (o : House) (W : World) : Prop where
  B : Below w.heap.size w W
  z : ZBox W (w.heap.size + 1)
  O : TurnO W (w.heap.size + 2) bo Lo o
theorem LaidM.next {w W W' : World} {bo : Nat} {Lo : HL} {o : House} (M : LaidM w bo Lo o W) (hb : Below W.heap.size W W') : LaidM w bo Lo o W' :=
  ⟨hb0to M.B hb, (hb.block _ (heap_lt M.z)).trans M.z, M.O.next hb⟩
set_option maxRecDepth 100000 in
set_option maxHeartbeats 4000000 in
theorem laid_any (L : HL) (h : House) (hn : h.ks.length ≤ 1000 ∧ h.ps.length ≤ 1000 ∧ h.bs.length ≤ 1000) (hok : HLOK L h) (A : Option Addr) (c : Nat) (ws : List Int) (hwl : ws.length ≤ 1000) (w : World) (hH : HouseAt w w.heap.size L h) (hI : IntsAt w w.heap.size A ws) :
    Calls Try.prog 16 #[L.enc h, .slice A ws.length c] w fun e w' => (∃ Lo, e = .returned (HL.enc Lo (laidH h ws)) ∧ HouseAt w' w'.heap.size Lo (laidH h ws) ∧ Caps Lo (laidH h ws)) ∧ Below w.heap.size w w' := by
  have hb0 : Below w.heap.size w ((w.alloc (.cells #[.slice L.Ak h.ks.length L.ck, .int .i64 h.fl, .slice L.Ap h.ps.length L.cp, .slice L.Ab h.bs.length L.cb] 27)).alloc (.cells #[.slice none 0 0, .int .i64 0, .slice none 0 0, .slice none 0 0] 27)) :=
    ((Below.refl _ _).alloc (Nat.le_refl _) _).alloc (by simp) _
  have hx0 := (HBox.new w L h).of (Below.heap_alloc (w.alloc (.cells #[.slice L.Ak h.ks.length L.ck, .int .i64 h.fl, .slice L.Ap h.ps.length L.cp, .slice L.Ab h.bs.length L.cb] 27)) (.cells #[.slice none 0 0, .int .i64 0, .slice none 0 0, .slice none 0 0] 27) w.heap.size (by simp))
  have hy0 := World.alloc_heap_new (w.alloc (.cells #[.slice L.Ak h.ks.length L.ck, .int .i64 h.fl, .slice L.Ap h.ps.length L.cp, .slice L.Ab h.bs.length L.cb] 27)) (.cells #[.slice none 0 0, .int .i64 0, .slice none 0 0, .slice none 0 0] 27)
  rw [World.size_alloc] at hy0
  have HOK' := Lib.hid hok
  have HN := Lib.hid hn
  have HH := Lib.hid hH
  have HI := Lib.hid hI
  obtain ⟨W0, hW0⟩ : ∃ W0, W0 = (w.alloc (.cells #[.slice L.Ak h.ks.length L.ck, .int .i64 h.fl, .slice L.Ap h.ps.length L.cp, .slice L.Ab h.bs.length L.cb] 27)).alloc (.cells #[.slice none 0 0, .int .i64 0, .slice none 0 0, .slice none 0 0] 27) := ⟨_, rfl⟩
  rw [← hW0] at hb0 hx0 hy0
  have HB0 := Lib.hid hb0
  have HX0 := Lib.hid hx0
  have HY0 := Lib.hid hy0
  have HW0 := Lib.hid hW0
  clear hok hH hI hb0 hx0 hy0 hW0
  go_enter Try.func16, Try.ntmps16
  go_upto_region 1 with (fail)
  have e := HW0.out
  rw [← e]
  clear e
  have xc := HX0.out.cells
  go_upto_region 2 with (go_at_call 67; refine (copy_any L h HN.out HOK'.out W0 (HH.out.below HB0.out)).mono ?_; rintro e w2 ⟨⟨⟨Bk, dk, Bp, dp, Bb, db⟩, n1, n2, rfl, hC⟩, hb2⟩; have HC := Lib.hid hC; have HB2 := Lib.hid hb2; clear hC hb2)
  have hs2 : w.heap.size + 2 ≤ W0.heap.size := heap_lt HY0.out
  have O0 := TurnO.new HC.out hs2
  have hbw := al_below w2 (.cells #[.slice Bk h.ks.length dk, .int .i64 h.fl, .slice Bp h.ps.length dp, .slice Bb h.bs.length db] 27)
  obtain ⟨W2, hW2⟩ : ∃ W2, w2.alloc (.cells #[.slice Bk h.ks.length dk, .int .i64 h.fl, .slice Bp h.ps.length dp, .slice Bb h.bs.length db] 27) = W2 := ⟨_, rfl⟩
  obtain ⟨bo, hbo⟩ : ∃ bo, w2.heap.size = bo := ⟨_, rfl⟩
  have M0 := Lib.hid (show LaidM w bo ⟨Bk, dk, Bp, dp, Bb, db⟩ h W2 from by
    subst hbo
    subst hW2
    exact ⟨hb0to (hb0to HB0.out HB2.out) hbw, (hbw.block _ (heap_lt ((HB2.out.block _ (heap_lt HY0.out)).trans HY0.out))).trans ((HB2.out.block _ (heap_lt HY0.out)).trans HY0.out), O0⟩)
  rw [hW2, hbo]
  clear O0 hbw hW2 hbo HC HB2 HX0 HY0 HW0 xc hs2
  go_wp2_with (fail)
  go_loopw [6] (fun i wr => ∃ k : Nat, k ≤ h.ps.length ∧ k ≤ ws.length ∧ i = .int .i64 k ∧ Hid (LaidM w bo ⟨Bk, dk, Bp, dp, Bb, db⟩ { h with ps := mixL h.ps (laidP h.ps ws) k } wr)) (fun i _ => h.ps.length - (intOf i).toNat)
  case atStart => exact ⟨0, Nat.zero_le _, Nat.zero_le _, rfl, Lib.hid (by rw [mixL_zero]; exact M0.out)⟩
  case round =>
    clear M0
    obtain ⟨k, hk, hkw, rfl, M⟩ := hrel
    have hml : (mixL h.ps (laidP h.ps ws) k).length = h.ps.length := mixL_len (laidP_len _ _) k
    obtain ⟨z0, z1, z2, z3⟩ := M.out.O.z.cells
    simp only [hml] at z2
    by_cases hlt : k < h.ps.length
    · have g1 : decide ((k : Int) < (h.ps.length : Int)) = true := decide_eq_true (by omega)
      have g1' : (k : Int) < (h.ps.length : Int) := by omega
      by_cases hlw : k < ws.length
      · have g2 : decide ((k : Int) < (ws.length : Int)) = true := decide_eq_true (by omega)
        have g2' : (k : Int) < (ws.length : Int) := by omega
        obtain ⟨⟨x, xx⟩, hx⟩ : ∃ x, h.ps[k]? = some x := ⟨_, List.getElem?_eq_getElem hlt⟩
        obtain ⟨y, hy⟩ : ∃ y, ws[k]? = some y := ⟨_, List.getElem?_eq_getElem hlw⟩
        obtain ⟨b2, o2, hA, b2lt, e2⟩ := HI.out.at_ hy
        have e3 := (M.out.B.cell (p := ⟨b2, o2 + k, none⟩) b2lt).trans e2
        subst hA
        obtain ⟨gP, eP, hgs, hgb, hfz, _, _⟩ := M.out.O.putP (i := k) (by show k < (mixL h.ps (laidP h.ps ws) k).length; rw [hml]; exact hlt)
        simp only at eP
        obtain ⟨b1, o1, eA, b1lt, cx, cy⟩ := M.out.O.house.p.at_ (k := k) (x := (x, xx)) (by show (mixL h.ps (laidP h.ps ws) k)[k]? = _; rw [mixL_at (laidP_len _ _) hlt]; exact hx)
        simp only at eA cx cy
        rw [eP] at eA
        cases eA
        subst eP
        clear e2
        simp only [Nat.zero_add] at cx cy
        go_upto_region 6 with (fail)
        have hq3 := World.alloc_heap_new wr (.cells #[.int .i64 x, .int .i64 xx] 97)
        have hb3 := al_below wr (.cells #[.int .i64 x, .int .i64 xx] 97)
        have hbq := M.out.O.z.lt
        have e4 := (hb3.cell (p := ⟨b2, o2 + k, none⟩) (Nat.lt_of_lt_of_le b2lt M.out.B.size)).trans e3
        obtain ⟨W3, hW3⟩ : ∃ W3, wr.alloc (.cells #[.int .i64 x, .int .i64 xx] 97) = W3 := ⟨_, rfl⟩
        obtain ⟨qz, hqz⟩ : ∃ qz, wr.heap.size = qz := ⟨_, rfl⟩
        rw [hW3] at hq3 hb3 e4 ⊢
        have hb4 := hb3.setCell (p := ⟨qz, 1, none⟩) (by rw [← hqz]; exact Nat.le_refl _) (.int .i64 y)
        have hq4 : (W3.setCell ⟨qz, 1, none⟩ (.int .i64 y)).heap[qz]? = some (.cells #[.int .i64 x, .int .i64 y] 97 (0, 0)) := by rw [hqz] at hq3; exact heap_set (o := 1) (.int .i64 y) hq3
        rw [hqz] at hq3 hbq ⊢
        have p1 : W3.cell? ⟨qz, 1, none⟩ = some (.int .i64 xx) := by simp [World.cell?, hq3]
        have pf : W3.frozen? ⟨qz, 1, none⟩ = false := by simp [World.frozen?, hq3]
        clear hb3 hq3 e3 z0 z1 z3 cx cy hW3
        have M4 := Lib.hid (M.out.next hb4)
        clear M hb4 z2
        have HQ4 := Lib.hid hq4
        clear hq4
        go_upto_region 7 with (fail)
        obtain ⟨W4, hW4⟩ : ∃ W4, W3.setCell ⟨qz, 1, none⟩ (.int .i64 y) = W4 := ⟨_, rfl⟩
        rw [hW4] at M4 HQ4 ⊢
        have p0 : W4.cell? ⟨qz, 0, none⟩ = some (.int .i64 x) := by simp [World.cell?, HQ4.out]
        have p2 : W4.cell? ⟨qz, 1, none⟩ = some (.int .i64 y) := by simp [World.cell?, HQ4.out]
        clear hW4 p1 pf e4
        obtain ⟨z0, z1, z2, z3⟩ := M4.out.O.z.cells
        simp only [hml] at z2
        obtain ⟨g5, eP5, hgs5, hgb5, hfz5, ⟨y5, yy5, hy5, hyy5⟩, hput5⟩ := M4.out.O.putP (i := k) (by show k < (mixL h.ps (laidP h.ps ws) k).length; rw [hml]; exact hlt)
        cases eP5
        have PUT := Lib.hid (hput5 (x, y))
        have n1 : ¬ gP = w.heap.size + 1 := by omega
        have HNX := Lib.hid (mixL_next (laidP_len h.ps ws) hlt (show (laidP h.ps ws)[k]? = some (x, y) by rw [laidP_at h.ps ws k (x, xx) hx, List.getD_eq_getElem?_getD, hy]; rfl))
        have M5 := Lib.hid (show LaidM w bo ⟨Bk, dk, some ⟨gP, 0, none⟩, dp, Bb, db⟩ { h with ps := mixL h.ps (laidP h.ps ws) (k + 1) } ((W4.setCell ⟨gP, k * 2, none⟩ (.int .i64 x)).setCell ⟨gP, k * 2 + 1, none⟩ (.int .i64 y)) from
          ⟨(M4.out.B.setCell (p := ⟨gP, k * 2, none⟩) (by show w.heap.size ≤ gP; omega) _).setCell (p := ⟨gP, k * 2 + 1, none⟩) (by show w.heap.size ≤ gP; omega) _, (set_other_heap (by rw [World.size_setCell]; exact heap_lt M4.out.z) (fun e => n1 e.symm)).trans ((set_other_heap (heap_lt M4.out.z) (fun e => n1 e.symm)).trans M4.out.z), by rw [HNX.out]; exact PUT.out⟩)
        clear hput5 PUT HNX hx hy z0 z1 z3
        go_wp2_with (fail)
        go_roundw
        case rel => exact ⟨k + 1, by omega, by omega, by go_num, M5⟩
        case measure => simp [intOf]; omega
      · have g2 : decide ((k : Int) < (ws.length : Int)) = false := decide_eq_false (by omega)
        have g2' : ¬ (k : Int) < (ws.length : Int) := by omega
        have HE := Lib.hid (laid_end (ps := h.ps) (ws := ws) (k := k) (.inr (by omega)))
        have yc := zbox_cells M.out.z
        have yf := zbox_frozen M.out.z
        go_wp2_with (fail)
        have hz0 := M.out.z
        obtain ⟨n0, n1, n2, hC, hs⟩ := M.out.O.C
        rw [HE.out] at hC
        refine bodyPost_ret (results_cell rfl rfl (box_store hz0 _ _ _ _)) rfl ⟨⟨⟨Bk, dk, Bp, dp, Bb, db⟩, ?_, ?_, M.out.O.cap⟩, below_set4 M.out.B (by omega) _ _ _ _⟩
        · simp [HL.enc, laidH, laidP_len]
        · exact (hC.set_box4 hz0 _ _ _ _).house
    · have g1 : decide ((k : Int) < (h.ps.length : Int)) = false := decide_eq_false (by omega)
      have g1' : ¬ (k : Int) < (h.ps.length : Int) := by omega
      have HE := Lib.hid (laid_end (ps := h.ps) (ws := ws) (k := k) (.inl (by omega)))
      have yc := zbox_cells M.out.z
      have yf := zbox_frozen M.out.z
      go_wp2_with (fail)
      have hz0 := M.out.z
      obtain ⟨n0, n1, n2, hC, hs⟩ := M.out.O.C
      rw [HE.out] at hC
      refine bodyPost_ret (results_cell rfl rfl (box_store hz0 _ _ _ _)) rfl ⟨⟨⟨Bk, dk, Bp, dp, Bb, db⟩, ?_, ?_, M.out.O.cap⟩, below_set4 M.out.B (by omega) _ _ _ _⟩
      · simp [HL.enc, laidH, laidP_len]
      · exact (hC.set_box4 hz0 _ _ _ _).house
end Go.Proofs.Ytmbcpmnigggbaaa.Sa
namespace Go.Proofs.Ytmbcpmnigggbaaa.Sa
open Go.RowKit

/-! What a lighter house needs: lighter 15. -/
structure LiM (w : World) (L1 L2 : HL) (o h : House) (W : World) : Prop where
  B : Below w.heap.size w W
  x : HBox W w.heap.size L1 o
  y : HBox W (w.heap.size + 1) L2 h
  h1 : HouseAt W W.heap.size L1 o
  h2 : HouseAt W W.heap.size L2 h
theorem LiM.next {w W W' : World} {L1 L2 : HL} {o h : House} (M : LiM w L1 L2 o h W) (hb : Below W.heap.size W W') : LiM w L1 L2 o h W' :=
  ⟨hb0to M.B hb, M.x.of (hb.block _ M.x.lt), M.y.of (hb.block _ M.y.lt), M.h1.below hb, M.h2.below hb⟩
theorem LiM.cells {w W : World} {L1 L2 : HL} {o h : House} (M : LiM w L1 L2 o h W) :
    (W.cell? ⟨w.heap.size, 0, none⟩ = some (.slice L1.Ak o.ks.length L1.ck) ∧ W.cell? ⟨w.heap.size, 1, none⟩ = some (.int .i64 o.fl) ∧ W.cell? ⟨w.heap.size, 2, none⟩ = some (.slice L1.Ap o.ps.length L1.cp) ∧ W.cell? ⟨w.heap.size, 3, none⟩ = some (.slice L1.Ab o.bs.length L1.cb)) ∧
    W.cell? ⟨w.heap.size + 1, 0, none⟩ = some (.slice L2.Ak h.ks.length L2.ck) ∧ W.cell? ⟨w.heap.size + 1, 1, none⟩ = some (.int .i64 h.fl) ∧ W.cell? ⟨w.heap.size + 1, 2, none⟩ = some (.slice L2.Ap h.ps.length L2.cp) ∧ W.cell? ⟨w.heap.size + 1, 3, none⟩ = some (.slice L2.Ab h.bs.length L2.cb) :=
  ⟨M.x.cells, M.y.cells⟩
theorem valid_small {h : House} (hv : validH h = true) : h.ks.length ≤ 1000 ∧ h.ps.length ≤ 1000 ∧ h.bs.length ≤ 1000 := by
  have hV := HOK.ofValid hv
  have h1 := hV.kl
  have h2 := hV.pl
  have h3 := hV.bl
  omega
set_option maxRecDepth 100000 in
set_option maxHeartbeats 4000000 in
theorem lighter_any {o h : House} (H : Lighter o h) (hv : validH h = true) (ho : validH o = true) (L1 L2 : HL) (k1 : Caps L1 o) (k2 : Caps L2 h) (w : World) (h1 : HouseAt w w.heap.size L1 o) (h2 : HouseAt w w.heap.size L2 h) :
    Calls Try.prog 15 #[L1.enc o, L2.enc h] w fun e w' => e = .returned (.bool true) ∧ Below w.heap.size w w' := by
  have n1 := valid_small ho
  have n2 := valid_small hv
  have M := Lib.hid (show LiM w L1 L2 o h ((w.alloc (.cells #[.slice L1.Ak o.ks.length L1.ck, .int .i64 o.fl, .slice L1.Ap o.ps.length L1.cp, .slice L1.Ab o.bs.length L1.cb] 27)).alloc (.cells #[.slice L2.Ak h.ks.length L2.ck, .int .i64 h.fl, .slice L2.Ap h.ps.length L2.cp, .slice L2.Ab h.bs.length L2.cb] 27)) from by
    have hb := hb0to (al_below w (.cells #[.slice L1.Ak o.ks.length L1.ck, .int .i64 o.fl, .slice L1.Ap o.ps.length L1.cp, .slice L1.Ab o.bs.length L1.cb] 27)) (al_below _ (.cells #[.slice L2.Ak h.ks.length L2.ck, .int .i64 h.fl, .slice L2.Ap h.ps.length L2.cp, .slice L2.Ab h.bs.length L2.cb] 27))
    have hy := HBox.new (w.alloc (.cells #[.slice L1.Ak o.ks.length L1.ck, .int .i64 o.fl, .slice L1.Ap o.ps.length L1.cp, .slice L1.Ab o.bs.length L1.cb] 27)) L2 h
    rw [World.size_alloc] at hy
    exact ⟨hb, (HBox.new w L1 o).of (Below.heap_alloc _ _ _ (by simp)), hy, h1.below hb, h2.below hb⟩)
  obtain ⟨W0, hW0⟩ : ∃ W0, (w.alloc (.cells #[.slice L1.Ak o.ks.length L1.ck, .int .i64 o.fl, .slice L1.Ap o.ps.length L1.cp, .slice L1.Ab o.bs.length L1.cb] 27)).alloc (.cells #[.slice L2.Ak h.ks.length L2.ck, .int .i64 h.fl, .slice L2.Ap h.ps.length L2.cp, .slice L2.Ab h.bs.length L2.cb] 27) = W0 := ⟨_, rfl⟩
  rw [hW0] at M
  have HW0 := Lib.hid hW0
  clear hW0 h1 h2
  have HR := Lib.hid (lighter_yes H hv ho)
  obtain ⟨⟨c0, c1, c2, c3⟩, d0, d1, d2, d3⟩ := M.out.cells
  clear H hv ho
  go_enter Try.func15, Try.ntmps15
  go_upto_region 1 with (fail)
  have e := HW0.out
  rw [e]
  clear e HW0
  go_upto_region 2 with (go_at_call 64; refine (least_any2 L1 o n1 _ M.out.h1).mono ?_; rintro e wn ⟨rfl, hb⟩; have MN := Lib.hid (M.out.next hb); clear M hb c0 c1 c2 c3 d0 d1 d2 d3; have M := MN; clear MN; obtain ⟨⟨c0, c1, c2, c3⟩, d0, d1, d2, d3⟩ := M.out.cells)
  go_upto_region 3 with (go_at_call 64; refine (least_any2 L2 h n2 _ M.out.h2).mono ?_; rintro e wn ⟨rfl, hb⟩; have MN := Lib.hid (M.out.next hb); clear M hb c0 c1 c2 c3 d0 d1 d2 d3; have M := MN; clear MN; obtain ⟨⟨c0, c1, c2, c3⟩, d0, d1, d2, d3⟩ := M.out.cells)
  go_upto_region 4 with (go_at_call 65; refine (fewest_any2 L1 o n1 _ M.out.h1).mono ?_; rintro e wn ⟨rfl, hb⟩; have MN := Lib.hid (M.out.next hb); clear M hb c0 c1 c2 c3 d0 d1 d2 d3; have M := MN; clear MN; obtain ⟨⟨c0, c1, c2, c3⟩, d0, d1, d2, d3⟩ := M.out.cells)
  go_upto_region 5 with (go_at_call 65; refine (fewest_any2 L2 h n2 _ M.out.h2).mono ?_; rintro e wn ⟨rfl, hb⟩; have MN := Lib.hid (M.out.next hb); clear M hb c0 c1 c2 c3 d0 d1 d2 d3; have M := MN; clear MN; obtain ⟨⟨c0, c1, c2, c3⟩, d0, d1, d2, d3⟩ := M.out.cells)
  go_upto_region 6 with (go_at_call 66; refine (buy_any L1 o n1 k1 _ M.out.h1).mono ?_; rintro e wn ⟨rfl, hb⟩; have MN := Lib.hid (M.out.next hb); clear M hb c0 c1 c2 c3 d0 d1 d2 d3; have M := MN; clear MN; obtain ⟨⟨c0, c1, c2, c3⟩, d0, d1, d2, d3⟩ := M.out.cells)
  go_upto_region 7 with (go_at_call 66; refine (buy_any L2 h n2 k2 _ M.out.h2).mono ?_; rintro e wn ⟨rfl, hb⟩; have MN := Lib.hid (M.out.next hb); clear M hb c0 c1 c2 c3 d0 d1 d2 d3; have M := MN; clear MN; obtain ⟨⟨c0, c1, c2, c3⟩, d0, d1, d2, d3⟩ := M.out.cells)
  obtain ⟨a, b, e, f, p, q, i, j, e1, e2, ⟨c, e3, d, e4, e5, e6⟩, e7, e8, e9, e10, e11⟩ := HR.out
  rw [e1, e2, e3, e4, e7, e8]
  clear e1 e2 e3 e4 e7 e8 HR c0 c1 c2 c3 d0 d1 d2 d3
  have f1 : decide (0 ≤ a) = true := decide_eq_true e10
  have f2 : decide (0 ≤ c) = true := decide_eq_true e6
  have key : ∀ P : Prop, (j = 0 → i = 0 → decide (p ≤ q) = true → decide (0 ≤ p) = true → P) → (¬ j = 0 → decide (j = 0) = false → (j == 0) = false → P) → P := fun P g1 g2 => by
    by_cases hj : j = 0
    · obtain ⟨g3, g4, g5⟩ := e11 hj
      exact g1 hj g3 (decide_eq_true g4) (decide_eq_true g5)
    · exact g2 hj (decide_eq_false hj) (beq_eq_false_iff_ne.2 hj)
  have hend := M.out.B
  clear M
  rcases e9 with ⟨rfl, rfl, hab⟩ | ⟨rfl, rfl | rfl⟩
  · have f3 : decide (a ≤ b) = true := decide_eq_true hab
    have f4 : decide (c ≤ d) = true := decide_eq_true (e5 rfl)
    have hcd := e5 rfl
    clear e5 e11
    refine key _ (fun hj hi g3 g4 => ?_) (fun g1 g2 g3 => ?_)
    · subst hj hi
      have g3' := of_decide_eq_true g3
      have g4' := of_decide_eq_true g4
      clear key
      go_wp2_with (fail)
      go_ret
      exact ⟨rfl, hend⟩
    · clear key
      go_wp2_with (fail)
      go_ret
      exact ⟨rfl, hend⟩
  · clear e5 e11
    refine key _ (fun hj hi g3 g4 => ?_) (fun g1 g2 g3 => ?_)
    · subst hj hi
      have g3' := of_decide_eq_true g3
      have g4' := of_decide_eq_true g4
      clear key
      go_wp2_with (fail)
      go_ret
      exact ⟨rfl, hend⟩
    · clear key
      go_wp2_with (fail)
      go_ret
      exact ⟨rfl, hend⟩
  · clear e5 e11
    refine key _ (fun hj hi g3 g4 => ?_) (fun g1 g2 g3 => ?_)
    · subst hj hi
      have g3' := of_decide_eq_true g3
      have g4' := of_decide_eq_true g4
      clear key
      go_wp2_with (fail)
      go_ret
      exact ⟨rfl, hend⟩
    · clear key
      go_wp2_with (fail)
      go_ret
      exact ⟨rfl, hend⟩
end Go.Proofs.Ytmbcpmnigggbaaa.Sa
namespace Go.Proofs.Ytmbcpmnigggbaaa.Cu
open Go.RowKit
attribute [local go_sem] Oper.semAt_some

/-! The examples of the chapters 7 and 8: salted 13. -/
theorem exT_ok8 : TOK exT := chkT_ok (by decide)
theorem eq35s (x y : Int) (w : World) : (binOp .eql 35 (.agg #[.int .i64 x, .int .i64 y]) (.agg #[.int .i64 x, .int .i64 y])).run Try.prog w = .ok (.bool true) w := by
  simp [go_sem]
theorem salted44 (A1 A2 : Option Addr) (w : World) (h1 : Sa.IntsAt w w.heap.size A1 [0, 0, 1]) (h2 : Sa.IntsAt w w.heap.size A2 [0, 0, 1]) :
    Calls Try.prog 44 #[.slice A1 3 3, .slice A2 3 3] w fun e w' => e = .returned (.bool true) ∧ Below w.heap.size w w' := Sa.sameInts_is A1 A2 3 3 [0, 0, 1] (by decide) w h1 h2
set_option maxRecDepth 100000 in
set_option maxHeartbeats 4000000 in
theorem salted_any (w : World) : Calls Try.prog 13 #[] w fun e w' => e = .returned (.bool true) ∧ Below w.heap.size w w' := by
  have H58 := Lib.hid (fun W => example7_any W)
  have H59 := Lib.hid (fun W => Sa.example_any W)
  have H14 := Lib.hid (fun A W hW => weight_any A 5 exT exT_ok8 4 (by decide) W hW (by rw [ex_low4]; unfold far; omega))
  rw [ex_low4, ex_high4] at H14
  have hs1 := eq35s 0 6
  go_enter Try.func13, Try.ntmps13
  go_upto_region 2 with (go_at_call 58; refine (H58.out _).mono ?_; rintro e w1 ⟨⟨tb, tu, rfl, hT⟩, hb⟩; have HT := Lib.hid hT; have HB1 := Lib.hid hb; clear hb hT)
  go_upto_region 3 with (go_at_call 59; refine (H59.out _).mono ?_; rintro e w2 ⟨a, b, c, d, rfl, hS, hR, hb⟩; have HS := Lib.hid hS; have HR := Lib.hid hR; have HB2 := Lib.hid (hb0to HB1.out hb); have HT2 := Lib.hid (HT.out.lt hb); clear hb hS hR)
  have X0 := Sa.ExM.new HS.out HR.out
  have hb3 := hb0to (al_below w2 (.cells #[.slice (some ⟨a, 0, none⟩) 2 2, .int .i64 2, .slice (some ⟨b, 0, none⟩) 3 3, .slice (some ⟨c, 0, none⟩) 2 2] 27)) (al_below _ (.cells #[.slice (some ⟨a, 0, none⟩) 2 2, .int .i64 2, .slice (some ⟨b, 0, none⟩) 3 3, .slice (some ⟨d, 0, none⟩) 2 2] 27))
  obtain ⟨W3, hW3⟩ : ∃ W3, (w2.alloc (.cells #[.slice (some ⟨a, 0, none⟩) 2 2, .int .i64 2, .slice (some ⟨b, 0, none⟩) 3 3, .slice (some ⟨c, 0, none⟩) 2 2] 27)).alloc (.cells #[.slice (some ⟨a, 0, none⟩) 2 2, .int .i64 2, .slice (some ⟨b, 0, none⟩) 3 3, .slice (some ⟨d, 0, none⟩) 2 2] 27) = W3 := ⟨_, rfl⟩
  rw [hW3] at X0 hb3 ⊢
  have X := Lib.hid X0
  have HB3 := Lib.hid (hb0to HB2.out hb3)
  have HT3 := Lib.hid (HT2.out.lt hb3)
  clear X0 hb3 hW3
  go_upto_region 4 with (go_at_call 14; refine (H14.out _ W3 HT3.out).mono ?_; rintro e w4 ⟨rfl, hb⟩; have X4 := Lib.hid (X.out.next hb); have HB4 := Lib.hid (hb0to HB3.out hb); clear hb)
  have hq := heap_new1 w4 (.cells #[.int .i64 0, .int .i64 6] 35)
  have hb5 := al_below w4 (.cells #[.int .i64 0, .int .i64 6] 35)
  have X5 := Lib.hid (X4.out.next hb5)
  have HB5 := Lib.hid (hb0to HB4.out hb5)
  obtain ⟨W5, hW5⟩ : ∃ W5, w4.alloc (.cells #[.int .i64 0, .int .i64 6] 35) = W5 := ⟨_, rfl⟩
  rw [hW5] at hq X5 HB5 ⊢
  obtain ⟨qz, hqz⟩ : ∃ qz, w4.heap.size = qz := ⟨_, rfl⟩
  rw [hqz] at hq ⊢
  have HQ := Lib.hid hq
  clear hq hb5 hW5 hqz X X4
  obtain ⟨⟨c0, c1, c2, c3⟩, -⟩ := X5.out.c
  go_upto_region 5 with (go_at_call 60; refine (Sa.exC38 X5.out).mono ?_; rintro e w6 ⟨⟨pb, rfl, hI⟩, hb⟩; have HI := Lib.hid hI; have HB6 := Lib.hid (hb0to HB5.out hb); have q6 := (hb.block _ (heap_lt HQ.out)).trans HQ.out; have f0 := cell_of_heap (o := 0) q6 rfl; have f1 := cell_of_heap (o := 1) q6 rfl; clear hb hI q6)
  go_wp2_with (go_at_call 44; refine (salted44 _ _ _ (Sa.ints_later HI.out (al_below _ _)) (Sa.new3 _)).mono ?_; rintro e w7 ⟨rfl, hb⟩; have HB7 := Lib.hid (hb0to (hb0to HB6.out (al_below _ _)) hb); clear hb)
  go_ret
  exact ⟨rfl, HB7.out⟩
end Go.Proofs.Ytmbcpmnigggbaaa.Cu
