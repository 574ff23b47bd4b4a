import Derived.Test.YtgemmmdcpbajoaaU9
namespace Go.Proofs.Ytgemmmdcpbajoaa
open Go.RowKit

def foldMin (f : List Int → Int) (i : Int) (l : List (List Int)) : Int := l.foldl (fun m p => if f p < m then f p else m) i
def foldMax (f : List Int → Int) (i : Int) (l : List (List Int)) : Int := l.foldl (fun m p => if m < f p then f p else m) i
theorem foldMin_take {f : List Int → Int} {i : Int} {l : List (List Int)} {k : Nat} {p : List Int} (h : l[k]? = some p) : foldMin f i (l.take (k + 1)) = if f p < foldMin f i (l.take k) then f p else foldMin f i (l.take k) := by
  rw [← take_snoc_next h]; unfold foldMin; rw [List.foldl_append]; rfl
theorem foldMax_take {f : List Int → Int} {i : Int} {l : List (List Int)} {k : Nat} {p : List Int} (h : l[k]? = some p) : foldMax f i (l.take (k + 1)) = if foldMax f i (l.take k) < f p then f p else foldMax f i (l.take k) := by
  rw [← take_snoc_next h]; unfold foldMax; rw [List.foldl_append]; rfl
theorem foldMin_bd {f : List Int → Int} {i lo hi : Int} (hi0 : lo ≤ i ∧ i ≤ hi) : ∀ l : List (List Int), (∀ p ∈ l, lo ≤ f p) → lo ≤ foldMin f i l ∧ foldMin f i l ≤ hi := fun l => by
  refine snoc_ind (P := fun l => (∀ p ∈ l, lo ≤ f p) → lo ≤ foldMin f i l ∧ foldMin f i l ≤ hi) (fun _ => hi0) (fun l x ih h => ?_) l
  have := ih fun p hp => h p (by simp [hp])
  have := h x (by simp)
  simp only [foldMin, List.foldl_append, List.foldl_cons, List.foldl_nil] at *
  split <;> omega
theorem foldMax_bd {f : List Int → Int} {i lo hi : Int} (hi0 : lo ≤ i ∧ i ≤ hi) : ∀ l : List (List Int), (∀ p ∈ l, f p ≤ hi) → lo ≤ foldMax f i l ∧ foldMax f i l ≤ hi := fun l => by
  refine snoc_ind (P := fun l => (∀ p ∈ l, f p ≤ hi) → lo ≤ foldMax f i l ∧ foldMax f i l ≤ hi) (fun _ => hi0) (fun l x ih h => ?_) l
  have := ih fun p hp => h p (by simp [hp])
  have := h x (by simp)
  simp only [foldMax, List.foldl_append, List.foldl_cons, List.foldl_nil] at *
  split <;> omega
theorem mem_take {α : Type} {l : List α} {k : Nat} {x : α} (h : x ∈ l.take k) : x ∈ l := List.mem_of_mem_take h
def usedF (h : House) : List Int → Int := fun p => sumB usedC h p h.bs.length
def earlyF (day : Int) (h : House) : List Int → Int := fun p => sumB (earlyC day) h p h.bs.length
theorem usedF_bd (h : House) (p : List Int) : 0 ≤ usedF h p ∧ usedF h p ≤ h.bs.length := by
  have := sumB_bd (f := usedC) (h := h) (p := p) (m := 1) (fun b => by rw [used_in]; split <;> omega) h.bs.length
  unfold usedF; omega
theorem earlyF_bd {h : House} (hv : HOK h) (day : Int) {p : List Int} (hl : p.length ≤ h.ps.length) : 0 ≤ earlyF day h p ∧ earlyF day h p ≤ 40000 := by
  have := sumB_bd (f := earlyC day) (h := h) (p := p) (m := 10000) (fun b => by
    have := inOf_ok hv hl (b : Int)
    have h0 := this.p0
    have h1 := this.p1
    unfold earlyC; split <;> omega) h.bs.length
  have := hv.bl
  unfold earlyF; omega
theorem packF_bd {h : House} (hv : HOK h) {p : List Int} (hl : p.length ≤ h.ps.length) : 0 ≤ packF h p ∧ packF h p ≤ 40000 := by
  have := sumB_bd (f := saltC h.fl) (h := h) (p := p) (m := 10000) (fun b => saltC_bd (inOf_ok hv hl (b : Int)) ⟨hv.f0, hv.f1⟩) h.bs.length
  have := hv.bl
  unfold packF; omega
def fewS (h : House) : Int × Int := if (pksS h true).2 ≠ 0 then (0, (pksS h true).2) else (foldMin (usedF h) h.bs.length (packsL h), 0)
def earlyS (h : House) (day : Int) : Int × Int := if (pksS h (inR day 0 20)).2 ≠ 0 then (0, (pksS h (inR day 0 20)).2) else (foldMax (earlyF day h) 0 (packsL h), 0)
set_option maxRecDepth 100000 in
set_option maxHeartbeats 4000000 in
theorem rFewest_any (L : HL) (h : House) (hn : h.ks.length ≤ 1000 ∧ h.ps.length ≤ 1000 ∧ h.bs.length ≤ 1000) (w : World) (hH : HouseAt w w.heap.size L h) :
    Calls Try.prog 41 #[L.enc h] w fun e w' => e = .returned (.tuple #[.int .i64 (fewS h).1, .int .i64 (fewS h).2]) ∧ Below w.heap.size w w' := by
  have hbw := (Below.refl _ _).alloc (Nat.le_refl w.heap.size) (.cells #[.slice L.Ak h.ks.length L.ck, .int .i64 h.fl, .slice L.Ap h.ps.length L.cp, .slice L.Ab h.bs.length L.cb] 26)
  have HB := Lib.hid (HBox.new w L h)
  have HBW := Lib.hid hbw
  have HH := Lib.hid hH
  have HC := Lib.hid (rpackings_any L h hn true _ (hH.below hbw))
  clear hbw hH
  rcases pksS_cases (h := h) true with ⟨h0, h1, _⟩ | ⟨ha, hne, hp⟩
  · obtain ⟨e0, he⟩ : ∃ e0, e0 = (pksS h true).2 := ⟨_, rfl⟩
    have H1 : Hid (pksS h true = ([], e0)) := Lib.hid (by rw [← h1, he])
    rw [← he] at h0
    have HP : Hid (fewS h = (0, e0)) := Lib.hid (by rw [fewS, ← he, if_pos h0])
    have hd : (e0 != 0) = true := by simp [h0]
    clear h0 h1 he
    go_enter Try.func41, Try.ntmps41
    go_wp2_with (go_at_call 88; refine HC.out.mono ?_; rintro e w1 ⟨hq, hb1⟩; obtain ⟨A1, c1, rfl, hA1, hR1⟩ := hq.to H1.out)
    go_ret2
    exact ⟨by rw [HP.out]; rfl, hb0to HBW.out hb1⟩
  · have HA := Lib.hid ha
    have HP := Lib.hid hp
    have hv := HOK.ofValid (askH_ok ha).1
    have hpos : 0 < (packsL h).length := List.length_pos_iff.2 hne
    have hbound : (packsL h).length ≤ 15625 := by have := pksS_len (h := h) true; rwa [hp] at this
    have HV := Lib.hid hv
    have hbl4 := hv.bl
    have HF : Hid (fewS h = (foldMin (usedF h) h.bs.length (packsL h), 0)) := Lib.hid (by rw [fewS, hp]; rfl)
    clear ha hp hv hne
    go_enter Try.func41, Try.ntmps41
    go_wp2_with (go_at_call 88; refine HC.out.mono ?_; rintro e w1 ⟨hq, hb1⟩; obtain ⟨A1, c1, rfl, hA1, hR1⟩ := hq.to HP.out; obtain ⟨g0, g1, g2, g3⟩ := (HB.out.of (hb1.block _ HB.out.lt)).cells; have HR1 := Lib.hid hR1; clear hR1 hq)
    have hbq := hb0to HBW.out hb1
    have hB1 := HB.out.of (hb1.block _ HB.out.lt)
    clear g0 g1 g2 g3
    go_loopw [6, 7] (fun v i wr => ∃ k : Nat, k ≤ (packsL h).length ∧ i = .int .i64 k ∧ v = .int .i64 (foldMin (usedF h) h.bs.length ((packsL h).take k)) ∧ Below w1.heap.size w1 wr) (fun _ i _ => (packsL h).length - (intOf i).toNat)
    case atStart => exact ⟨0, Nat.zero_le _, rfl, rfl, Below.refl _ _⟩
    case round =>
      obtain ⟨k, hk, rfl, rfl, hb⟩ := hrel
      have hB' := hB1.of (hb.block _ hB1.lt)
      obtain ⟨g0, g1, g2, g3⟩ := hB'.cells
      have hb2 := hb0to hbq hb
      obtain ⟨f0, f1⟩ := foldMin_bd (f := usedF h) (i := h.bs.length) (lo := 0) (hi := h.bs.length) (by omega) ((packsL h).take k) (fun p _ => (usedF_bd h p).1)
      by_cases hlt : k < (packsL h).length
      · obtain ⟨q, hq⟩ : ∃ q, (packsL h)[k]? = some q := ⟨_, List.getElem?_eq_getElem hlt⟩
        obtain ⟨b1, o1, A3, c3, rfl, _, hc3, hA3, hI3⟩ := HR1.out.at_ hq
        have hql := (mem_packsL (List.mem_of_getElem? hq)).1
        have HST := Lib.hid (foldMin_take (f := usedF h) (i := h.bs.length) hq)
        have hI3w : IntsAt wr wr.heap.size A3 q := (hI3.below hb (Nat.le_refl _)).at_.keep hb.size (fun _ _ _ => rfl)
        have e0 := extB_cell g0
        have e1 := extB_cell g1
        have e2 := extB_cell g2
        have e3 := extB_cell g3
        have e5 := extB_cell (below_cell hb hc3)
        have hki : (k : Int) < (packsL h).length := by omega
        have hk0 : (0 : Int) ≤ (k : Int) := by omega
        have HQ := Lib.hid (fun x => by have := rUsed_any L h HV.out q (by omega) A3 c3 (extB wr x) (ints_later hI3w (extB_below wr x)); exact (show Calls Try.prog 59 #[L.enc h, .slice A3 q.length c3] (extB wr x) fun e w' => e = .returned (.int .i64 (usedF h q)) ∧ Below (extB wr x).heap.size (extB wr x) w' from this))
        clear hq hql hc3
        go_wp2
        refine wp_region_extW (by kernel_rfl) (by kernel_rfl) ?_
        repeat (go_big_quiet_step ((go_at_call 59; exact ext_call (HQ.out _))))
        refine wpQuiet_nil ?_
        rintro _ ⟨x1, rfl⟩
        have hb3 := extB_below wr x1
        clear e0 e1 e2 e3 e5
        go_wp2
        go_roundw
        case rel => exact ⟨k + 1, by omega, by go_num, by rw [HST.out], hb0to hb hb3⟩
        case measure => simp [intOf]; omega
      · obtain rfl : k = (packsL h).length := by omega
        rw [List.take_length]
        go_wp2
        go_ret2
        exact ⟨by rw [HF.out]; rfl, hb2⟩
set_option maxRecDepth 100000 in
set_option maxHeartbeats 4000000 in
theorem rEarly_any (L : HL) (h : House) (hn : h.ks.length ≤ 1000 ∧ h.ps.length ≤ 1000 ∧ h.bs.length ≤ 1000) (day : Int) (w : World) (hH : HouseAt w w.heap.size L h) :
    Calls Try.prog 55 #[L.enc h, .int .i64 day] w fun e w' => e = .returned (.tuple #[.int .i64 (earlyS h day).1, .int .i64 (earlyS h day).2]) ∧ Below w.heap.size w w' := by
  have hbw := (Below.refl _ _).alloc (Nat.le_refl w.heap.size) (.cells #[.slice L.Ak h.ks.length L.ck, .int .i64 h.fl, .slice L.Ap h.ps.length L.cp, .slice L.Ab h.bs.length L.cb] 26)
  have HB := HBox.new w L h
  obtain ⟨g0, g1, g2, g3⟩ := HB.cells
  have HBW := Lib.hid hbw
  have HH := Lib.hid hH
  have HB' := Lib.hid HB
  have HHB := Lib.hid (hH.below hbw)
  obtain ⟨W1, hW1⟩ : ∃ W1, W1 = w.alloc (.cells #[.slice L.Ak h.ks.length L.ck, .int .i64 h.fl, .slice L.Ap h.ps.length L.cp, .slice L.Ab h.bs.length L.cb] 26) := ⟨_, rfl⟩
  rw [← hW1] at g0 g1 g2 g3 HBW HB' HHB
  have HW := Lib.hid hW1
  have HC := Lib.hid (fun W (hW : Below W1.heap.size W1 W) => rpackings_any L h hn (inR day 0 20) W (HHB.out.below hW))
  clear hbw hH HB hW1
  rcases pksS_cases (h := h) (inR day 0 20) with ⟨h0, h1, _⟩ | ⟨ha, hne, hp⟩
  · obtain ⟨e0, he⟩ : ∃ e0, e0 = (pksS h (inR day 0 20)).2 := ⟨_, rfl⟩
    have H1 : Hid (pksS h (inR day 0 20) = ([], e0)) := Lib.hid (by rw [← h1, he])
    rw [← he] at h0
    have HP : Hid (earlyS h day = (0, e0)) := Lib.hid (by rw [earlyS, ← he, if_pos h0])
    have hd : (e0 != 0) = true := by simp [h0]
    clear h0 h1 he
    go_enter Try.func55, Try.ntmps55
    go_wp2
    rw [← HW.out]
    go_region_held3 (fun w' => w'.cell? ⟨w.heap.size, 0, none⟩ = some (.slice L.Ak h.ks.length L.ck) ∧ w'.cell? ⟨w.heap.size, 1, none⟩ = some (.int .i64 h.fl) ∧ w'.cell? ⟨w.heap.size, 2, none⟩ = some (.slice L.Ap h.ps.length L.cp) ∧ w'.cell? ⟨w.heap.size, 3, none⟩ = some (.slice L.Ab h.bs.length L.cb)) (first | go_keep)
      (first
        | (go_at_call 50; refine (rIsDay_any _ _).mono ?_; rintro e w' ⟨rfl, rfl⟩)
        | (go_at_call 88; refine (HC.out _ (drew_below _)).mono ?_; rintro e w2 ⟨hq, hb2⟩; obtain ⟨A1, c1, rfl, hA1, hR1⟩ := hq.to H1.out; have hb3 := hb0to (drew_below W1) hb2; have x0 := below_cell hb3 g0; have x1 := below_cell hb3 g1; have x2 := below_cell hb3 g2; have x3 := below_cell hb3 g3))
    all_goals
      go_wp2
      go_ret2
      exact ⟨by rw [HP.out]; rfl, hb0to HBW.out hb3⟩
  · have HA := Lib.hid ha
    have HP := Lib.hid hp
    have hv := HOK.ofValid (askH_ok ha).1
    have hpos : 0 < (packsL h).length := List.length_pos_iff.2 hne
    have hbound : (packsL h).length ≤ 15625 := by have := pksS_len (h := h) (inR day 0 20); rwa [hp] at this
    have HV := Lib.hid hv
    have hbl4 := hv.bl
    have HF : Hid (earlyS h day = (foldMax (earlyF day h) 0 (packsL h), 0)) := Lib.hid (by rw [earlyS, hp]; rfl)
    clear ha hp hv hne
    go_enter Try.func55, Try.ntmps55
    go_wp2
    rw [← HW.out]
    go_region_held3 (fun w' => w'.cell? ⟨w.heap.size, 0, none⟩ = some (.slice L.Ak h.ks.length L.ck) ∧ w'.cell? ⟨w.heap.size, 1, none⟩ = some (.int .i64 h.fl) ∧ w'.cell? ⟨w.heap.size, 2, none⟩ = some (.slice L.Ap h.ps.length L.cp) ∧ w'.cell? ⟨w.heap.size, 3, none⟩ = some (.slice L.Ab h.bs.length L.cb)) (first | go_keep)
      (first
        | (go_at_call 50; refine (rIsDay_any _ _).mono ?_; rintro e w' ⟨rfl, rfl⟩)
        | (go_at_call 88; refine (HC.out _ (drew_below _)).mono ?_; rintro e w2 ⟨hq, hb2⟩; obtain ⟨A1, c1, rfl, hA1, hR1⟩ := hq.to HP.out; have hb3 := hb0to (drew_below W1) hb2; have x0 := below_cell hb3 g0; have x1 := below_cell hb3 g1; have x2 := below_cell hb3 g2; have x3 := below_cell hb3 g3; have HR1 := Lib.hid hR1; clear hR1 hq))
    all_goals
      have hbq := hb0to HBW.out hb3
      have hB1 := HB'.out.of (hb3.block _ HB'.out.lt)
      clear x0 x1 x2 x3 g0 g1 g2 g3
      go_wp2
      go_loopw [8, 9] (fun v i wr => ∃ k : Nat, k ≤ (packsL h).length ∧ i = .int .i64 k ∧ v = .int .i64 (foldMax (earlyF day h) 0 ((packsL h).take k)) ∧ Below w2.heap.size w2 wr) (fun _ i _ => (packsL h).length - (intOf i).toNat)
      case atStart => exact ⟨0, Nat.zero_le _, rfl, rfl, Below.refl _ _⟩
      case round =>
        obtain ⟨k, hk, rfl, rfl, hb⟩ := hrel
        have hB2 := hB1.of (hb.block _ hB1.lt)
        obtain ⟨g0, g1, g2, g3⟩ := hB2.cells
        have hb4 := hb0to hbq hb
        obtain ⟨f0, f1⟩ := foldMax_bd (f := earlyF day h) (i := 0) (lo := 0) (hi := 40000) (by omega) ((packsL h).take k) (fun p hp => (earlyF_bd HV.out day (Nat.le_of_eq (mem_packsL (mem_take hp)).1)).2)
        by_cases hlt : k < (packsL h).length
        · obtain ⟨q, hq⟩ : ∃ q, (packsL h)[k]? = some q := ⟨_, List.getElem?_eq_getElem hlt⟩
          obtain ⟨b1, o1, A3, c3, rfl, _, hc3, hA3, hI3⟩ := HR1.out.at_ hq
          have hql := (mem_packsL (List.mem_of_getElem? hq)).1
          have HST := Lib.hid (foldMax_take (f := earlyF day h) (i := 0) hq)
          have hI3w : IntsAt wr wr.heap.size A3 q := (hI3.below hb (Nat.le_refl _)).at_.keep hb.size (fun _ _ _ => rfl)
          have e0 := extB_cell g0
          have e1 := extB_cell g1
          have e2 := extB_cell g2
          have e3 := extB_cell g3
          have e5 := extB_cell (below_cell hb hc3)
          have hki : (k : Int) < (packsL h).length := by omega
          have hk0 : (0 : Int) ≤ (k : Int) := by omega
          have HQ := Lib.hid (fun x => by have := earlyOf_any L h HV.out q (by omega) day A3 c3 (extB wr x) (extB_house (HH.out.below hb4) (Nat.le_refl _)) (ints_later hI3w (extB_below wr x)); exact (show Calls Try.prog 60 #[L.enc h, .slice A3 q.length c3, .int .i64 day] (extB wr x) fun e w' => e = .returned (.int .i64 (earlyF day h q)) ∧ Below (extB wr x).heap.size (extB wr x) w' from this))
          clear hq hql hc3
          go_wp2
          refine wp_region_extW (by kernel_rfl) (by kernel_rfl) ?_
          repeat (go_big_quiet_step ((go_at_call 60; exact ext_call (HQ.out _))))
          refine wpQuiet_nil ?_
          rintro _ ⟨x1, rfl⟩
          have hb5 := extB_below wr x1
          clear e0 e1 e2 e3 e5
          go_wp2
          go_roundw
          case rel => exact ⟨k + 1, by omega, by go_num, by rw [HST.out], hb0to hb hb5⟩
          case measure => simp [intOf]; omega
        · obtain rfl : k = (packsL h).length := by omega
          rw [List.take_length]
          go_wp2
          go_ret2
          exact ⟨by rw [HF.out]; rfl, hb4⟩
def leastS (h : House) : Int × Int := if validH h = false then (0, 80) else match bestOf (packF h) (packsL h) with
  | none => (0, 3)
  | some (_, m) => (m, 0)
theorem LRet.to {r : List Int × Int} {B : Nat} {w' : World} {e : Ending} (H : LRet r B w' e) {l : List Int} {x : Int} (hp : r = (l, x)) : ∃ A c, e = .returned (.tuple #[.slice A l.length c, .int .i64 x]) ∧ (A = none → c = 0 ∧ l = []) ∧ IntsIn w' B w'.heap.size A l := by
  subst hp; exact H
theorem leastS_eq (h : House) (_hv : validH h = true → HOK h) : ((packS h).2 ≠ 0 → leastS h = (0, (packS h).2)) ∧ ((packS h).2 = 0 → validH h = true ∧ (packS h).1 ∈ packsL h ∧ leastS h = (packF h (packS h).1, 0)) := by
  unfold packS leastS
  split
  · exact ⟨fun _ => rfl, fun hh => by cases hh⟩
  · rename_i h1
    cases hb : bestOf (packF h) (packsL h) with
    | none => exact ⟨fun _ => rfl, fun hh => by cases hh⟩
    | some bm =>
      obtain ⟨p, m⟩ := bm
      obtain ⟨h2, h3, _⟩ := bestOf_some hb
      exact ⟨fun hh => (hh rfl).elim, fun _ => ⟨by simpa using h1, h3, by rw [h2]⟩⟩
set_option maxRecDepth 100000 in
set_option maxHeartbeats 4000000 in
theorem rLeast_any (L : HL) (h : House) (hn : h.ks.length ≤ 1000 ∧ h.ps.length ≤ 1000 ∧ h.bs.length ≤ 1000) (w : World) (hH : HouseAt w w.heap.size L h) :
    Calls Try.prog 37 #[L.enc h] w fun e w' => e = .returned (.tuple #[.int .i64 (leastS h).1, .int .i64 (leastS h).2]) ∧ Below w.heap.size w w' := by
  have hbw := (Below.refl _ _).alloc (Nat.le_refl w.heap.size) (.cells #[.slice L.Ak h.ks.length L.ck, .int .i64 h.fl, .slice L.Ap h.ps.length L.cp, .slice L.Ab h.bs.length L.cb] 26)
  have HB := Lib.hid (HBox.new w L h)
  have HBW := Lib.hid hbw
  have HH := Lib.hid hH
  obtain ⟨p, e0, hpe⟩ : ∃ p e0, packS h = (p, e0) := ⟨_, _, rfl⟩
  have hls := leastS_eq h HOK.ofValid
  rw [hpe] at hls
  have HC := Lib.hid (rPack_any L h hn _ (hH.below hbw))
  have HPE := Lib.hid hpe
  clear hbw hH hpe
  by_cases h0 : e0 = 0
  · obtain ⟨hv, hm, hl⟩ := hls.2 h0
    have HV := Lib.hid (HOK.ofValid hv)
    have HL := Lib.hid hl
    have HPL := Lib.hid (mem_packsL hm).1
    have hd : (e0 != 0) = false := by simp [h0]
    clear hls hv hm hl h0
    have HS := Lib.hid (fun A c W (hW : Below w.heap.size w W) (hI : IntsAt W W.heap.size A p) => allSalt_any L h HV.out p (Nat.le_of_eq HPL.out) A c W (HH.out.below hW) hI)
    go_enter Try.func37, Try.ntmps37
    go_wp2_with (first
      | (go_at_call 39; refine HC.out.mono ?_; rintro e w1 ⟨hq, hb1⟩; obtain ⟨A1, c1, rfl, hA1, hI1⟩ := hq.to HPE.out; obtain ⟨g0, g1, g2, g3⟩ := (HB.out.of (hb1.block _ HB.out.lt)).cells)
      | (go_at_call 58; refine (HS.out A1 c1 _ (hb0to HBW.out hb1) hI1.at_).mono ?_; rintro e w2 ⟨rfl, hb2⟩))
    go_ret2
    exact ⟨by rw [HL.out]; rfl, hb0to HBW.out (hb0to hb1 hb2)⟩
  · have HL := Lib.hid (hls.1 h0)
    have hd : (e0 != 0) = true := by simp [h0]
    clear hls h0
    go_enter Try.func37, Try.ntmps37
    go_wp2_with (go_at_call 39; refine HC.out.mono ?_; rintro e w1 ⟨hq, hb1⟩; obtain ⟨A1, c1, rfl, hA1, hI1⟩ := hq.to HPE.out)
    go_ret2
    exact ⟨by rw [HL.out]; rfl, hb0to HBW.out hb1⟩
end Go.Proofs.Ytgemmmdcpbajoaa
