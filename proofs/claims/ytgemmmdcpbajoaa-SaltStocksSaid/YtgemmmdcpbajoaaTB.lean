import Derived.Test.YtgemmmdcpbajoaaTA
namespace Go.Proofs.Ytgemmmdcpbajoaa
open Go.RowKit

/-! Salt, Good, Barrel. -/
theorem wp_region_extW {P : Program} {id : Nat} {Q : Exit → Act → World → Prop} {a : Act} {w : World} {L : List Oper} (hm : P.follows .mixedOrders = true) (hB : Region.lexB .any L.toArray = true)
    (h : wpQuiet P L.toArray (fun w' => ∃ x, w' = extB w x) (fun a' => ∀ w', (∃ x, w' = extB w x) → Q .normal a' w') L a) : (Code.region id L.toArray true).wp P Q a w := wp_region_ext hm hB h
/-- The cask in the block cb, of its own. -/
def CaskBox (W : World) (cb : Nat) (c : Cask) : Prop := W.heap[cb]? = some (.cells #[.int .i64 c.n, .int .i64 c.p, .int .i64 c.s, .int .i64 c.d] 79 (0, 0))
theorem CaskBox.at_ {W : World} {cb : Nat} {c : Cask} (h : CaskBox W cb c) : CaskAt W cb 0 c := by
  have h : W.heap[cb]? = some (.cells #[.int .i64 c.n, .int .i64 c.p, .int .i64 c.s, .int .i64 c.d] 79 (0, 0)) := h
  exact ⟨by simp [World.cell?, h], by simp [World.cell?, h], by simp [World.cell?, h], by simp [World.cell?, h]⟩
theorem CaskBox.lt {W : World} {cb : Nat} {c : Cask} (h : CaskBox W cb c) : cb < W.heap.size := heap_lt h
theorem CaskBox.frozen {W : World} {cb : Nat} {c : Cask} (h : CaskBox W cb c) (o : Nat) : W.frozen? ⟨cb, o, none⟩ = false := by simp [World.frozen?, show W.heap[cb]? = _ from h]
set_option maxRecDepth 100000 in
set_option maxHeartbeats 4000000 in
theorem filled_any (L : HL) (h : House) (hv : HOK h) (l : List Int) (hl : l.length ≤ 100) (hp : PartsOK h l) (A : Option Addr) (c : Nat) (w : World) (hH : HouseAt w w.heap.size L h) (hI : IntsAt w w.heap.size A l) :
    Calls Try.prog 76 #[L.enc h, .slice A l.length c] w fun e w' => e = .returned (caskIn h l).enc ∧ Below w.heap.size w w' := by
  have HH := Lib.hid hH
  have HI := Lib.hid hI
  have HV := Lib.hid hv
  have HP := Lib.hid hp
  clear hH hI hv hp
  go_enter Try.func76, Try.ntmps76
  go_wp2
  go_loopw [10] (fun i wr => ∃ k : Nat, k ≤ l.length ∧ i = .int .i64 k ∧ Below w.heap.size w wr ∧ HBox wr w.heap.size L h ∧ CaskBox wr (w.heap.size + 1) c0 ∧ CaskBox wr (w.heap.size + 1 + 1) (caskIn h (l.take k))) (fun i _ => l.length - (intOf i).toNat)
  case atStart =>
    have hb := HBox.new w L h
    have h1 := World.alloc_heap_new (w.alloc (.cells #[.slice L.Ak h.ks.length L.ck, .int .i64 h.fl, .slice L.Ap h.ps.length L.cp, .slice L.Ab h.bs.length L.cb] 26)) (.cells #[.int .i64 0, .int .i64 0, .int .i64 0, .int .i64 0] 79)
    have h2 := World.alloc_heap_new ((w.alloc (.cells #[.slice L.Ak h.ks.length L.ck, .int .i64 h.fl, .slice L.Ap h.ps.length L.cp, .slice L.Ab h.bs.length L.cb] 26)).alloc (.cells #[.int .i64 0, .int .i64 0, .int .i64 0, .int .i64 0] 79)) (.cells #[.int .i64 0, .int .i64 0, .int .i64 0, .int .i64 0] 79)
    simp only [World.size_alloc] at h1 h2
    exact ⟨0, Nat.zero_le _, rfl, (((Below.refl _ _).alloc (Nat.le_refl _) _).alloc (by simp) _).alloc (by simp; omega) _, (hb.of (Below.heap_alloc _ _ _ (by simp))).of (Below.heap_alloc _ _ _ (by simp; omega)), (Below.heap_alloc _ _ _ (by simp)).trans h1, h2⟩
  case round =>
    obtain ⟨k, hk, rfl, hb, hB, hC0, hC⟩ := hrel
    have hsz := hb.size
    by_cases hlt : k < l.length
    · obtain ⟨x, hx⟩ : ∃ x, l[k]? = some x := ⟨_, List.getElem?_eq_getElem hlt⟩
      obtain ⟨b1, o1, rfl, b1lt, d1⟩ := HI.out.at_ hx
      have e1 := below_cell hb d1
      obtain ⟨x0, x1⟩ := HP.out x (List.mem_of_getElem? hx)
      obtain ⟨xn, rfl⟩ : ∃ xn : Nat, x = (xn : Int) := ⟨x.toNat, by omega⟩
      obtain ⟨kk, p1, p2, p3, p4, p5⟩ := HV.out.part (k := xn) (by omega)
      have htk : l.take (k + 1) = l.take k ++ [(xn : Int)] := (take_snoc_next hx).symm
      have hup := caskIn_upto HV.out (l.take k) (fun i hi => HP.out i (List.mem_of_mem_take hi))
      have hlen : (l.take k).length = k := by simp; omega
      have hcok := hup.ok (by omega)
      obtain ⟨g0, g1, g2, g3⟩ := hB.cells
      have P1 := Lib.hid p1
      have P2 := Lib.hid p2
      have P3 := Lib.hid p3
      have HX := Lib.hid htk
      clear p1 p2 p3 hx htk hup hlen d1
      go_wp2_with (go_at_call 97; go_must (refine (lay_any L h xn kk _ _ (caskIn h (l.take k)) hcok (w.heap.size + 1 + 1) 0 wr #[.int .i64 (caskIn h (l.take k)).n, .int .i64 (caskIn h (l.take k)).p, .int .i64 (caskIn h (l.take k)).s, .int .i64 (caskIn h (l.take k)).d] 79 (HH.out.below hb) P1.out P2.out P3.out p4 p5 ⟨by have := HV.out.pl; omega, by have := HV.out.kl; omega⟩ hC hC.at_).mono ?_); rintro e W5 ⟨⟨v, rfl⟩, r1, r2⟩)
      go_roundw
      case rel =>
        refine ⟨k + 1, by omega, by go_num, hb.trans (r1.belowOf hsz (fun j hj => by omega)), hB.of (r1.block _ hB.lt (by omega)), (r1.block _ hC0.lt (by omega)).trans hC0, ?_⟩
        have : CaskBox W5 (w.heap.size + 1 + 1) (layAt h (caskIn h (l.take k)) xn) := by
          unfold CaskBox
          rw [r2]
          simp [layAt]
        rw [HX.out, caskIn_snoc]
        exact this
      case measure => simp [intOf]; omega
    · obtain rfl : k = l.length := by omega
      rw [List.take_length] at hC
      have hA := hC.at_
      obtain ⟨q0, q1, q2, q3⟩ := hA
      obtain ⟨r0, r1, r2, r3⟩ := hC0.at_
      have f0 := hC0.frozen
      have hl0 := hC0.lt
      simp only [Nat.zero_add] at q1 q2 q3 r1 r2 r3
      go_wp2
      refine bodyPost_ret (v := (caskIn h l).enc) ?_ rfl ⟨rfl, ?_⟩
      · simp [results, Try.results76, go_sem, *]
      · exact (((hb.setCell (by simp) _).setCell (by simp) _).setCell (by simp) _).setCell (by simp) _

/-- Numbers from 0 to n - 1, strictly ascending. -/
def riseOK (l : List Int) (n : Int) (k : Nat) : Bool := inR (l.getD k 0) 0 (n - 1) && (k == 0 || decide (l.getD (k - 1) 0 < l.getD k 0))
def riseB (l : List Int) (n : Int) : Bool := (List.range l.length).all (riseOK l n)
theorem riseB_no {l : List Int} {n : Int} {k : Nat} (hk : k < l.length) (h : riseOK l n k = false) : riseB l n = false := by
  rw [riseB, List.all_eq_false]; exact ⟨k, List.mem_range.2 hk, by simp [h]⟩
theorem riseB_yes {l : List Int} {n : Int} (h : ∀ k, k < l.length → riseOK l n k = true) : riseB l n = true := by
  rw [riseB, List.all_eq_true]; exact fun k hk => h k (List.mem_range.1 hk)
theorem riseB_at {l : List Int} {n : Int} (h : riseB l n = true) {k : Nat} (hk : k < l.length) : riseOK l n k = true := List.all_eq_true.1 h k (List.mem_range.2 hk)
theorem riseB_in {l : List Int} {n : Int} (h : riseB l n = true) : ∀ i ∈ l, 0 ≤ i ∧ i < n := fun i hi => by
  obtain ⟨k, hk⟩ := List.getElem?_of_mem hi
  have h1 := riseB_at h (List.getElem?_eq_some_iff.1 hk).1
  simp only [riseOK, Bool.and_eq_true, inR_true, List.getD, hk, Option.getD_some] at h1
  omega
theorem riseB_lt {l : List Int} {n : Int} (h : riseB l n = true) {k : Nat} (hk : k + 1 < l.length) : l.getD k 0 < l.getD (k + 1) 0 := by
  have h1 := riseB_at h hk
  simp only [riseOK, Bool.and_eq_true] at h1
  simpa using h1.2
theorem riseB_ge {l : List Int} {n : Int} (h : riseB l n = true) : ∀ k, k < l.length → (k : Int) ≤ l.getD k 0
  | 0, hk => by
    have := riseB_in h (l.getD 0 0) (by simp [List.getD, List.getElem?_eq_getElem hk])
    omega
  | k + 1, hk => by
    have := riseB_ge h k (by omega)
    have := riseB_lt h hk
    omega
theorem riseB_len {l : List Int} {n : Nat} (h : riseB l n = true) : l.length ≤ n := by
  rcases Nat.eq_zero_or_pos l.length with e | e
  · omega
  · have h1 := riseB_ge h (l.length - 1) (by omega)
    have h2 := riseB_in h (l.getD (l.length - 1) 0) (by simp [List.getD, List.getElem?_eq_getElem (show l.length - 1 < l.length by omega)])
    omega
def saltRet (h : House) (l : List Int) : Int × Int :=
  if validH h = false then (0, 80) else if riseB l h.ps.length = false then (0, 1) else (saltC h.fl (caskIn h l), 0)
set_option maxRecDepth 100000 in
set_option maxHeartbeats 4000000 in
theorem salt_any (L : HL) (h : House) (hn : h.ks.length ≤ 1000 ∧ h.ps.length ≤ 1000 ∧ h.bs.length ≤ 1000) (l : List Int) (hl : l.length ≤ 1000) (A : Option Addr) (c : Nat) (w : World) (hH : HouseAt w w.heap.size L h) (hI : IntsAt w w.heap.size A l) :
    Calls Try.prog 25 #[L.enc h, .slice A l.length c] w fun e w' => e = .returned (.tuple #[.int .i64 (saltRet h l).1, .int .i64 (saltRet h l).2]) ∧ Below w.heap.size w w' := by
  have hbw := (Below.refl _ _).alloc (Nat.le_refl w.heap.size) (.cells #[.slice L.Ak h.ks.length L.ck, .int .i64 h.fl, .slice L.Ap h.ps.length L.cp, .slice L.Ab h.bs.length L.cb] 26)
  have HC := Lib.hid (check_any L h hn _ (hH.below hbw))
  have HB := Lib.hid (HBox.new w L h)
  have HBW := Lib.hid hbw
  have HH := Lib.hid hH
  have HI := Lib.hid hI
  have hp1000 := hn.2.1
  clear hbw hH hI
  cases hv : validH h
  · have hk : ckH h = 80 := ckH_no hv
    have HV := Lib.hid hv
    clear hv
    go_enter Try.func25, Try.ntmps25
    go_wp2_with (go_at_call 28; refine HC.out.mono ?_; rintro e w1 ⟨rfl, hb1⟩)
    go_ret2
    exact ⟨by rw [saltRet, if_pos HV.out]; rfl, hb0to HBW.out hb1⟩
  · have hk : ckH h = 0 := ckH_yes hv
    have HV := Lib.hid (HOK.ofValid hv)
    have HV' := Lib.hid hv
    clear hv
    go_enter Try.func25, Try.ntmps25
    go_wp2_with (go_at_call 28; refine HC.out.mono ?_; rintro e w1 ⟨rfl, hb1⟩)
    have hb1w := hb0to HBW.out hb1
    have hX1 := HB.out.of (hb1.block _ HB.out.lt)
    go_loopw [16] (fun i wr => ∃ k : Nat, k ≤ l.length ∧ i = .int .i64 k ∧ Hid (∀ j, j < k → riseOK l h.ps.length j = true) ∧ Below w.heap.size w wr ∧ HBox wr w.heap.size L h) (fun i _ => l.length - (intOf i).toNat)
    case atStart => exact ⟨0, Nat.zero_le _, rfl, Lib.hid (fun j hj => by omega), hb1w, hX1⟩
    case round =>
      clear hb1 hb1w hX1
      obtain ⟨k, hk', rfl, hok, hb, hB⟩ := hrel
      have hsz := hb.size
      obtain ⟨g0, g1, g2, g3⟩ := hB.cells
      by_cases hlt : k < l.length
      · obtain ⟨x, hx⟩ : ∃ x, l[k]? = some x := ⟨_, List.getElem?_eq_getElem hlt⟩
        have hgx : l.getD k 0 = x := by simp [List.getD, hx]
        have hI := HI.out
        obtain ⟨b1, o1, rfl, b1lt, d1⟩ := HI.out.at_ hx
        have e1 := below_cell hb d1
        cases hr : inR x 0 (h.ps.length - 1)
        · have hno : Hid (riseOK l h.ps.length k = false) := Lib.hid (by rw [riseOK, hgx, hr]; rfl)
          clear hx hgx hI d1
          go_wp2_with (go_at_call 75; refine (isPart_any L h _ _ hp1000).mono ?_; rintro e w2 ⟨rfl, hb2⟩)
          go_ret2
          exact ⟨by rw [saltRet, if_neg (by rw [HV'.out]; decide), if_pos (riseB_no hlt hno.out)]; rfl, hb0to hb hb2⟩
        · rcases Nat.eq_zero_or_pos k with rfl | hk0
          · have hyes : Hid (riseOK l h.ps.length 0 = true) := Lib.hid (by rw [riseOK, hgx, hr]; rfl)
            simp only [Nat.add_zero] at e1
            clear hx hgx hI d1
            go_wp2_with (go_at_call 75; refine (isPart_any L h _ _ hp1000).mono ?_; rintro e w2 ⟨rfl, hb2⟩)
            go_roundw
            case rel => exact ⟨1, by omega, by go_num, Lib.hid (fun j hj => by obtain rfl : j = 0 := (by omega); exact hyes.out), hb0to hb hb2, hB.of (hb2.block _ hB.lt)⟩
            case measure => simp [intOf]; omega
          · obtain ⟨y, hy⟩ : ∃ y, l[k - 1]? = some y := ⟨_, List.getElem?_eq_getElem (by omega)⟩
            have hgy : l.getD (k - 1) 0 = y := by simp [List.getD, hy]
            obtain ⟨b1', o1', e', _, d2⟩ := hI.at_ hy
            cases e'
            have hd0 : decide (0 < k) = true := by simp; omega
            have ht : ((k : Int) - 1).toNat = k - 1 := by omega
            have ht2 : (0 : Int) ≤ (k : Int) - 1 := by omega
            have ht3 : (1 : Int) ≤ (k : Int) := by omega
            have ec : (k : Int) - 1 = ((k - 1 : Nat) : Int) := by omega
            have e2 := below_cell hb d2
            by_cases hxy : x ≤ y
            · have hdx : decide (x ≤ y) = true := by simpa using hxy
              have hno : Hid (riseOK l h.ps.length k = false) := Lib.hid (by rw [riseOK, hgx, hgy, hr]; simp; omega)
              clear hx hgx hy hgy hI d1 d2
              go_wp2_with (go_at_call 75; refine (isPart_any L h _ _ hp1000).mono ?_; rintro e w2 ⟨rfl, hb2⟩; have e3 := below_cell hb2 e2)
              go_ret2
              exact ⟨by rw [saltRet, if_neg (by rw [HV'.out]; decide), if_pos (riseB_no hlt hno.out)]; rfl, hb0to hb hb2⟩
            · have hdx : decide (x ≤ y) = false := by simpa using hxy
              have hyes : Hid (riseOK l h.ps.length k = true) := Lib.hid (by rw [riseOK, hgx, hgy, hr]; simp; omega)
              clear hx hgx hy hgy hI d1 d2
              go_wp2_with (go_at_call 75; refine (isPart_any L h _ _ hp1000).mono ?_; rintro e w2 ⟨rfl, hb2⟩; have e3 := below_cell hb2 e2)
              go_roundw
              case rel => exact ⟨k + 1, by omega, by go_num, Lib.hid (fun j hj => by by_cases e : j = k; exact e ▸ hyes.out; exact hok.out j (by omega)), hb0to hb hb2, hB.of (hb2.block _ hB.lt)⟩
              case measure => simp [intOf]; omega
      · obtain rfl : k = l.length := by omega
        have hrise := riseB_yes hok.out
        have hpo : PartsOK h l := riseB_in hrise
        have hl6 := riseB_len hrise
        have hpl := HV.out.pl
        have hcok := (caskIn_upto HV.out l hpo).ok (by omega)
        have HR := Lib.hid hrise
        have HPO := Lib.hid hpo
        have HF0 := Lib.hid (And.intro HV.out.f0 HV.out.f1)
        have e0 := extB_cell g0
        have e1 := extB_cell g1
        have e2 := extB_cell g2
        have e3 := extB_cell g3
        clear hok hrise hpo
        go_wp2
        refine wp_region_extW (by kernel_rfl) (by kernel_rfl) ?_
        repeat (go_big_quiet_step (first
          | (go_at_call 76; exact ext_call (filled_any L h HV.out l (by omega) HPO.out A c _ (extB_house (HH.out.below hb) (Nat.le_refl _)) ((HI.out.keep (Nat.le_trans hsz (extB_below wr _).size) fun b o hlt => by exact ((extB_below wr _).cell (p := ⟨b, o, none⟩) (by show b < wr.heap.size; omega)).trans (hb.cell (p := ⟨b, o, none⟩) hlt)))))
          | (go_at_call 74; exact ext_call (saltC_any _ h.fl hcok HF0.out _))))
        refine wpQuiet_nil ?_
        rintro _ ⟨x1, rfl⟩
        have hb8 := extB_below wr x1
        clear e0 e1 e2 e3
        go_wp2
        go_ret2
        exact ⟨by rw [saltRet, if_neg (by rw [HV'.out]; decide), if_neg (by rw [HR.out]; decide)]; rfl, hb0to hb hb8⟩
/-- A list is a packing. -/
def goodB (h : House) (pack : List Int) : Bool := decide (pack.length = h.ps.length) && (pack.all (fun b => inR b 0 (h.bs.length - 1)) && fitsC h (packedC h pack))
theorem any_not_all2 (l : List Int) (p : Int → Bool) : l.any (fun x => !p x) = !l.all p := by rw [Bool.eq_iff_iff]; simp
theorem packed_of_good (L : HL) (h : House) (hv : HOK h) (pack : List Int) (hl : pack.length = h.ps.length) (hr : pack.all (fun b => inR b 0 (h.bs.length - 1)) = true) (A : Option Addr) (c : Nat) (w : World)
    (hH : HouseAt w w.heap.size L h) (hP : IntsAt w w.heap.size A pack) :
    Calls Try.prog 83 #[L.enc h, .slice A pack.length c] w fun e w' => e = .returned (encCs (packedC h pack)) ∧ Below w.heap.size w w' :=
  packed_any L h hv pack hl (fun k b hb => by
    have := inR_true.1 (List.all_eq_true.1 hr b (List.mem_of_getElem? hb))
    have := hv.bl
    omega) A c w hH hP
set_option maxRecDepth 100000 in
set_option maxHeartbeats 4000000 in
theorem good_any (L : HL) (h : House) (hv : HOK h) (pack : List Int) (hl : pack.length ≤ 1000) (A : Option Addr) (c : Nat) (w : World) (hH : HouseAt w w.heap.size L h) (hI : IntsAt w w.heap.size A pack) :
    Calls Try.prog 81 #[L.enc h, .slice A pack.length c] w fun e w' => e = .returned (.bool (goodB h pack)) ∧ Below w.heap.size w w' := by
  have hb0 := (Below.refl _ _).alloc (Nat.le_refl w.heap.size) (.cells #[.slice L.Ak h.ks.length L.ck, .int .i64 h.fl, .slice L.Ap h.ps.length L.cp, .slice L.Ab h.bs.length L.cb] 26)
  have hX := HBox.new w L h
  have hbl := hv.bl
  have HX := Lib.hid hX
  have HB0 := Lib.hid hb0
  obtain ⟨g0, g1, g2, g3⟩ := hX.cells
  have e0 := extB_cell g0
  have e1 := extB_cell g1
  have e2 := extB_cell g2
  have e3 := extB_cell g3
  have HV := Lib.hid hv
  have hH1 := hH.below hb0
  have hI1 : IntsAt (w.alloc (.cells #[.slice L.Ak h.ks.length L.ck, .int .i64 h.fl, .slice L.Ap h.ps.length L.cp, .slice L.Ab h.bs.length L.cb] 26)) (w.alloc (.cells #[.slice L.Ak h.ks.length L.ck, .int .i64 h.fl, .slice L.Ap h.ps.length L.cp, .slice L.Ab h.bs.length L.cb] 26)).heap.size A pack := hI.keep hb0.size fun b o hlt => hb0.cell (p := ⟨b, o, none⟩) hlt
  have HH := Lib.hid hH1
  have HI := Lib.hid hI1
  obtain ⟨W1, hW1⟩ : ∃ W1, W1 = w.alloc (.cells #[.slice L.Ak h.ks.length L.ck, .int .i64 h.fl, .slice L.Ap h.ps.length L.cp, .slice L.Ab h.bs.length L.cb] 26) := ⟨_, rfl⟩
  rw [← hW1] at HX HB0 HH HI e0 e1 e2 e3
  have hIe : ∀ x, IntsAt (extB W1 x) (extB W1 x).heap.size A pack := fun x => HI.out.keep (extB_below W1 x).size fun b o hlt => (extB_below W1 x).cell (p := ⟨b, o, none⟩) hlt
  have HIE := Lib.hid hIe
  have HW := Lib.hid hW1
  clear hX hb0 g0 g1 g2 g3 hv hH hI hH1 hI1 hIe hW1
  by_cases hlen : pack.length = h.ps.length
  · have hd1 : ((pack.length : Int) == (h.ps.length : Int)) = true := by simp; omega
    have HLEN := Lib.hid hlen
    cases hall : pack.all (fun b => inR b 0 (h.bs.length - 1))
    · have hany : (pack.any fun x => !inR x 0 (h.bs.length - 1)) = true := by rw [any_not_all2, hall]; rfl
      have HANY := Lib.hid hany
      have HALL := Lib.hid hall
      clear hall hlen
      go_enter Try.func81, Try.ntmps81
      go_wp2
      rw [← HW.out]
      refine wp_region_extW (by kernel_rfl) (by kernel_rfl) ?_
      repeat (go_big_quiet_step (first
        | (go_at_call 77; exact ext_call (contains99_any L h (by omega) w.heap.size A c pack hl _ (HIE.out _) (HX.out.of ((extB_below W1 _).block _ HX.out.lt))))
        ))
      refine wpQuiet_nil ?_
      rintro _ ⟨x1, rfl⟩
      have hb8 := hb0to HB0.out (extB_below W1 x1)
      clear e0 e1 e2 e3
      go_wp2
      go_ret
      exact ⟨by rw [goodB, HALL.out]; simp, hb8⟩
    · have hany : (pack.any fun x => !inR x 0 (h.bs.length - 1)) = false := by rw [any_not_all2, hall]; rfl
      have HANY := Lib.hid hany
      have HALL := Lib.hid hall
      clear hall hlen
      have hg : goodB h pack = fitsC h (packedC h pack) := by rw [goodB, HALL.out, HLEN.out]; simp
      have HG := Lib.hid hg
      clear hg
      go_enter Try.func81, Try.ntmps81
      go_wp2
      rw [← HW.out]
      refine wp_region_extW (by kernel_rfl) (by kernel_rfl) ?_
      repeat (go_big_quiet_step (first
        | (go_at_call 77; exact ext_call (contains99_any L h (by omega) w.heap.size A c pack hl _ (HIE.out _) (HX.out.of ((extB_below W1 _).block _ HX.out.lt))))
        | (go_at_call 83; exact ext_call (packed_of_good L h HV.out pack HLEN.out HALL.out A c _ (extB_house HH.out (Nat.le_refl _)) (HIE.out _)))
        | (go_at_call 67; exact ext_call (fits_any L h HV.out _ (packedC_len h pack) (packedC_ok HV.out pack) _ (extB_house HH.out (Nat.le_refl _))))))
      refine wpQuiet_nil ?_
      rintro _ ⟨x1, rfl⟩
      have hb8 := hb0to HB0.out (extB_below W1 x1)
      clear e0 e1 e2 e3
      go_wp2
      go_ret
      exact ⟨by rw [HG.out]; rfl, hb8⟩
  · have hd1 : ((pack.length : Int) == (h.ps.length : Int)) = false := by simp; omega
    have HLEN := Lib.hid hlen
    clear hlen
    go_enter Try.func81, Try.ntmps81
    go_wp2
    rw [← HW.out]
    refine wp_region_extW (by kernel_rfl) (by kernel_rfl) ?_
    repeat (go_big_quiet_step (fail))
    refine wpQuiet_nil ?_
    rintro _ ⟨x1, rfl⟩
    have hb8 := hb0to HB0.out (extB_below W1 x1)
    clear e0 e1 e2 e3
    go_wp2
    go_ret
    exact ⟨by rw [goodB, decide_eq_false HLEN.out]; rfl, hb8⟩
def goodRet (h : House) (pack : List Int) : Bool × Int := if validH h = false then (false, 80) else (goodB h pack, 0)
set_option maxRecDepth 100000 in
set_option maxHeartbeats 4000000 in
theorem Good_any (L : HL) (h : House) (hn : h.ks.length ≤ 1000 ∧ h.ps.length ≤ 1000 ∧ h.bs.length ≤ 1000) (pack : List Int) (hl : pack.length ≤ 1000) (A : Option Addr) (c : Nat) (w : World) (hH : HouseAt w w.heap.size L h) (hI : IntsAt w w.heap.size A pack) :
    Calls Try.prog 31 #[L.enc h, .slice A pack.length c] w fun e w' => e = .returned (.tuple #[.bool (goodRet h pack).1, .int .i64 (goodRet h pack).2]) ∧ Below w.heap.size w w' := by
  have hbw := (Below.refl _ _).alloc (Nat.le_refl w.heap.size) (.cells #[.slice L.Ak h.ks.length L.ck, .int .i64 h.fl, .slice L.Ap h.ps.length L.cp, .slice L.Ab h.bs.length L.cb] 26)
  have HC := Lib.hid (check_any L h hn _ (hH.below hbw))
  have HB := Lib.hid (HBox.new w L h)
  have HBW := Lib.hid hbw
  have HH := Lib.hid hH
  have HI := Lib.hid hI
  clear hbw hH hI
  cases hv : validH h
  · have hk : ckH h = 80 := ckH_no hv
    have HV := Lib.hid hv
    clear hv
    go_enter Try.func31, Try.ntmps31
    go_wp2_with (go_at_call 28; refine HC.out.mono ?_; rintro e w1 ⟨rfl, hb1⟩)
    go_ret2
    exact ⟨by rw [goodRet, if_pos HV.out]; rfl, hb0to HBW.out hb1⟩
  · have hk : ckH h = 0 := ckH_yes hv
    have HV := Lib.hid (HOK.ofValid hv)
    have HV' := Lib.hid hv
    clear hv
    go_enter Try.func31, Try.ntmps31
    go_wp2_with (first
      | (go_at_call 28; refine HC.out.mono ?_; rintro e w1 ⟨rfl, hb1⟩; obtain ⟨g0, g1, g2, g3⟩ := (HB.out.of (hb1.block _ HB.out.lt)).cells)
      | (go_at_call 81; refine (good_any L h HV.out pack hl A c _ (HH.out.below (hb0to HBW.out hb1)) (HI.out.keep (hb0to HBW.out hb1).size fun b o hlt => (hb0to HBW.out hb1).cell (p := ⟨b, o, none⟩) hlt)).mono ?_; rintro e w2 ⟨rfl, hb2⟩))
    go_ret2
    exact ⟨by rw [goodRet, if_neg (by rw [HV'.out]; decide)]; rfl, hb0to HBW.out (hb0to hb1 hb2)⟩
/-- What Barrel returns: pounds, salt, days, the error. -/
def barrelRet (h : House) (pack : List Int) (b : Int) : Int × Int × Int × Int :=
  if validH h = false then (0, 0, 0, 80) else if (goodB h pack && inR b 0 (h.bs.length - 1)) = false then (0, 0, 0, 1) else
    ((caskOf (packedC h pack) b.toNat).p, saltC h.fl (caskOf (packedC h pack) b.toNat), (caskOf (packedC h pack) b.toNat).d, 0)
set_option maxRecDepth 100000 in
set_option maxHeartbeats 4000000 in
theorem barrel_any (L : HL) (h : House) (hn : h.ks.length ≤ 1000 ∧ h.ps.length ≤ 1000 ∧ h.bs.length ≤ 1000) (pack : List Int) (hl : pack.length ≤ 1000) (b : Int) (A : Option Addr) (c : Nat) (w : World) (hH : HouseAt w w.heap.size L h) (hI : IntsAt w w.heap.size A pack) :
    Calls Try.prog 33 #[L.enc h, .slice A pack.length c, .int .i64 b] w fun e w' => e = .returned (.tuple #[.int .i64 (barrelRet h pack b).1, .int .i64 (barrelRet h pack b).2.1, .int .i64 (barrelRet h pack b).2.2.1, .int .i64 (barrelRet h pack b).2.2.2]) ∧ Below w.heap.size w w' := by
  have hbw := (Below.refl _ _).alloc (Nat.le_refl w.heap.size) (.cells #[.slice L.Ak h.ks.length L.ck, .int .i64 h.fl, .slice L.Ap h.ps.length L.cp, .slice L.Ab h.bs.length L.cb] 26)
  have HC := Lib.hid (check_any L h hn _ (hH.below hbw))
  have HB := Lib.hid (HBox.new w L h)
  have HBW := Lib.hid hbw
  have HH := Lib.hid hH
  have HI := Lib.hid hI
  have hIk : ∀ W, Below w.heap.size w W → IntsAt W W.heap.size A pack := fun W hW => HI.out.keep hW.size fun b o hlt => hW.cell (p := ⟨b, o, none⟩) hlt
  have HIK := Lib.hid hIk
  clear hbw hH hI hIk
  cases hv : validH h
  · have hk : ckH h = 80 := ckH_no hv
    have HV := Lib.hid hv
    clear hv
    go_enter Try.func33, Try.ntmps33
    go_wp2_with (go_at_call 28; refine HC.out.mono ?_; rintro e w1 ⟨rfl, hb1⟩)
    refine bodyPost_ret (v := .tuple #[.int .i64 0, .int .i64 0, .int .i64 0, .int .i64 80]) (by simp [results, Try.results33, go_sem]) rfl ⟨by rw [barrelRet, if_pos HV.out], hb0to HBW.out hb1⟩
  · have hk : ckH h = 0 := ckH_yes hv
    have HV := Lib.hid (HOK.ofValid hv)
    have HV' := Lib.hid hv
    clear hv
    cases hg : goodB h pack
    · have HG := Lib.hid hg
      go_enter Try.func33, Try.ntmps33
      go_wp2_with (first
        | (go_at_call 28; refine HC.out.mono ?_; rintro e w1 ⟨rfl, hb1⟩; obtain ⟨g0, g1, g2, g3⟩ := (HB.out.of (hb1.block _ HB.out.lt)).cells)
        | (go_at_call 81; refine (good_any L h HV.out pack hl A c _ (HH.out.below (hb0to HBW.out hb1)) (HIK.out _ (hb0to HBW.out hb1))).mono ?_; rintro e w2 ⟨rfl, hb2⟩))
      refine bodyPost_ret (v := .tuple #[.int .i64 0, .int .i64 0, .int .i64 0, .int .i64 1]) (by simp [results, Try.results33, go_sem]) rfl ⟨by rw [barrelRet, if_neg (by rw [HV'.out]; decide), HG.out]; rfl, hb0to HBW.out (hb0to hb1 hb2)⟩
    · have HG := Lib.hid hg
      have hb1000 := hn.2.2
      cases hr : inR b 0 (h.bs.length - 1)
      · have HR := Lib.hid hr
        go_enter Try.func33, Try.ntmps33
        go_wp2_with (first
          | (go_at_call 28; refine HC.out.mono ?_; rintro e w1 ⟨rfl, hb1⟩; obtain ⟨g0, g1, g2, g3⟩ := (HB.out.of (hb1.block _ HB.out.lt)).cells)
          | (go_at_call 81; refine (good_any L h HV.out pack hl A c _ (HH.out.below (hb0to HBW.out hb1)) (HIK.out _ (hb0to HBW.out hb1))).mono ?_; rintro e w2 ⟨rfl, hb2⟩; have x0 := below_cell hb2 g0; have x1 := below_cell hb2 g1; have x2 := below_cell hb2 g2; have x3 := below_cell hb2 g3)
          | (go_at_call 82; refine (isBarrel_any L h _ _ hb1000).mono ?_; rintro e w3 ⟨rfl, hb3⟩))
        refine bodyPost_ret (v := .tuple #[.int .i64 0, .int .i64 0, .int .i64 0, .int .i64 1]) (by simp [results, Try.results33, go_sem]) rfl ⟨by rw [barrelRet, if_neg (by rw [HV'.out]; decide), HG.out, HR.out]; rfl, hb0to HBW.out (hb0to hb1 (hb0to hb2 hb3))⟩
      · obtain ⟨hb0, hbl⟩ := inR_true.1 hr
        obtain ⟨bn, rfl⟩ : ∃ bn : Nat, b = (bn : Int) := ⟨b.toNat, by omega⟩
        have hb5 : bn < 5 := by have := HV.out.bl; omega
        have HR := Lib.hid hr
        have hl5 := packedC_len h pack
        have hix := index81 hl5 hb5
        have hgl : pack.length = h.ps.length ∧ pack.all (fun b => inR b 0 (h.bs.length - 1)) = true := by
          simp only [goodB, Bool.and_eq_true, decide_eq_true_eq] at hg
          exact ⟨hg.1, hg.2.1⟩
        have HGL := Lib.hid hgl
        have hcok := packedC_ok HV.out pack bn _ (at_caskOf (by omega))
        have HCK := Lib.hid hcok
        have HF0 := Lib.hid (And.intro HV.out.f0 HV.out.f1)
        have hbr : barrelRet h pack bn = ((caskOf (packedC h pack) bn).p, saltC h.fl (caskOf (packedC h pack) bn), (caskOf (packedC h pack) bn).d, 0) := by
          rw [barrelRet, if_neg (by rw [HV'.out]; decide), HG.out, HR.out, if_neg (by decide), Int.toNat_natCast]
        have HBR := Lib.hid hbr
        clear hgl hl5 hcok hbr hb0 hbl
        go_enter Try.func33, Try.ntmps33
        go_wp2_with (first
          | (go_at_call 28; refine HC.out.mono ?_; rintro e w1 ⟨rfl, hb1⟩; obtain ⟨g0, g1, g2, g3⟩ := (HB.out.of (hb1.block _ HB.out.lt)).cells)
          | (go_at_call 81; refine (good_any L h HV.out pack hl A c _ (HH.out.below (hb0to HBW.out hb1)) (HIK.out _ (hb0to HBW.out hb1))).mono ?_; rintro e w2 ⟨rfl, hb2⟩; have x0 := below_cell hb2 g0; have x1 := below_cell hb2 g1; have x2 := below_cell hb2 g2; have x3 := below_cell hb2 g3)
          | (go_at_call 82; refine (isBarrel_any L h _ _ hb1000).mono ?_; rintro e w3 ⟨rfl, hb3⟩; have y0 := below_cell hb3 x0; have y1 := below_cell hb3 x1; have y2 := below_cell hb3 x2; have y3 := below_cell hb3 x3)
          | (go_at_call 83; refine (packed_of_good L h HV.out pack HGL.out.1 HGL.out.2 A c _ (HH.out.below (hb0to HBW.out (hb0to hb1 (hb0to hb2 hb3)))) (HIK.out _ (hb0to HBW.out (hb0to hb1 (hb0to hb2 hb3))))).mono ?_; rintro e w4 ⟨rfl, hb4⟩))
        have z1 := below_cell hb4 y1
        have hcb : CaskBox (w4.alloc (.cells #[.int .i64 (caskOf (packedC h pack) bn).n, .int .i64 (caskOf (packedC h pack) bn).p, .int .i64 (caskOf (packedC h pack) bn).s, .int .i64 (caskOf (packedC h pack) bn).d] 79)) w4.heap.size (caskOf (packedC h pack) bn) := World.alloc_heap_new w4 _
        obtain ⟨r0, r1, r2, r3⟩ := hcb.at_
        simp only [Nat.zero_add] at r1 r2 r3
        have z2 := below_cell ((Below.refl _ w4).alloc (Nat.le_refl _) (.cells #[.int .i64 (caskOf (packedC h pack) bn).n, .int .i64 (caskOf (packedC h pack) bn).p, .int .i64 (caskOf (packedC h pack) bn).s, .int .i64 (caskOf (packedC h pack) bn).d] 79)) z1
        have hbz := hb0to HBW.out (hb0to hb1 (hb0to hb2 (hb0to hb3 (hb0to hb4 ((Below.refl _ w4).alloc (Nat.le_refl _) (.cells #[.int .i64 (caskOf (packedC h pack) bn).n, .int .i64 (caskOf (packedC h pack) bn).p, .int .i64 (caskOf (packedC h pack) bn).s, .int .i64 (caskOf (packedC h pack) bn).d] 79))))))
        obtain ⟨W5, hW5⟩ : ∃ W5, w4.alloc (.cells #[.int .i64 (caskOf (packedC h pack) bn).n, .int .i64 (caskOf (packedC h pack) bn).p, .int .i64 (caskOf (packedC h pack) bn).s, .int .i64 (caskOf (packedC h pack) bn).d] 79) = W5 := ⟨_, rfl⟩
        rw [hW5] at r0 r1 r2 r3 z2 hbz ⊢
        have e0 := extB_cell r0
        have e1 := extB_cell r1
        have e2 := extB_cell r2
        have e3 := extB_cell r3
        have e4 := extB_cell z2
        clear hW5 hcb r0 r1 r2 r3 z1 z2 y0 y1 y2 y3 x0 x1 x2 x3 g0 g1 g2 g3
        refine wp_region_extW (by kernel_rfl) (by kernel_rfl) ?_
        repeat (go_big_quiet_step ((go_at_call 74; exact ext_call (saltC_any _ h.fl HCK.out HF0.out _))))
        refine wpQuiet_nil ?_
        rintro _ ⟨x1, rfl⟩
        have hb8 := extB_below W5 x1
        clear e0 e1 e2 e3 e4
        go_wp2
        refine bodyPost_ret (v := .tuple #[.int .i64 (caskOf (packedC h pack) bn).p, .int .i64 (saltC h.fl (caskOf (packedC h pack) bn)), .int .i64 (caskOf (packedC h pack) bn).d, .int .i64 0]) (by simp [results, Try.results33, go_sem]) rfl ⟨by rw [HBR.out], hb0to hbz hb8⟩
end Go.Proofs.Ytgemmmdcpbajoaa
