import Derived.Deep.RegionHeld3
import Derived.Deep.RegionWith
import Derived.Deep.MidRow
import Derived.KernelRfl
import Derived.Deep.DeepMust
import Derived.Test.YtgemmmdcpbajoaaS3
namespace Go.Proofs.Ytgemmmdcpbajoaa
open Go.RowKit

/-- The box of a house. -/
def HBox (W : World) (b : Nat) (L : HL) (h : House) : Prop := W.heap[b]? = some (.cells #[.slice L.Ak h.ks.length L.ck, .int .i64 h.fl, .slice L.Ap h.ps.length L.cp, .slice L.Ab h.bs.length L.cb] 26 (0, 0))
theorem HBox.cells {W : World} {b : Nat} {L : HL} {h : House} (hb : HBox W b L h) : W.cell? ⟨b, 0, none⟩ = some (.slice L.Ak h.ks.length L.ck) ∧ W.cell? ⟨b, 1, none⟩ = some (.int .i64 h.fl) ∧ W.cell? ⟨b, 2, none⟩ = some (.slice L.Ap h.ps.length L.cp) ∧ W.cell? ⟨b, 3, none⟩ = some (.slice L.Ab h.bs.length L.cb) := by
  simp [World.cell?, show W.heap[b]? = _ from hb]
theorem HBox.new (W : World) (L : HL) (h : House) : HBox (W.alloc (.cells #[.slice L.Ak h.ks.length L.ck, .int .i64 h.fl, .slice L.Ap h.ps.length L.cp, .slice L.Ab h.bs.length L.cb] 26)) W.heap.size L h := World.alloc_heap_new W _
theorem HBox.lt {W : World} {b : Nat} {L : HL} {h : House} (hb : HBox W b L h) : b < W.heap.size := (Array.getElem?_eq_some_iff.1 hb).1
theorem HBox.of {W W' : World} {b : Nat} {L : HL} {h : House} (hb : HBox W b L h) (e : W'.heap[b]? = W.heap[b]?) : HBox W' b L h := e.trans hb

theorem HouseAt.drew {W : World} {B : Nat} {L : HL} {h : House} (hh : HouseAt W B L h) : HouseAt W.drew B L h := ⟨hh.k, hh.p, hh.b⟩
theorem CaskAt.drew {W : World} {b o : Nat} {c : Cask} (h : CaskAt W b o c) : CaskAt W.drew b o c := ⟨h.n, h.p, h.s, h.d⟩
theorem setIf_same {c : Array Value} {o : Nat} {v : Value} (h : c[o]? = some v) : c.setIfInBounds o v = c := by
  obtain ⟨hlt, e⟩ := Array.getElem?_eq_some_iff.1 h
  apply Array.ext
  · simp
  · intro i h1 h2
    rw [Array.getElem_setIfInBounds]
    split
    · rename_i ei; subst ei; exact e.symm
    · rfl
theorem set_same {W : World} {b o : Nat} {v : Value} (h : W.cell? ⟨b, o, none⟩ = some v) : W.setCell ⟨b, o, none⟩ v = W := by
  unfold World.cell? at h
  cases hb : W.heap[b]? with
  | none => simp [hb] at h
  | some ob =>
    obtain ⟨hlt, e⟩ := Array.getElem?_eq_some_iff.1 hb
    have hh : (W.setCell ⟨b, o, none⟩ v).heap = W.heap := by
      apply Array.ext
      · simp [World.setCell]
      · intro i h1 h2
        simp only [World.setCell]
        by_cases ei : i = b
        · subst ei
          rw [Array.getElem_modify_self, e]
          cases ob <;> simp_all [setIf_same]
        · rw [Array.getElem_modify_of_ne (Ne.symm ei)]
    show ({ W with heap := (W.setCell ⟨b, o, none⟩ v).heap } : World) = W
    rw [hh]

theorem casks_set {W : World} {cb : Nat} {l : List Cask} {j : Nat} {c : Cask} (h : W.heap[cb]? = some (.cells (((((flatC l).toArray.setIfInBounds (j * 4) (.int .i64 c.n)).setIfInBounds (j * 4 + 1) (.int .i64 c.p)).setIfInBounds (j * 4 + 2) (.int .i64 c.s)).setIfInBounds (j * 4 + 3) (.int .i64 c.d)) 81 (0, 0))) : CasksAt W cb (l.set j c) := by
  unfold CasksAt
  rw [← flatC_set, h]
  simp
theorem KpB.ofDrew {S : Nat → Prop} {n : Nat} {W W' : World} (h : KpB S n W.drew W') : KpB S n W W' := ⟨h.os, h.tape, h.output, h.size, h.block⟩

theorem list5 {α : Type} {l : List α} (h : l.length = 5) : ∃ a b c d e, l = [a, b, c, d, e] := by
  match l, h with
  | [a, b, c, d, e], _ => exact ⟨a, b, c, d, e, rfl⟩

theorem results_cell {P : Program} {fn : Func} {t : Tmp} {ty : TypeId} (h : fn.results = #[.cell t ty]) {tmps : Array Value} {w : World} {v : Value} {p : Addr} (ht : tmps.getD t undef = .pointer (some p))
    (hl : (Instr.loadAt ty (.pointer (some p))).run P w = .ok v w) : (results fn tmps).run P w = .ok v w := by
  have e : (results fn tmps).run P w = (Instr.loadAt ty (tmps.getD t undef)).run P w := by
    have ht' : tmps[t]?.getD undef = .pointer (some p) := by simpa using ht
    rw [ht]
    simp [results, h, ht', Instr.loadAt, Instr.sureAddr, asAddr]
  rw [e, ht]; exact hl
theorem casks_range {W : World} {cb : Nat} {l : List Cask} (hC : CasksAt W cb l) : W.rangeAt cb 0 (flatC l) := fun j v hj => by
  simp [World.cell?, show W.heap[cb]? = _ from hC, hj]
theorem load81 {W : World} {cb : Nat} {l : List Cask} (hl : l.length = 5) (hC : CasksAt W cb l) : (Instr.loadAt 81 (.pointer (some ⟨cb, 0, none⟩))).run Try.prog W = .ok (encCs l) W :=
  run_loadAt_mid W cb 0 81 (flatC l) _ (casks_range hC) Try.underlying81 rfl (by rw [flatC_len, hl]; kernel_rfl)
theorem setCells_same (W : World) (b : Nat) : ∀ (l : List Value) (o : Nat), W.rangeAt b o l → W.setCells b o l = W
  | [], o, _ => rfl
  | v :: l, o, h => by
    have h0 := h 0 v rfl
    simp only [Nat.add_zero] at h0
    rw [World.setCells, set_same h0]
    exact setCells_same W b l (o + 1) (fun j u hj => by have := h (j + 1) u (by simpa using hj); rwa [show o + (j + 1) = o + 1 + j by omega] at this)
theorem flatC_one : ∀ l, (flatC l).all (·.oneCell') = true
  | [] => rfl
  | c :: l => by simp only [flatC, List.all_cons, flatC_one l]; rfl
theorem casks_there {W : World} {cb : Nat} {l : List Cask} (hC : CasksAt W cb l) : W.there cb 0 (flatC l).toArray.size := fun j hj => by
  have hj' : j < (flatC l).length := by simpa using hj
  exact ⟨by simp [World.cell?, show W.heap[cb]? = _ from hC, hj'], by simp [World.frozen?, show W.heap[cb]? = _ from hC]⟩
theorem info81 {l : List Cask} (hl : l.length = 5) : (Try.prog.info? 81).map (·.size) = some (flatC l).length := by rw [flatC_len, hl]; kernel_rfl
theorem info81' {l : List Cask} (hl : l.length = 5) : (Try.prog.info? 81).map (·.size) = some (flatC l).toArray.size := by rw [List.size_toArray, flatC_len, hl]; kernel_rfl
theorem flatC_one' (l : List Cask) : (flatC l).toArray.all (·.oneCell') = true := by have := flatC_one l; simpa using this
/-- The load of a whole array of casks, and the store of what is there already, as the walk meets them. -/
theorem wpl_load81 {ops : Array Oper} {rest : List Oper} {o : Oper} {a : Act} {w : World} {Q : Exit → Act → World → Prop} (hgd : o.guard = none) (x : Operand) (ho : o.op = .load 81 x) (cb : Nat)
    (hx : a.eval x = .pointer (some ⟨cb, 0, none⟩)) (l : List Cask) (hl : l.length = 5) (hC : CasksAt w cb l) (h : wpList Try.prog ops Q rest (a.put o.dst (encCs l)) w) : wpList Try.prog ops Q (o :: rest) a w :=
  wpList_load_mid hgd 81 x ho cb 0 hx (flatC l) _ (casks_range hC) Try.underlying81 rfl (info81 hl) h
theorem wpl_store81 {ops : Array Oper} {rest : List Oper} {o : Oper} {a : Act} {w : World} {Q : Exit → Act → World → Prop} (hgd : o.guard = none) (x y : Operand) (ho : o.op = .store 81 x y) (cb : Nat)
    (hx : a.eval x = .pointer (some ⟨cb, 0, none⟩)) (l : List Cask) (hy : a.eval y = encCs l) (hl : l.length = 5) (hC : CasksAt w cb l) (h : wpList Try.prog ops Q rest (a.put o.dst undef) w) : wpList Try.prog ops Q (o :: rest) a w := by
  refine wpList_store_mid hgd 81 x y ho cb 0 (flatC l).toArray hx hy (casks_there hC) (info81' hl) (flatC_one' l) ?_
  rw [List.toList_toArray, setCells_same w cb _ 0 (casks_range hC)]
  exact h
set_option maxRecDepth 100000 in
set_option maxHeartbeats 4000000 in
theorem packed_any (L : HL) (h : House) (hv : HOK h) (pack : List Int) (hl : pack.length = h.ps.length) (hr : ∀ (k : Nat) (b : Int), pack[k]? = some b → -1 ≤ b ∧ b ≤ 4) (A : Option Addr) (c : Nat) (w : World)
    (hH : HouseAt w w.heap.size L h) (hP : IntsAt w w.heap.size A pack) :
    Calls Try.prog 83 #[L.enc h, .slice A pack.length c] w fun e w' => e = .returned (encCs (packedC h pack)) ∧ Below w.heap.size w w' := by
  have hpl := hv.pl
  have hkl := hv.kl
  have HH := Lib.hid hH
  have HP := Lib.hid hP
  have HR := Lib.hid hr
  have HV := Lib.hid hv
  have HL' := Lib.hid hl
  have hp6 : pack.length ≤ 6 := by omega
  clear hH hP hr hv hl
  go_enter Try.func83, Try.ntmps83
  go_wp2
  go_loopw [9] (fun i wr => ∃ k : Nat, k ≤ pack.length ∧ i = .int .i64 k ∧ Below w.heap.size w wr ∧ HBox wr w.heap.size L h ∧ CasksAt wr (w.heap.size + 1) (casksTo h pack k)) (fun i _ => pack.length - (intOf i).toNat)
  case atStart =>
    refine ⟨0, Nat.zero_le _, rfl, ((Below.refl _ _).alloc (Nat.le_refl _) _).alloc (by simp) _, (HBox.new w L h).of (Below.heap_alloc _ _ _ (by simp)), ?_⟩
    have := World.alloc_heap_new (w.alloc (.cells #[.slice L.Ak h.ks.length L.ck, .int .i64 h.fl, .slice L.Ap h.ps.length L.cp, .slice L.Ab h.bs.length L.cb] 26)) (.cells (flatC [c0, c0, c0, c0, c0]).toArray 81)
    rw [World.size_alloc] at this
    exact this
  case round =>
    obtain ⟨k, hk, rfl, hb, hB, hC⟩ := hrel
    by_cases hlt : k < pack.length
    · as_aux_lemma =>
      obtain ⟨x, hx⟩ : ∃ x, pack[k]? = some x := ⟨_, List.getElem?_eq_getElem hlt⟩
      obtain ⟨b1, o1, rfl, b1lt, d1⟩ := IntsAt.at_ (HP.out.keep hb.size fun _ _ hlt => hb.cell (p := ⟨_, _, none⟩) hlt) hx
      obtain ⟨hx0, hx4⟩ := HR.out k x hx
      obtain ⟨e0, e1, e2, e3⟩ := hB.cells
      have hbx : barrelOf pack k = x := by simp [barrelOf, List.getD, hx]
      by_cases hm : x = -1
      · have hd : (x != -1) = false := by simp [hm]
        go_wp2
        go_roundw
        case rel => exact ⟨k + 1, by omega, by go_num, hb, hB, by rw [casksTo, if_pos (hbx.trans hm)]; exact hC⟩
        case measure => simp [intOf]; omega
      · obtain ⟨xn, rfl⟩ : ∃ xn : Nat, x = (xn : Int) := ⟨x.toNat, by omega⟩
        have hd : decide ((xn : Int) ≠ -1) = true := by simp <;> omega
        obtain ⟨kk, p1, p2, p3, p4, p5⟩ := HV.out.part (k := k) (by rw [← HL'.out]; exact hlt)
        have hxl : xn < (casksTo h pack k).length := by rw [casksTo_len]; omega
        obtain ⟨cc, hcc⟩ : ∃ cc, (casksTo h pack k)[xn]? = some cc := ⟨_, List.getElem?_eq_getElem hxl⟩
        have hcok := (casksTo_upto HV.out pack k (by rw [← HL'.out]; exact hk) xn cc hcc).ok (by omega)
        have hCC := hC.at_ hcc
        have hHr := HH.out.below hb
        have P1 := Lib.hid p1
        have P2 := Lib.hid p2
        have P3 := Lib.hid p3
        have X1 := Lib.hid hx
        have C1 := Lib.hid hcc
        clear p1 p2 p3 hx hcc
        go_wp2
        go_region_with (go_at_call 97; go_must (refine (lay_any L h k kk _ _ cc hcok (w.heap.size + 1) (xn * 4) wr.drew (flatC (casksTo h pack k)).toArray 81 hHr.drew P1.out P2.out P3.out p4 p5 ⟨by omega, by omega⟩ hC hCC.drew).mono ?_); rintro e W5 ⟨⟨v, rfl⟩, g1, g2⟩)
        all_goals go_wp2
        all_goals
          go_roundw
          case rel =>
            have hle := hb.size
            have g1' : KpB (fun j => j = w.heap.size + 1) wr.heap.size wr W5 := g1.ofDrew
            refine ⟨k + 1, by omega, by go_num, hb.trans ((g1'.mono hle (S' := fun j => j = w.heap.size + 1) fun _ _ h => h).below fun j hj => by have hj' : j = w.heap.size + 1 := hj; omega), hB.of (g1'.block _ hB.lt (fun hj => by have hj' : w.heap.size = w.heap.size + 1 := hj; omega)), ?_⟩
            have hne : ¬ barrelOf pack k = -1 := by rw [hbx]; exact hm
            rw [casksTo, if_neg hne, hbx]
            have e5 : ((casksTo h pack k).getD (xn : Int).toNat c0) = cc := by simp [List.getD, C1.out]
            rw [e5, Int.toNat_natCast]
            exact casks_set g2
          case measure => simp [intOf]; omega
    · obtain rfl : k = pack.length := by omega
      have hl5 := casksTo_len h pack pack.length
      have e1 := HL'.out
      as_aux_lemma =>
        go_wp2_with (first
          | (refine wpl_load81 rfl (.tmp 4) rfl (w.heap.size + 1) rfl _ hl5 hC ?_)
          | (refine wpl_store81 rfl (.tmp 4) (.tmp 22) rfl (w.heap.size + 1) rfl (casksTo h pack pack.length) rfl hl5 hC ?_))
        refine bodyPost_ret (results_cell rfl rfl (load81 hl5 hC)) rfl ⟨?_, hb⟩
        rw [packedC, e1]
end Go.Proofs.Ytgemmmdcpbajoaa
