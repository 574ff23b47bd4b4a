import Derived.Test.YtmbcpmnigggbaaaH1
import Derived.Test.YtmbcpmnigggbaaaLiM5
import Derived.Test.YtmbcpmnigggbaaaLD
import Derived.Test.YtmbcpmnigggbaaaRI
import Derived.Test.YtmbcpmnigggbaaaLiD6
namespace Go.Proofs.Ytmbcpmnigggbaaa
open Go.RowKit
/-! The plain law of TopHired. -/
def okS (s : Li.Sea) (k b : Nat) : Bool := decide (Li.needN s k ≤ Li.carryN s b)
def payS (s : Li.Sea) (b : Nat) : Int := 99 - Li.penceN s b
/-- The empty fair with these bids. -/
def hF (P : Nat) (nb : Int) (q : List Bid) : Fair := ⟨(emptyF P nb).h, (emptyF P nb).pk, 0, nb, q⟩
theorem rd_hire (nb : Int) (q : List Bid) : ∀ P, P ≤ 4 → rdF (hF P nb q) = intsN (List.range P)
  | 0, _ => by kernel_rfl
  | 1, _ => by kernel_rfl
  | 2, _ => by kernel_rfl
  | 3, _ => by kernel_rfl
  | 4, _ => by kernel_rfl
  | n + 5, h => by omega
theorem intsN_up' {l : List Nat} (h : l.Pairwise (· < ·)) : (intsN l).Pairwise (· < ·) := by
  unfold intsN
  rw [List.pairwise_map]
  exact h.imp fun hab => by omega
theorem wL_len {f : Fair} (h : FOK f) : (wL f).length ≤ f.q.length := bits_len _ _
theorem wL_sale {f : Fair} (h : FOK f) : isSaleB f.q (rdF f) (intsN (wL f)) = true := by
  have hs := (wL_win h).sale
  have he : (intsN (wL f)).map Int.toNat = wL f := by simp [intsN, Function.comp_def]
  unfold isSaleB
  rw [he, saleB_iff.2 hs, Bool.and_true, rise_iff]
  exact ⟨intsN_up' hs.up, fun x hx => by
    obtain ⟨i, hi, rfl⟩ := List.mem_map.1 hx
    have := hs.lt hi
    omega⟩
theorem sum_pay (s : Li.Sea) : ∀ cs : List Nat, (cs.map (payS s)).sum = 99 * (cs.length : Int) - (cs.map (Li.penceN s)).sum
  | [] => by simp
  | b :: cs => by
    have := sum_pay s cs
    simp only [List.map_cons, List.sum_cons, List.length_cons]
    unfold payS at *
    omega
theorem cost_nat (s : Li.Sea) (cs : List Nat) : Li.costS s (intsN cs) = (cs.map (Li.penceN s)).sum := by
  unfold Li.costS Li.costTo intsN
  rw [List.take_length, List.map_map]
  rfl
theorem nats_of {c : List Int} (h : ∀ x ∈ c, 0 ≤ x) : intsN (c.map Int.toNat) = c := by
  unfold intsN
  rw [List.map_map]
  conv => rhs; rw [← List.map_id c]
  exact List.map_congr_left fun x hx => by
    have := h x hx
    simp only [Function.comp, id]
    omega
theorem intsN_nodup {l : List Nat} (h : l.Nodup) : (intsN l).Nodup := by
  unfold intsN
  rw [List.nodup_iff_pairwise_ne, List.pairwise_map]
  exact (List.nodup_iff_pairwise_ne.1 h).imp fun hab e => hab (by omega)
theorem toNat_nodup {c : List Int} (h0 : ∀ x ∈ c, 0 ≤ x) (h : c.Nodup) : (c.map Int.toNat).Nodup := by
  rw [List.nodup_iff_pairwise_ne, List.pairwise_map]
  exact List.Pairwise.imp_of_mem (R := (· ≠ ·)) (fun {a b} ha hb hab e => hab (by have := h0 a ha; have := h0 b hb; omega)) (List.nodup_iff_pairwise_ne.1 h)
theorem hire_end (s : Li.Sea) (hv : Li.validS s = true) (h24 : ∀ b, b < s.bs.length → Li.penceN s b ≤ 24) (nb : Int) (q : List Bid) (hq : q = hireQ (okS s) (payS s) s.bs.length s.ps.length) (hf : validF (hF s.ps.length nb q) = true) :
    (wL (hF s.ps.length nb q)).length ≤ s.ps.length ∧ 0 ≤ mW (hF s.ps.length nb q) ∧ mW (hF s.ps.length nb q) ≤ 99 * (s.ps.length : Int) ∧
    ((Li.cheapS s = none ∧ (wL (hF s.ps.length nb q)).length ≠ s.ps.length) ∨ ∃ c n, Li.cheapS s = some (c, n) ∧ (wL (hF s.ps.length nb q)).length = s.ps.length ∧ n = 99 * (s.ps.length : Int) - mW (hF s.ps.length nb q)) := by
  have hS := Li.SOK.ofValid hv
  have hF' := FOK.of hf
  have hpl := hS.pl
  have hw := wL_win hF'
  have hm : mW (hF s.ps.length nb q) = bringsL q (wL (hF s.ps.length nb q)) := mostV_win hF'.ql hF'.pos'
  have hrd := rd_hire nb q s.ps.length hpl
  have hr : ∀ k : Nat, k < s.ps.length → (k : Int) ∈ rdF (hF s.ps.length nb q) := fun k hk => by
    rw [hrd]
    exact List.mem_map.2 ⟨k, List.mem_range.2 hk, rfl⟩
  generalize wL (hF s.ps.length nb q) = l at hw hm ⊢
  generalize mW (hF s.ps.length nb q) = m at hm ⊢
  generalize rdF (hF s.ps.length nb q) = rd at hw hr
  have hpay : ∀ b, b < s.bs.length → 75 ≤ payS s b ∧ payS s b ≤ 99 := fun b hb => by
    have h1 := h24 b hb
    have hx := List.getElem?_eq_getElem hb
    have h2 := (Li.boat_eq hx).2
    have h3 := hS.b _ (List.mem_of_getElem? hx)
    unfold payS
    omega
  have hw' : WinIs (hireQ (okS s) (payS s) s.bs.length s.ps.length) rd l := by rw [← hq]; exact hw
  have hbd := sale_bd hpay (l := l) fun i hi => hw'.sale.lt hi
  obtain ⟨hle, hcr⟩ := sale_crew hw'.sale
  rw [hq] at hm
  rw [← hm] at hbd
  refine ⟨hle, by omega, by omega, ?_⟩
  cases hc : Li.cheapS s with
  | none =>
    refine .inl ⟨rfl, fun e => ?_⟩
    obtain ⟨cs, h1, h2, h3, h4, _⟩ := hcr e
    have hcw : Li.CrewOf s.bs.length s.ps.length (intsN cs) := ⟨by rw [intsN_len, h1], fun x hx => by
      obtain ⟨b, hb, rfl⟩ := List.mem_map.1 hx
      have := h2 b hb
      omega, intsN_nodup h3⟩
    have hsf : Li.safeC s (intsN cs) = true := Li.safe_of fun k j hj => by
      unfold intsN at hj
      rw [List.getElem?_map] at hj
      cases hb : cs[k]? with
      | none => rw [hb] at hj; simp at hj
      | some b =>
        rw [hb] at hj
        simp at hj
        subst hj
        exact of_decide_eq_true (h4 k b hb)
    have := (Li.cheapL_none _).1 hc (intsN cs) (Li.mem_crews.2 hcw)
    rw [hsf] at this
    cases this
  | some cn =>
    obtain ⟨c, n⟩ := cn
    obtain ⟨hcm, hcs, hcn, hmin, _⟩ := Li.cheapL_some _ c n hc
    have hcw := Li.mem_crews.1 hcm
    have h0 : ∀ x ∈ c, 0 ≤ x := fun x hx => (hcw.2.1 x hx).1
    obtain ⟨l', g1, g2, g3⟩ := crew_sale (ok := okS s) (pay := payS s) (B := s.bs.length) hr (cs := c.map Int.toNat) (by rw [List.length_map, hcw.1]) (fun b hb => by
      obtain ⟨x, hx, rfl⟩ := List.mem_map.1 hb
      have := hcw.2.1 x hx
      omega) (toNat_nodup h0 hcw.2.2) (fun k b hb => by
      rw [List.getElem?_map] at hb
      cases hx : c[k]? with
      | none => rw [hx] at hb; simp at hb
      | some x =>
        rw [hx] at hb
        simp at hb
        subst hb
        exact decide_eq_true (Li.safe_at hcs hx))
    have hge := hw'.ge l' g1
    have hc2 : (c.map Int.toNat).length = s.ps.length := by rw [List.length_map, hcw.1]
    have hcost : Li.costS s c = ((c.map Int.toNat).map (Li.penceN s)).sum := by
      have := cost_nat s (c.map Int.toNat)
      rwa [nats_of h0] at this
    rw [sum_pay, hc2, ← hcost, ← hcn] at g3
    have hb' := sale_bd hpay (l := l') fun i hi => g1.lt hi
    rw [g2] at hb'
    rw [g3, ← hm] at hge
    have hlen : l.length = s.ps.length := by omega
    refine .inr ⟨c, n, rfl, hlen, ?_⟩
    obtain ⟨cs, h1, h2, h3, h4, h5⟩ := hcr hlen
    have hcw2 : Li.CrewOf s.bs.length s.ps.length (intsN cs) := ⟨by rw [intsN_len, h1], fun x hx => by
      obtain ⟨b, hb, rfl⟩ := List.mem_map.1 hx
      have := h2 b hb
      omega, intsN_nodup h3⟩
    have hsf : Li.safeC s (intsN cs) = true := Li.safe_of fun k j hj => by
      unfold intsN at hj
      rw [List.getElem?_map] at hj
      cases hb : cs[k]? with
      | none => rw [hb] at hj; simp at hj
      | some b =>
        rw [hb] at hj
        simp at hj
        subst hj
        exact of_decide_eq_true (h4 k b hb)
    have hle2 := hmin (intsN cs) (Li.mem_crews.2 hcw2) hsf
    rw [cost_nat] at hle2
    rw [sum_pay, h1, ← hm] at h5
    omega
end Go.Proofs.Ytmbcpmnigggbaaa
