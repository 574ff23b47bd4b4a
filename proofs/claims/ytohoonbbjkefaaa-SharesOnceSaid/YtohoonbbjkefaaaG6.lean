import Derived.Test.YtohoonbbjkefaaaG5
namespace Go.Proofs.Ytohoonbbjkefaaa
open Go.RowKit

theorem split_all (A : Option Addr) (c : Nat) (ns : List Node) (node p : Int) (hn : ns.length ≤ 1000) (w : World) (hN : Nodes w w.heap.size A ns) (L : List Int) (hL : splitB ns node p = L) (K : Int) (hK : splitK ns node p = K) (E : Int) (hE : splitE ns node p = E) :
    Calls Try.prog 33 #[.agg #[.slice A ns.length c], .int .i64 node, .int .i64 p] w fun e w' => ∃ B d, e = .returned (.tuple #[.slice B L.length d, .int .i64 K, .int .i64 E]) ∧ IntsAt w' w'.heap.size B L ∧ Below w.heap.size w w' := by
  subst hL; subst hK; subst hE
  by_cases hz : splitE ns node p = 0
  · obtain ⟨_, hm, _⟩ := splitE_zero hz
    obtain ⟨m, rfl⟩ : ∃ m : Nat, node = m := ⟨node.toNat, by omega⟩
    refine (split_ok A c ns m p hn w hN hz).mono ?_
    rintro e w' ⟨B, d, rfl, hr, hb⟩
    have e1 : splitB ns m p = (splitL p (kidL ns m)).1 := if_pos hz
    have e2 : splitK ns m p = (splitL p (kidL ns m)).2 := if_pos hz
    rw [e1, e2, hz, splitL_len, kidL_len]
    exact ⟨_, _, rfl, hr, hb⟩
  · refine (split_no A c ns node p hn w hN hz).mono ?_
    rintro e w' ⟨rfl, hb⟩
    have e1 : splitB ns node p = [] := if_neg hz
    have e2 : splitK ns node p = 0 := if_neg hz
    rw [e1, e2]
    exact ⟨none, 0, rfl, intsAt_nil, hb⟩
theorem refSplit_all (A : Option Addr) (c : Nat) (ns : List Node) (node p : Int) (hn : ns.length ≤ 1000) (w : World) (hN : Nodes w w.heap.size A ns) (L : List Int) (hL : splitB ns node p = L) (K : Int) (hK : splitK ns node p = K) (E : Int) (hE : splitE ns node p = E) :
    Calls Try.prog 52 #[.agg #[.slice A ns.length c], .int .i64 node, .int .i64 p] w fun e w' => ∃ B d, e = .returned (.tuple #[.slice B L.length d, .int .i64 K, .int .i64 E]) ∧ IntsAt w' w'.heap.size B L ∧ Below w.heap.size w w' := by
  subst hL; subst hK; subst hE
  by_cases hz : splitE ns node p = 0
  · obtain ⟨_, hm, _⟩ := splitE_zero hz
    obtain ⟨m, rfl⟩ : ∃ m : Nat, node = m := ⟨node.toNat, by omega⟩
    refine (refSplit_ok A c ns m p hn w hN hz).mono ?_
    rintro e w' ⟨B, d, rfl, hr, hb⟩
    have e1 : splitB ns m p = (splitL p (kidL ns m)).1 := if_pos hz
    have e2 : splitK ns m p = (splitL p (kidL ns m)).2 := if_pos hz
    rw [e1, e2, hz]
    exact ⟨_, _, by rw [splitL_len, kidL_len], hr, hb⟩
  · refine (refSplit_no A c ns node p hn w hN hz).mono ?_
    rintro e w' ⟨rfl, hb⟩
    have e1 : splitB ns node p = [] := if_neg hz
    have e2 : splitK ns node p = 0 := if_neg hz
    rw [e1, e2]
    exact ⟨none, 0, rfl, intsAt_nil, hb⟩
end Go.Proofs.Ytohoonbbjkefaaa
