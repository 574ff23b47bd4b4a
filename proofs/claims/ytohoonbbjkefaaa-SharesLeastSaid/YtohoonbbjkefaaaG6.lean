import Derived.Test.YtohoonbbjkefaaaG4
import Derived.Test.YtohoonbbjkefaaaF8
namespace Go.Proofs.Ytohoonbbjkefaaa
open Go.RowKit

def getsL (ns : List Node) (p : Int) : List Int := if penceE ns p = 0 then gotsS ns p else []
def keepsL (ns : List Node) (p : Int) : List Int := if penceE ns p = 0 then keptsS ns p else []
def splitB (ns : List Node) (node p : Int) : List Int := if splitE ns node p = 0 then (splitL p (kidL ns node.toNat)).1 else []
def splitK (ns : List Node) (node p : Int) : Int := if splitE ns node p = 0 then (splitL p (kidL ns node.toNat)).2 else 0
theorem gets_all (A : Option Addr) (c : Nat) (ns : List Node) (p : Int) (hn : ns.length ≤ 1000) (w : World) (hN : Nodes w w.heap.size A ns) (L : List Int) (hL : getsL ns p = L) (E : Int) (hE : penceE ns p = E) :
    Calls Try.prog 48 #[.agg #[.slice A ns.length c], .int .i64 p] w fun e w' => ∃ B d, e = .returned (.tuple #[.slice B L.length d, .int .i64 E]) ∧ IntsAt w' w'.heap.size B L ∧ Below w.heap.size w w' := by
  subst hL; subst hE
  by_cases hz : penceE ns p = 0
  · refine (getsAll_ok A c ns p hn w hN hz).mono ?_
    rintro e w' ⟨b, rfl, _, hr, hb⟩
    have e1 : getsL ns p = gotsS ns p := if_pos hz
    rw [e1, hz, gotsS_len]
    exact ⟨_, _, rfl, row_ints hr, hb⟩
  · refine (getsAll_no A c ns p hn w hN hz).mono ?_
    rintro e w' ⟨rfl, hb⟩
    have e1 : getsL ns p = [] := if_neg hz
    rw [e1]
    exact ⟨none, 0, rfl, intsAt_nil, hb⟩
theorem keeps_all (A : Option Addr) (c : Nat) (ns : List Node) (p : Int) (hn : ns.length ≤ 1000) (w : World) (hN : Nodes w w.heap.size A ns) (L : List Int) (hL : keepsL ns p = L) (E : Int) (hE : penceE ns p = E) :
    Calls Try.prog 50 #[.agg #[.slice A ns.length c], .int .i64 p] w fun e w' => ∃ B d, e = .returned (.tuple #[.slice B L.length d, .int .i64 E]) ∧ IntsAt w' w'.heap.size B L ∧ Below w.heap.size w w' := by
  subst hL; subst hE
  by_cases hz : penceE ns p = 0
  · refine (keepsAll_ok A c ns p hn w hN hz).mono ?_
    rintro e w' ⟨b, rfl, _, hr, hb⟩
    have e1 : keepsL ns p = keptsS ns p := if_pos hz
    rw [e1, hz, keptsS_len]
    exact ⟨_, _, rfl, row_ints hr, hb⟩
  · refine (keepsAll_no A c ns p hn w hN hz).mono ?_
    rintro e w' ⟨rfl, hb⟩
    have e1 : keepsL ns p = [] := if_neg hz
    rw [e1]
    exact ⟨none, 0, rfl, intsAt_nil, hb⟩
theorem refGets_all (A : Option Addr) (c : Nat) (ns : List Node) (p : Int) (hn : ns.length ≤ 1000) (w : World) (hN : Nodes w w.heap.size A ns) (L : List Int) (hL : getsL ns p = L) (E : Int) (hE : penceE ns p = E) :
    Calls Try.prog 49 #[.agg #[.slice A ns.length c], .int .i64 p] w fun e w' => ∃ B d, e = .returned (.tuple #[.slice B L.length d, .int .i64 E]) ∧ IntsAt w' w'.heap.size B L ∧ Below w.heap.size w w' := by
  subst hL; subst hE
  by_cases hz : penceE ns p = 0
  · refine (refGets_ok A c ns p hn w hN hz).mono ?_
    rintro e w' ⟨B, d, rfl, hr, hb⟩
    have e1 : getsL ns p = gotsS ns p := if_pos hz
    rw [e1, hz, gotsS_len]
    exact ⟨_, _, rfl, hr, hb⟩
  · refine (refGets_no A c ns p hn w hN hz).mono ?_
    rintro e w' ⟨rfl, hb⟩
    have e1 : getsL ns p = [] := if_neg hz
    rw [e1]
    exact ⟨none, 0, rfl, intsAt_nil, hb⟩
theorem refKeeps_all (A : Option Addr) (c : Nat) (ns : List Node) (p : Int) (hn : ns.length ≤ 1000) (w : World) (hN : Nodes w w.heap.size A ns) (L : List Int) (hL : keepsL ns p = L) (E : Int) (hE : penceE ns p = E) :
    Calls Try.prog 51 #[.agg #[.slice A ns.length c], .int .i64 p] w fun e w' => ∃ B d, e = .returned (.tuple #[.slice B L.length d, .int .i64 E]) ∧ IntsAt w' w'.heap.size B L ∧ Below w.heap.size w w' := by
  subst hL; subst hE
  by_cases hz : penceE ns p = 0
  · refine (refKeeps_ok A c ns p hn w hN hz).mono ?_
    rintro e w' ⟨B, d, rfl, hr, hb⟩
    have e1 : keepsL ns p = keptsS ns p := if_pos hz
    rw [e1, hz, keptsS_len]
    exact ⟨_, _, rfl, hr, hb⟩
  · refine (refKeeps_no A c ns p hn w hN hz).mono ?_
    rintro e w' ⟨rfl, hb⟩
    have e1 : keepsL ns p = [] := if_neg hz
    rw [e1]
    exact ⟨none, 0, rfl, intsAt_nil, hb⟩
end Go.Proofs.Ytohoonbbjkefaaa
namespace Go.Proofs.Ytohoonbbjkefaaa
open Go.RowKit

theorem split_all (A : Option Addr) (c : Nat) (ns : List Node) (node p : Int) (hn : ns.length ≤ 1000) (w : World) (hN : Nodes w w.heap.size A ns) (L : List Int) (hL : splitB ns node p = L) (K : Int) (hK : splitK ns node p = K) (E : Int) (hE : splitE ns node p = E) :
    Calls Try.prog 33 #[.agg #[.slice A ns.length c], .int .i64 node, .int .i64 p] w fun e w' => ∃ B d, e = .returned (.tuple #[.slice B L.length d, .int .i64 K, .int .i64 E]) ∧ IntsAt w' w'.heap.size B L ∧ Below w.heap.size w w' := by
  subst hL; subst hK; subst hE
  by_cases hz : splitE ns node p = 0
  · obtain ⟨_, hm, _⟩ := splitE_zero hz
    obtain ⟨m, rfl⟩ : ∃ m : Nat, node = m := ⟨node.toNat, by omega⟩
    refine (split_ok A c ns m p hn w hN hz).mono ?_
    rintro e w' ⟨B, d, rfl, hr, hb⟩
    have e1 : splitB ns m p = (splitL p (kidL ns m)).1 := if_pos hz
    have e2 : splitK ns m p = (splitL p (kidL ns m)).2 := if_pos hz
    rw [e1, e2, hz, splitL_len, kidL_len]
    exact ⟨_, _, rfl, hr, hb⟩
  · refine (split_no A c ns node p hn w hN hz).mono ?_
    rintro e w' ⟨rfl, hb⟩
    have e1 : splitB ns node p = [] := if_neg hz
    have e2 : splitK ns node p = 0 := if_neg hz
    rw [e1, e2]
    exact ⟨none, 0, rfl, intsAt_nil, hb⟩
theorem refSplit_all (A : Option Addr) (c : Nat) (ns : List Node) (node p : Int) (hn : ns.length ≤ 1000) (w : World) (hN : Nodes w w.heap.size A ns) (L : List Int) (hL : splitB ns node p = L) (K : Int) (hK : splitK ns node p = K) (E : Int) (hE : splitE ns node p = E) :
    Calls Try.prog 52 #[.agg #[.slice A ns.length c], .int .i64 node, .int .i64 p] w fun e w' => ∃ B d, e = .returned (.tuple #[.slice B L.length d, .int .i64 K, .int .i64 E]) ∧ IntsAt w' w'.heap.size B L ∧ Below w.heap.size w w' := by
  subst hL; subst hK; subst hE
  by_cases hz : splitE ns node p = 0
  · obtain ⟨_, hm, _⟩ := splitE_zero hz
    obtain ⟨m, rfl⟩ : ∃ m : Nat, node = m := ⟨node.toNat, by omega⟩
    refine (refSplit_ok A c ns m p hn w hN hz).mono ?_
    rintro e w' ⟨B, d, rfl, hr, hb⟩
    have e1 : splitB ns m p = (splitL p (kidL ns m)).1 := if_pos hz
    have e2 : splitK ns m p = (splitL p (kidL ns m)).2 := if_pos hz
    rw [e1, e2, hz]
    exact ⟨_, _, by rw [splitL_len, kidL_len], hr, hb⟩
  · refine (refSplit_no A c ns node p hn w hN hz).mono ?_
    rintro e w' ⟨rfl, hb⟩
    have e1 : splitB ns node p = [] := if_neg hz
    have e2 : splitK ns node p = 0 := if_neg hz
    rw [e1, e2]
    exact ⟨none, 0, rfl, intsAt_nil, hb⟩
end Go.Proofs.Ytohoonbbjkefaaa
