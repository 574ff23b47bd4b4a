import Derived.Test.YtohoonbbjkefaaaG1
namespace Go.Proofs.Ytohoonbbjkefaaa
open Go.RowKit

def JS (pb n₀ : Nat) (pre : List (Nat × Int)) (W : World) : Prop := ∃ v, Boxed W pb 40 v ∧ W.ownsRow n₀ 3 1 v (pre.map (·.2)).length ((pre.map (·.2)).map (Value.int .i64)) ∧ True
/-- split, with Split's own closure. -/
theorem split_lists (c pb b0 : Nat) (A : Option Addr) (ns : List Node) (m : Nat) (p : Int) (hg : GoodC ns) (hp0 : 0 ≤ p) (hp4 : p ≤ 400) (w : World) (hb0 : b0 ≤ pb) (hN : Nodes w b0 A ns) (hpb : Boxed w pb 40 (.slice none 0 0)) :
    Calls Try.prog 72 #[.agg #[.slice A ns.length c], .int .i64 m, .int .i64 p, (.func (.func 73) #[] #[.pointer (some ⟨pb, 0, none⟩)])] w fun e w' => e = .returned (.int .i64 (splitL p (kidL ns m)).2) ∧
      (∃ val, Boxed w' pb 40 val ∧ Ints w' (w.heap.size + 5) val (splitL p (kidL ns m)).1) ∧ KpB (fun j => j = pb) w.heap.size w w' := by
  have hlt := hpb.lt
  have h := split_any b0 c 73 pb A ns m p hp0 hp4 hg.ok hg.l8 w (by omega) hN (enters_of Try.func73 (by kernel_rfl) rfl) (fun j => j = pb) (fun j hj => by subst hj; exact ⟨hb0, hlt⟩) (JS pb)
    (fun W hW => ⟨_, boxed_ext hW hpb, World.ownsRow_nil _ _ _ _, trivial⟩)
    (fun n₀ => (holdsRow_own n₀ pb 40 3 1 (fun pre : List (Nat × Int) => (pre.map (·.2)).length) (fun pre => (pre.map (·.2)).map (Value.int .i64)) (fun _ _ => True)).from _)
    (fun n₀ pre k v W h1 h2 h3 h4 h5 h6 h7 => by
      obtain ⟨val, hb, ho, _⟩ := h6
      refine (give73 pb n₀ k v (pre.map (fun x : Nat × Int => x.2)) val W (by simp; omega) h2 hb ho).mono ?_
      rintro e W' ⟨hu, ⟨val', hb', ho'⟩, hk, hkp⟩
      refine ⟨hu, ⟨val', hb', ?_, trivial⟩, hk.from _, hkp⟩
      have : (pre ++ [(k, v)]).map (·.2) = pre.map (·.2) ++ [v] := by simp
      rw [this]
      exact ho')
  refine h.mono ?_
  rintro e w' ⟨he, ⟨n₀, hn₀, val, hb, ho, _⟩, hk⟩
  have hkd := kids_keyd hg m
  have e1 : (splitF p (kidsTo ns.length ns m ns.length)).2 = (splitL p (kidL ns m)).2 := by
    rw [(splitF_eq p _ hkd).1, kids_nodes hg]; rfl
  have e2 : (gives (splitF p (kidsTo ns.length ns m ns.length)).1 (kidsTo ns.length ns m ns.length)).map (·.2) = (splitL p (kidL ns m)).1 := by
    rw [gives_eq p _ hkd, kids_nodes hg, List.map_snd_zip]
    · rfl
    · rw [splitL_len, kids_keys hg, List.length_map]; exact Nat.le_refl _
  rw [e1] at he
  rw [e2] at ho
  refine ⟨he, ⟨val, hb, ?_⟩, hk⟩
  refine ⟨ho.1, ?_⟩
  rcases ho.2 with h | ⟨g, cap, cur, h1, h2, h3⟩
  · exact .inl h
  · exact .inr ⟨g, cap, cur, h1, by omega, h3⟩
end Go.Proofs.Ytohoonbbjkefaaa
