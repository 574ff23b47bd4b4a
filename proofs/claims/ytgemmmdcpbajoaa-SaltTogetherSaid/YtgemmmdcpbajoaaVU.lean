import Derived.Test.YtgemmmdcpbajoaaVT
namespace Go.Proofs.Ytgemmmdcpbajoaa
open Go.RowKit

theorem together_law (L : HL) (h : House) (A : Option Addr) (c : Nat) (l : List Int) (hA : A = none → c = 0 ∧ l = []) (hl : l.length ≤ 9223372036854775807) (u : Int) (w : World) (hH : HouseAt w w.heap.size L h) (hI : IntsAt w w.heap.size A l) :
    Calls Try.prog 4 #[L.enc h, .slice A l.length c, .int .u8 u] w fun e w' => e = .returned (.bool true) ∧ Below w.heap.size w w' := by
  by_cases hr : readyB h = true
  · have hv := (ready_far hr).2
    have hV := HOK.ofValid hv
    have hn := valid_1000 hv
    have HR := Lib.hid (fun W (hW : HouseAt W W.heap.size L h) => by have := ready_any L h W hW; rwa [hr] at this)
    by_cases hl40 : l.length ≤ 40
    · have HA : ∀ W, IntsAt W W.heap.size A l → Calls Try.prog 24 #[L.enc h, .slice A l.length c] W fun e w' => e = .returned (.bool (riseB l h.ps.length)) ∧ Below W.heap.size W w' := fun W hW => areParts_any L h hn.2.1 l (by omega) A c W hW
      by_cases hp : riseB l h.ps.length = true
      · rw [hp] at HA
        refine together_yes L h hV A c l hA u hp HR (Lib.hid HA) (Lib.hid fun l' hl' A c W hW hWI => ?_) w hH hI
        have h6 := riseB_len hl'
        have := hV.pl
        have := salt_any L h hn l' (by omega) A c W hW hWI
        rw [show saltRet h l' = (saltL h l', 0) by unfold saltRet; simp [hv, hl']; rfl] at this
        exact this
      · have hp : riseB l h.ps.length = false := by simpa using hp
        rw [hp] at HA
        exact together_no L h A c l u hl true false (.inr (.inr ⟨rfl, hl40, rfl⟩)) HR (Lib.hid fun _ _ => HA) w hH hI
    · exact together_no L h A c l u hl true true (.inr (.inl ⟨rfl, by omega⟩)) HR (Lib.hid fun h _ => absurd h hl40) w hH hI
  · exact together_no L h A c l u hl false true (.inl rfl) (Lib.hid (fun W hW => by have := ready_any L h W hW; rwa [show readyB h = false by simpa using hr] at this)) (Lib.hid fun _ h => by cases h) w hH hI
end Go.Proofs.Ytgemmmdcpbajoaa
