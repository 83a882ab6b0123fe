/- Past: what it tells of a client, and how a number is raised. -/
import Derived.Test.YtoapobgnfgfobaaPsC
namespace Go.Proofs.Ytoapobgnfgfobaa
open Go Go.RowKit

theorem ret_int (a b : Int) (h : a = b) : Ending.returned (.int .i64 a) = Ending.returned (.int .i64 b) := by rw [h]
theorem pastOf_any (w : World) (g : Nat) (p : Pst) (h : IsPast w g p) (c : Int) : Calls Try.prog 60 #[PtrV g, .int .i64 c] w fun e w' => e = .returned (.int .i64 (pOf p c)) ∧ Nw w w' := by
  have hk := known1_any w g p h
  by_cases h1 : c < 1
  · have e : (0 : Int) = pOf p c := by unfold pOf; rw [if_pos (.inl h1)]
    have HE := Lib.hid e
    clear e
    go_enter Try.func60, Try.ntmps60
    go_wp2_with (go_at_call 66; refine hk.mono ?_; rintro e w1 ⟨rfl, rfl⟩)
    go_ret
    exact ⟨ret_int _ _ HE.out, (Fr.refl _ w).alloc _⟩
  · by_cases h2 : 8 < c
    · have e : (0 : Int) = pOf p c := by unfold pOf; rw [if_pos (.inr h2)]
      have HE := Lib.hid e
      clear e
      go_enter Try.func60, Try.ntmps60
      go_wp2_with (go_at_call 66; refine hk.mono ?_; rintro e w1 ⟨rfl, rfl⟩)
      go_ret
      exact ⟨ret_int _ _ HE.out, (Fr.refl _ w).alloc _⟩
    · obtain ⟨j, rfl⟩ : ∃ j : Nat, c = (j : Int) + 1 := ⟨(c - 1).toNat, by omega⟩
      have hj : j < 8 := by omega
      have e : p.getD j 0 = pOf p ((j : Int) + 1) := by
        unfold pOf
        rw [if_neg (by omega)]
        congr 1
        omega
      have HE := Lib.hid e
      clear e
      have hc := (h.fr (S := fun _ => False) ((Fr.refl _ w).alloc (.cells #[PtrV g] 27)) (fun h => h)).num hj
      generalize p.getD j 0 = v at hc HE
      go_enter Try.func60, Try.ntmps60
      go_wp2_with (go_at_call 66; refine hk.mono ?_; rintro e w1 ⟨rfl, rfl⟩)
      go_ret
      exact ⟨ret_int _ _ HE.out, (Fr.refl _ w).alloc _⟩
end Go.Proofs.Ytoapobgnfgfobaa
