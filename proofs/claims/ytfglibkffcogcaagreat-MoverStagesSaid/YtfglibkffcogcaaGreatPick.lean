/- The verifier's Pick. -/
import Derived.Test.YtfglibkffcogcaaGreatProg
import Derived.WalkKit
namespace Go.Proofs.YtfglibkffcogcaaGreat
open Go Go.RowKit

theorem pick_any (w : World) (x n : Int) (hn : 0 < n) (hn2 : n ≤ 1000000000000) (hx : -9223372036854775808 ≤ x ∧ x ≤ 9223372036854775807) :
    Calls Tryz.prog 9 #[.int .i64 x, .int .i64 n] w fun e w' => (∃ k : Nat, (k : Int) < n ∧ e = .returned (.int .i64 (k : Int))) ∧ w = w' := by
  obtain ⟨h1, h2⟩ := hx
  go_enter Tryz.func9, Tryz.ntmps9
  go_wp2_with fail
  · go_ret
    have h3 := Int.lt_tmod_of_pos x hn
    have e : wrap64 (x.tmod n + n) = x.tmod n + n := IntWalk.wrap64_in _ (by omega)
    rw [e]
    exact ⟨⟨(x.tmod n + n).toNat, by omega, by go_num⟩, rfl⟩
  · go_ret
    have h3 := Int.tmod_lt_of_pos x hn
    exact ⟨⟨(x.tmod n).toNat, by omega, by go_num⟩, rfl⟩
end Go.Proofs.YtfglibkffcogcaaGreat
