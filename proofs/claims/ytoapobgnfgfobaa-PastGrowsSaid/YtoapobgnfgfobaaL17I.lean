/- PastGrows: the walk. -/
import Derived.Test.YtoapobgnfgfobaaL17H
namespace Go.Proofs.Ytoapobgnfgfobaa
open Go Go.RowKit

set_option maxRecDepth 100000 in
theorem grows_walk (w : World) (A0 A1 : Option Addr) (c0 c1 : Nat) (a b : List Nm) (x : Int) (ha : Sl w (· < w.heap.size) A0 (nmCells a)) (hb : Sl w (· < w.heap.size) A1 (nmCells b)) (hc0 : a.length ≤ c0) (hm0 : c0 * 16 ≤ 140737488351232) (hc1 : b.length ≤ c1) (hm1 : c1 * 16 ≤ 140737488351232)
    (hx : -9223372036854775808 ≤ x ∧ x ≤ 9223372036854775807) :
    Calls Try.prog 10 #[.slice A0 a.length c0, .slice A1 b.length c1, .int .i64 x] w fun e w' => e = .returned (.bool true) ∧ Nw w w' := by
  by_cases hle : a.length + b.length ≤ 1000
  · cases hok : allOk (a ++ b)
    · exact grows_bad w A0 A1 c0 c1 a b x ha hb hle hok
    · rw [allOk_append, Bool.and_eq_true] at hok
      exact grows_good w A0 A1 c0 c1 a b x ha hb hle hc0 hx hok.1 hok.2
  · have h1 : 1000 < (a.length : Int) + (b.length : Int) := by omega
    have h2 : (a.length : Int) + (b.length : Int) ≤ 17592186044416 := by omega
    go_enter Try.func10, Try.ntmps10
    go_wp2_with fail
    refine (awake17 _).mono ?_
    rintro e w1 ⟨rfl, q1⟩
    go_wp2_with fail
    go_ret
    exact ⟨rfl, q1⟩
end Go.Proofs.Ytoapobgnfgfobaa
