/- Past: names told right or not, by the program and by the reference. -/
import Derived.Test.YtoapobgnfgfobaaProg
import Derived.Test.YtoapobgnfgfobaaMem
import Derived.Test.YtoapobgnfgfobaaPast
namespace Go.Proofs.Ytoapobgnfgfobaa
open Go Go.RowKit

/-- A name as a value. -/
abbrev NmV (x : Nm) : Value := .agg #[.int .i64 x.1, .int .i64 x.2]

theorem decOk (x : Nm) (B : Bool) (h : B = decide (nmOk x)) : Ending.returned (.bool B) = Ending.returned (.bool (decide (nmOk x))) := by rw [h]

theorem one_any (w : World) (x : Nm) : Calls Try.prog 64 #[NmV x] w fun e w' => e = .returned (.bool (decide (nmOk x))) ∧ Nw w w' := by
  obtain ⟨a, b⟩ := x
  by_cases h1 : 1 ≤ a
  · by_cases h2 : a ≤ 8
    · by_cases h3 : 1 ≤ b
      · by_cases h4 : b ≤ 1073741824
        · go_enter Try.func64, Try.ntmps64
          go_wp2_with fail
          go_ret
          exact ⟨decOk _ _ (decide_eq_true ⟨h1, h2, h3, h4⟩).symm, (Fr.refl _ w).alloc _⟩
        · go_enter Try.func64, Try.ntmps64
          go_wp2_with fail
          go_ret
          exact ⟨decOk _ _ (decide_eq_false (by unfold nmOk; simp only; omega)).symm, (Fr.refl _ w).alloc _⟩
      · go_enter Try.func64, Try.ntmps64
        go_wp2_with fail
        go_ret
        exact ⟨decOk _ _ (decide_eq_false (by unfold nmOk; simp only; omega)).symm, (Fr.refl _ w).alloc _⟩
    · go_enter Try.func64, Try.ntmps64
      go_wp2_with fail
      go_ret
      exact ⟨decOk _ _ (decide_eq_false (by unfold nmOk; simp only; omega)).symm, (Fr.refl _ w).alloc _⟩
  · go_enter Try.func64, Try.ntmps64
    go_wp2_with fail
    go_ret
    exact ⟨decOk _ _ (decide_eq_false (by unfold nmOk; simp only; omega)).symm, (Fr.refl _ w).alloc _⟩
theorem rright_any (w : World) (x : Nm) : Calls Try.prog 65 #[NmV x] w fun e w' => e = .returned (.bool (decide (nmOk x))) ∧ Nw w w' := by
  obtain ⟨a, b⟩ := x
  by_cases h1 : 1 ≤ a
  · by_cases h2 : a ≤ 8
    · by_cases h3 : 1 ≤ b
      · by_cases h4 : b ≤ 1073741824
        · go_enter Try.func65, Try.ntmps65
          go_wp2_with fail
          go_ret
          exact ⟨decOk _ _ (decide_eq_true ⟨h1, h2, h3, h4⟩).symm, (Fr.refl _ w).alloc _⟩
        · go_enter Try.func65, Try.ntmps65
          go_wp2_with fail
          go_ret
          exact ⟨decOk _ _ (decide_eq_false (by unfold nmOk; simp only; omega)).symm, (Fr.refl _ w).alloc _⟩
      · go_enter Try.func65, Try.ntmps65
        go_wp2_with fail
        go_ret
        exact ⟨decOk _ _ (decide_eq_false (by unfold nmOk; simp only; omega)).symm, (Fr.refl _ w).alloc _⟩
    · go_enter Try.func65, Try.ntmps65
      go_wp2_with fail
      go_ret
      exact ⟨decOk _ _ (decide_eq_false (by unfold nmOk; simp only; omega)).symm, (Fr.refl _ w).alloc _⟩
  · go_enter Try.func65, Try.ntmps65
    go_wp2_with fail
    go_ret
    exact ⟨decOk _ _ (decide_eq_false (by unfold nmOk; simp only; omega)).symm, (Fr.refl _ w).alloc _⟩

/-- What 'Right' asks of each name. -/
theorem rightc_any (w : World) (x : Nm) : Calls Try.prog 63 #[NmV x] w fun e w' => e = .returned (.bool (!decide (nmOk x))) ∧ Nw w w' := by
  have hcon := fun w => one_any w x
  generalize decide (nmOk x) = b at hcon ⊢
  go_enter Try.func63, Try.ntmps63
  go_wp2_with (go_at_call 64; refine (hcon _).mono ?_; rintro e w1 ⟨rfl, q1⟩)
  go_ret
  exact ⟨rfl, ((Fr.refl _ w).alloc _).tr q1⟩
end Go.Proofs.Ytoapobgnfgfobaa
