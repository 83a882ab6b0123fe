/- Past: is a transaction past? -/
import Derived.Test.YtoapobgnfgfobaaPsF
namespace Go.Proofs.Ytoapobgnfgfobaa
open Go Go.RowKit

set_option maxHeartbeats 1000000 in
theorem pastIs_any (w : World) (g : Nat) (p : Pst) (h : IsPast w g p) (x : Nm) : Calls Try.prog 28 #[PtrV g, NmV x] w fun e w' => e = .returned (.bool (pIs p x)) ∧ Nw w w' := by
  obtain ⟨a, b⟩ := x
  have hone := fun w => one_any w (a, b)
  have hof := fun (W : World) (hi : IsPast W g p) => pastOf_any W g p hi a
  have HOF := Lib.hid hof
  clear hof
  have q0 : Nw w (w.alloc (.cells #[I64 a, I64 b] 53)) := (Fr.refl _ w).alloc _
  have d0 := fun (n : Later (w.alloc (.cells #[I64 a, I64 b] 53))) => n.cell (p := ⟨w.heap.size, 0, none⟩) (v := I64 a) (by simp)
  have d1 := fun (n : Later (w.alloc (.cells #[I64 a, I64 b] 53))) => n.cell (p := ⟨w.heap.size, 1, none⟩) (v := I64 b) (by simp)
  by_cases hx : nmOk (a, b)
  · have hp : pIs p (a, b) = decide (b ≤ pOf p a) := by unfold pIs; rw [decide_eq_true hx]; rfl
    rw [decide_eq_true hx] at hone
    have HP := Lib.hid hp
    have HX := Lib.hid hx
    clear hx hp
    have HO := Lib.hid hone
    clear hone
    go_enter Try.func28, Try.ntmps28
    go_wp2_with fail
    refine wp_region_later (by kernel_rfl) (by kernel_rfl) ?_
    repeat (go_big_quiet_step ((first | (go_at_call 64; exact Later.call (HO.out _)) | (go_at_call 60; exact Later.call (HOF.out _ (h.fr (q0.tr (Later.nw _)) (fun h => h)))))))
    refine wpQuiet_later fun w1 q1 => ?_
    clear d0 d1
    go_wp2_with fail
    go_ret
    exact ⟨ret_bool HP.out.symm, q0.tr q1⟩
  · have hp : pIs p (a, b) = false := by unfold pIs; rw [decide_eq_false hx]; rfl
    rw [decide_eq_false hx] at hone
    have HP := Lib.hid hp
    clear hx hp
    have HO := Lib.hid hone
    clear hone
    go_enter Try.func28, Try.ntmps28
    go_wp2_with fail
    refine wp_region_later (by kernel_rfl) (by kernel_rfl) ?_
    repeat (go_big_quiet_step ((first | (go_at_call 64; exact Later.call (HO.out _)) | (go_at_call 60; exact Later.call (HOF.out _ (h.fr (q0.tr (Later.nw _)) (fun h => h)))))))
    refine wpQuiet_later fun w1 q1 => ?_
    clear d0 d1
    go_wp2_with fail
    go_ret
    exact ⟨ret_bool HP.out.symm, q0.tr q1⟩
end Go.Proofs.Ytoapobgnfgfobaa
