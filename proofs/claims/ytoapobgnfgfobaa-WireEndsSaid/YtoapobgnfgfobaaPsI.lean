/- Past: the reference's. -/
import Derived.Test.YtoapobgnfgfobaaPsF
import Derived.Deep.RegionHeld3
import Derived.Deep.QuietTactic
import Derived.BigQuiet
namespace Go.Proofs.Ytoapobgnfgfobaa
open Go Go.RowKit

def IsRP (w : World) (g : Nat) (p : Pst) : Prop := p.length = 8 ∧ Blk w g 32 (I64 0 :: p.map I64).toArray
theorem IsRP.num {w : World} {g : Nat} {p : Pst} (h : IsRP w g p) {i : Nat} (hi : i < 8) : w.cell? ⟨g, i + 1, none⟩ = some (I64 (p.getD i 0)) := by
  rw [h.2.cell]
  simp [h.1, hi, List.getD_eq_getElem?_getD]
theorem IsRP.fr {w w' : World} {S : Nat → Prop} {g : Nat} {p : Pst} (h : IsRP w g p) (hf : Fr S w w') (hg : ¬ S g) : IsRP w' g p := ⟨h.1, h.2.fr hf hg⟩
theorem IsRP.set_ {w : World} {g : Nat} {p : Pst} (h : IsRP w g p) (j : Nat) (v : Int) : IsRP (w.setCell ⟨g, j + 1, none⟩ (I64 v)) g (p.set j v) := by
  refine ⟨by simpa using h.1, ?_⟩
  have := h.2.set_ (j + 1) (I64 v)
  have e : ((I64 0 :: p.map I64).toArray).setIfInBounds (j + 1) (I64 v) = (I64 0 :: (p.set j v).map I64).toArray := by
    rw [← Array.toList_inj]
    simp [List.map_set]
  rwa [e] at this
theorem IsRP.drewN {w : World} {g : Nat} {p : Pst} (h : IsRP w g p) (n : Nat) : IsRP (w.drewN n) g p := h

theorem rOf_any (w : World) (g : Nat) (p : Pst) (h : IsRP w g p) (c : Int) : Calls Try.prog 68 #[PtrV g, .int .i64 c] w fun e w' => e = .returned (.int .i64 (pOf p c)) ∧ w = w' := by
  by_cases h1 : c < 1
  · have e : (0 : Int) = pOf p c := by unfold pOf; rw [if_pos (.inl h1)]
    have HE := Lib.hid e
    clear e
    go_enter Try.func68, Try.ntmps68
    go_wp2_with fail
    go_ret
    exact ⟨ret_int _ _ HE.out, rfl⟩
  · by_cases h2 : 8 < c
    · have e : (0 : Int) = pOf p c := by unfold pOf; rw [if_pos (.inr h2)]
      have HE := Lib.hid e
      clear e
      go_enter Try.func68, Try.ntmps68
      go_wp2_with fail
      go_ret
      exact ⟨ret_int _ _ HE.out, rfl⟩
    · obtain ⟨j, rfl⟩ : ∃ j : Nat, c = (j : Int) + 1 := ⟨(c - 1).toNat, by omega⟩
      have hj : j < 8 := by omega
      have e : p.getD j 0 = pOf p ((j : Int) + 1) := by
        unfold pOf
        rw [if_neg (by omega)]
        congr 1
        omega
      have HE := Lib.hid e
      clear e
      have hc := h.num hj
      generalize p.getD j 0 = v at hc HE
      have e2 : ((j : Int) + 1) = ((j + 1 : Nat) : Int) := by omega
      generalize j + 1 = j1 at hc e2
      rw [e2] at HE ⊢
      have h11 : 1 ≤ j1 := by omega
      have h19 : j1 ≤ 8 := by omega
      clear h1 h2 hj e2
      go_enter Try.func68, Try.ntmps68
      go_wp2_with fail
      go_ret
      exact ⟨ret_int _ _ HE.out, rfl⟩

set_option maxHeartbeats 1000000 in
theorem rIs_any (w : World) (g : Nat) (p : Pst) (h : IsRP w g p) (x : Nm) : Calls Try.prog 29 #[PtrV g, NmV x] w fun e w' => e = .returned (.bool (pIs p x)) ∧ Nw w w' := by
  obtain ⟨a, b⟩ := x
  have hone := fun w => rright_any w (a, b)
  by_cases hx : nmOk (a, b)
  · obtain ⟨j, hj, h8⟩ : ∃ j : Nat, a = ((j + 1 : Nat) : Int) ∧ j < 8 := ⟨(a - 1).toNat, by have := hx.1; simp only at this; omega, by have := hx.2.1; have := hx.1; simp only at *; omega⟩
    have hp : pIs p (a, b) = decide (b ≤ p.getD j 0) := by
      unfold pIs
      rw [decide_eq_true hx, Bool.true_and]
      unfold pOf
      rw [if_neg (by omega)]
      have e : (a - 1).toNat = j := by omega
      simp only [e]
    rw [decide_eq_true hx] at hone
    have hc := h.num h8
    have hg := h.2.lt
    generalize p.getD j 0 = v at hc hp
    have h11 : 1 ≤ j + 1 := by omega
    have h19 : j + 1 ≤ 8 := by omega
    generalize j + 1 = j1 at *
    subst hj
    have hi0 : (0 : Int) ≤ (j1 : Int) := by omega
    have hi9 : (j1 : Int) < 9 := by omega
    have HP := Lib.hid hp
    clear hx hp h8
    have HO := Lib.hid hone
    clear hone
    have q0' : Nw w (w.alloc (.cells #[I64 (j1 : Int), I64 b] 53)) := (Fr.refl _ w).alloc _
    have d0 := fun (n : Later (w.alloc (.cells #[I64 (j1 : Int), I64 b] 53))) => n.cell (p := ⟨w.heap.size, 0, none⟩) (v := I64 (j1 : Int)) (by simp)
    have d1 := fun (n : Later (w.alloc (.cells #[I64 (j1 : Int), I64 b] 53))) => n.cell (p := ⟨w.heap.size, 1, none⟩) (v := I64 b) (by simp)
    have d2 := fun (n : Later (w.alloc (.cells #[I64 (j1 : Int), I64 b] 53))) => n.cell (p := ⟨g, j1, none⟩) (v := I64 v) ((q0'.cell (p := ⟨g, j1, none⟩) hg (fun h => h)).trans hc)
    go_enter Try.func29, Try.ntmps29
    go_wp2_with fail
    refine wp_region_later (by kernel_rfl) (by kernel_rfl) ?_
    repeat (go_big_quiet_step ((go_at_call 65; exact Later.call (HO.out _))))
    refine wpQuiet_later fun w1 q1 => ?_
    clear d0 d1 d2
    go_wp2_with fail
    go_ret
    exact ⟨ret_bool HP.out.symm, q0'.tr q1⟩
  · have hp : pIs p (a, b) = false := by unfold pIs; rw [decide_eq_false hx]; rfl
    rw [decide_eq_false hx] at hone
    have HP := Lib.hid hp
    clear hx hp
    have HO := Lib.hid hone
    clear hone
    have q0' : Nw w (w.alloc (.cells #[I64 a, I64 b] 53)) := (Fr.refl _ w).alloc _
    have d0 := fun (n : Later (w.alloc (.cells #[I64 a, I64 b] 53))) => n.cell (p := ⟨w.heap.size, 0, none⟩) (v := I64 a) (by simp)
    have d1 := fun (n : Later (w.alloc (.cells #[I64 a, I64 b] 53))) => n.cell (p := ⟨w.heap.size, 1, none⟩) (v := I64 b) (by simp)
    go_enter Try.func29, Try.ntmps29
    go_wp2_with fail
    refine wp_region_later (by kernel_rfl) (by kernel_rfl) ?_
    repeat (go_big_quiet_step ((go_at_call 65; exact Later.call (HO.out _))))
    refine wpQuiet_later fun w1 q1 => ?_
    clear d0 d1
    go_wp2_with fail
    go_ret
    exact ⟨ret_bool HP.out.symm, q0'.tr q1⟩
end Go.Proofs.Ytoapobgnfgfobaa
