/- Handoffs are right: the document's. -/
import Derived.Test.YtfglibkffcogcaaGreatScC
namespace Go.Proofs.YtfglibkffcogcaaGreat
open Go Go.RowKit

theorem schOk_iff {x : Sch} : schOk x = true ↔ (1 ≤ x.num ∧ x.num ≤ 1073741824) ∧ spanOk x.lo x.hi = true ∧ ((1 ≤ x.src ∧ x.src ≤ 4) ∧ (1 ≤ x.dst ∧ x.dst ≤ 4) ∧ x.src ≠ x.dst) ∧ (1 ≤ x.epoch ∧ x.epoch ≤ 1073741824) ∧ (1 ≤ x.stage ∧ x.stage ≤ 9) ∧ underOk x = true := by
  unfold schOk
  simp only [Bool.and_eq_true, decide_eq_true_eq]
set_option maxRecDepth 100000 in
set_option maxHeartbeats 8000000 in
theorem rone_any (w : World) (x : Sch) (hl : x.lo.length ≤ 1000000000000) (hh : x.hi.length ≤ 1000000000000) :
    Calls Tryz.prog 57 #[.agg (schA x)] w fun e w' => e = .returned (.bool (schOk x)) ∧ Nw w w' := by
  obtain ⟨W, hW⟩ : ∃ W, W = w.alloc (.cells (schA x) 34) := ⟨_, rfl⟩
  have q0 : Nw w W := by rw [hW]; exact (Fr.refl (fun _ => False) w).alloc _
  have b0 : Blk W w.heap.size 34 (schA x) := by rw [hW]; exact Blk.new w _ _
  have HW := Lib.hid hW
  clear hW
  have hS : ∀ w', Nw W w' → w'.cell? ⟨w.heap.size, 0, none⟩ = some (I64 x.num) ∧ w'.cell? ⟨w.heap.size, 1, none⟩ = some (StrV x.lo) ∧ w'.cell? ⟨w.heap.size, 2, none⟩ = some (StrV x.hi) ∧ w'.cell? ⟨w.heap.size, 3, none⟩ = some (I64 x.src) ∧ w'.cell? ⟨w.heap.size, 4, none⟩ = some (I64 x.dst) ∧ w'.cell? ⟨w.heap.size, 5, none⟩ = some (I64 x.epoch) ∧ w'.cell? ⟨w.heap.size, 6, none⟩ = some (I64 x.under) ∧ w'.cell? ⟨w.heap.size, 7, none⟩ = some (U8V x.stage) := fun w' f => by
    have k := b0.fr f (fun h => h)
    exact ⟨by simpa using k.cell 0, by simpa using k.cell 1, by simpa using k.cell 2, by simpa using k.cell 3, by simpa using k.cell 4, by simpa using k.cell 5, by simpa using k.cell 6, by simpa using k.cell 7⟩
  obtain ⟨k0, k1, k2, k3, k4, k5, k6, k7⟩ := hS W (Fr.refl _ _)
  obtain ⟨sp, hsp⟩ : ∃ z, spanOk x.lo x.hi = z := ⟨_, rfl⟩
  have h1 := refRight_any W x.lo x.hi hl hh
  rw [hsp] at h1
  clear b0
  by_cases h2 : x.num < 1
  · have d2 : decide (x.num < 1) = true := by simp; omega
    have e : schOk x = false := Bool.eq_false_iff.2 fun h => by have := schOk_iff.1 h; omega
    rw [e]
    go_enter Tryz.func57, Tryz.ntmps57
    go_upto_region 1 with (fail)
    rw [← HW.out]
    go_wp2_with (go_at_call 92; refine h1.mono ?_; rintro e w1 ⟨rfl, q1⟩; obtain ⟨k0, k1, k2, k3, k4, k5, k6, k7⟩ := hS w1 q1)
    go_ret
    exact ⟨by simp, q0⟩
  have d2 : decide (x.num < 1) = false := by simp; omega
  by_cases h3 : 1073741824 < x.num
  · have d3 : decide (1073741824 < x.num) = true := by simp; omega
    have e : schOk x = false := Bool.eq_false_iff.2 fun h => by have := schOk_iff.1 h; omega
    rw [e]
    go_enter Tryz.func57, Tryz.ntmps57
    go_upto_region 1 with (fail)
    rw [← HW.out]
    go_wp2_with (go_at_call 92; refine h1.mono ?_; rintro e w1 ⟨rfl, q1⟩; obtain ⟨k0, k1, k2, k3, k4, k5, k6, k7⟩ := hS w1 q1)
    go_ret
    exact ⟨by simp, q0⟩
  have d3 : decide (1073741824 < x.num) = false := by simp; omega
  cases sp with
  | false =>
    have e : schOk x = false := Bool.eq_false_iff.2 fun h => by have := (schOk_iff.1 h).2.1; rw [hsp] at this; cases this
    rw [e]
    go_enter Tryz.func57, Tryz.ntmps57
    go_upto_region 1 with (fail)
    rw [← HW.out]
    go_wp2_with (go_at_call 92; refine h1.mono ?_; rintro e w1 ⟨rfl, q1⟩; obtain ⟨k0, k1, k2, k3, k4, k5, k6, k7⟩ := hS w1 q1)
    go_ret
    exact ⟨by simp, q0.tr q1⟩
  | true =>
    by_cases h5 : x.src < 1
    · have d5 : decide (x.src < 1) = true := by simp; omega
      have e : schOk x = false := Bool.eq_false_iff.2 fun h => by have := schOk_iff.1 h; omega
      rw [e]
      go_enter Tryz.func57, Tryz.ntmps57
      go_upto_region 1 with (fail)
      rw [← HW.out]
      go_wp2_with (go_at_call 92; refine h1.mono ?_; rintro e w1 ⟨rfl, q1⟩; obtain ⟨k0, k1, k2, k3, k4, k5, k6, k7⟩ := hS w1 q1)
      go_ret
      exact ⟨by simp, q0.tr q1⟩
    have d5 : decide (x.src < 1) = false := by simp; omega
    by_cases h6 : 4 < x.src
    · have d6 : decide (4 < x.src) = true := by simp; omega
      have e : schOk x = false := Bool.eq_false_iff.2 fun h => by have := schOk_iff.1 h; omega
      rw [e]
      go_enter Tryz.func57, Tryz.ntmps57
      go_upto_region 1 with (fail)
      rw [← HW.out]
      go_wp2_with (go_at_call 92; refine h1.mono ?_; rintro e w1 ⟨rfl, q1⟩; obtain ⟨k0, k1, k2, k3, k4, k5, k6, k7⟩ := hS w1 q1)
      go_ret
      exact ⟨by simp, q0.tr q1⟩
    have d6 : decide (4 < x.src) = false := by simp; omega
    by_cases h7 : x.dst < 1
    · have d7 : decide (x.dst < 1) = true := by simp; omega
      have e : schOk x = false := Bool.eq_false_iff.2 fun h => by have := schOk_iff.1 h; omega
      rw [e]
      go_enter Tryz.func57, Tryz.ntmps57
      go_upto_region 1 with (fail)
      rw [← HW.out]
      go_wp2_with (go_at_call 92; refine h1.mono ?_; rintro e w1 ⟨rfl, q1⟩; obtain ⟨k0, k1, k2, k3, k4, k5, k6, k7⟩ := hS w1 q1)
      go_ret
      exact ⟨by simp, q0.tr q1⟩
    have d7 : decide (x.dst < 1) = false := by simp; omega
    by_cases h8 : 4 < x.dst
    · have d8 : decide (4 < x.dst) = true := by simp; omega
      have e : schOk x = false := Bool.eq_false_iff.2 fun h => by have := schOk_iff.1 h; omega
      rw [e]
      go_enter Tryz.func57, Tryz.ntmps57
      go_upto_region 1 with (fail)
      rw [← HW.out]
      go_wp2_with (go_at_call 92; refine h1.mono ?_; rintro e w1 ⟨rfl, q1⟩; obtain ⟨k0, k1, k2, k3, k4, k5, k6, k7⟩ := hS w1 q1)
      go_ret
      exact ⟨by simp, q0.tr q1⟩
    have d8 : decide (4 < x.dst) = false := by simp; omega
    by_cases h9 : x.src = x.dst
    · have d9 : (x.src == x.dst) = true := by simp; omega
      have e : schOk x = false := Bool.eq_false_iff.2 fun h => by have := schOk_iff.1 h; omega
      rw [e]
      go_enter Tryz.func57, Tryz.ntmps57
      go_upto_region 1 with (fail)
      rw [← HW.out]
      go_wp2_with (go_at_call 92; refine h1.mono ?_; rintro e w1 ⟨rfl, q1⟩; obtain ⟨k0, k1, k2, k3, k4, k5, k6, k7⟩ := hS w1 q1)
      go_ret
      exact ⟨by simp, q0.tr q1⟩
    have d9 : (x.src == x.dst) = false := by simp; omega
    by_cases h10 : x.epoch < 1
    · have d10 : decide (x.epoch < 1) = true := by simp; omega
      have e : schOk x = false := Bool.eq_false_iff.2 fun h => by have := schOk_iff.1 h; omega
      rw [e]
      go_enter Tryz.func57, Tryz.ntmps57
      go_upto_region 1 with (fail)
      rw [← HW.out]
      go_wp2_with (go_at_call 92; refine h1.mono ?_; rintro e w1 ⟨rfl, q1⟩; obtain ⟨k0, k1, k2, k3, k4, k5, k6, k7⟩ := hS w1 q1)
      go_ret
      exact ⟨by simp, q0.tr q1⟩
    have d10 : decide (x.epoch < 1) = false := by simp; omega
    by_cases h11 : 1073741824 < x.epoch
    · have d11 : decide (1073741824 < x.epoch) = true := by simp; omega
      have e : schOk x = false := Bool.eq_false_iff.2 fun h => by have := schOk_iff.1 h; omega
      rw [e]
      go_enter Tryz.func57, Tryz.ntmps57
      go_upto_region 1 with (fail)
      rw [← HW.out]
      go_wp2_with (go_at_call 92; refine h1.mono ?_; rintro e w1 ⟨rfl, q1⟩; obtain ⟨k0, k1, k2, k3, k4, k5, k6, k7⟩ := hS w1 q1)
      go_ret
      exact ⟨by simp, q0.tr q1⟩
    have d11 : decide (1073741824 < x.epoch) = false := by simp; omega
    by_cases h12 : x.stage < 1
    · have d12 : decide (x.stage < 1) = true := by simp; omega
      have e : schOk x = false := Bool.eq_false_iff.2 fun h => by have := schOk_iff.1 h; omega
      rw [e]
      go_enter Tryz.func57, Tryz.ntmps57
      go_upto_region 1 with (fail)
      rw [← HW.out]
      go_wp2_with (go_at_call 92; refine h1.mono ?_; rintro e w1 ⟨rfl, q1⟩; obtain ⟨k0, k1, k2, k3, k4, k5, k6, k7⟩ := hS w1 q1)
      go_ret
      exact ⟨by simp, q0.tr q1⟩
    have d12 : decide (x.stage < 1) = false := by simp; omega
    by_cases h13 : 9 < x.stage
    · have d13 : decide (9 < x.stage) = true := by simp; omega
      have e : schOk x = false := Bool.eq_false_iff.2 fun h => by have := schOk_iff.1 h; omega
      rw [e]
      go_enter Tryz.func57, Tryz.ntmps57
      go_upto_region 1 with (fail)
      rw [← HW.out]
      go_wp2_with (go_at_call 92; refine h1.mono ?_; rintro e w1 ⟨rfl, q1⟩; obtain ⟨k0, k1, k2, k3, k4, k5, k6, k7⟩ := hS w1 q1)
      go_ret
      exact ⟨by simp, q0.tr q1⟩
    have d13 : decide (9 < x.stage) = false := by simp; omega
    have e : schOk x = underOk x := by
      rw [Bool.eq_iff_iff, schOk_iff]
      exact ⟨fun h => h.2.2.2.2.2, fun h => ⟨by omega, hsp, by omega, by omega, by omega, h⟩⟩
    rw [e]
    clear e
    by_cases h20 : x.stage < 4
    · have d20 : decide (4 ≤ x.stage) = false := by simp; omega
      have e : underOk x = decide (x.under = 0) := by unfold underOk; rw [if_neg (by omega)]
      rw [e]
      clear e
      go_enter Tryz.func57, Tryz.ntmps57
      go_upto_region 1 with (fail)
      rw [← HW.out]
      go_wp2_with (go_at_call 92; refine h1.mono ?_; rintro e w1 ⟨rfl, q1⟩; obtain ⟨k0, k1, k2, k3, k4, k5, k6, k7⟩ := hS w1 q1)
      go_ret
      refine ⟨?_, q0.tr q1⟩
      by_cases e0 : x.under = 0 <;> simp [e0]
    · have d20 : decide (4 ≤ x.stage) = true := by simp; omega
      by_cases h21 : 6 < x.stage
      · have d21 : decide (x.stage ≤ 6) = false := by simp; omega
        have e : underOk x = decide (x.under = 0) := by unfold underOk; rw [if_neg (by omega)]
        rw [e]
        clear e
        go_enter Tryz.func57, Tryz.ntmps57
        go_upto_region 1 with (fail)
        rw [← HW.out]
        go_wp2_with (go_at_call 92; refine h1.mono ?_; rintro e w1 ⟨rfl, q1⟩; obtain ⟨k0, k1, k2, k3, k4, k5, k6, k7⟩ := hS w1 q1)
        go_ret
        refine ⟨?_, q0.tr q1⟩
        by_cases e0 : x.under = 0 <;> simp [e0]
      · have d21 : decide (x.stage ≤ 6) = true := by simp; omega
        have e : underOk x = decide (x.epoch < x.under ∧ x.under ≤ 1073741824) := by unfold underOk; rw [if_pos (by omega)]
        rw [e]
        clear e
        by_cases h22 : x.epoch < x.under
        · have d22 : decide (x.epoch < x.under) = true := by simp; omega
          have e : decide (x.epoch < x.under ∧ x.under ≤ 1073741824) = decide (x.under ≤ 1073741824) := by simp [h22]
          rw [e]
          clear e
          go_enter Tryz.func57, Tryz.ntmps57
          go_upto_region 1 with (fail)
          rw [← HW.out]
          go_wp2_with (go_at_call 92; refine h1.mono ?_; rintro e w1 ⟨rfl, q1⟩; obtain ⟨k0, k1, k2, k3, k4, k5, k6, k7⟩ := hS w1 q1)
          go_ret
          exact ⟨by simp, q0.tr q1⟩
        · have d22 : decide (x.epoch < x.under) = false := by simp; omega
          have e : decide (x.epoch < x.under ∧ x.under ≤ 1073741824) = false := by simp; omega
          rw [e]
          clear e
          go_enter Tryz.func57, Tryz.ntmps57
          go_upto_region 1 with (fail)
          rw [← HW.out]
          go_wp2_with (go_at_call 92; refine h1.mono ?_; rintro e w1 ⟨rfl, q1⟩; obtain ⟨k0, k1, k2, k3, k4, k5, k6, k7⟩ := hS w1 q1)
          go_ret
          exact ⟨by simp, q0.tr q1⟩
def ROneTo (w : World) (ok : Bool) (i : Value) (wx : World) : Prop := ∃ k : Nat, k ≤ 1 ∧ i = .int .i64 k ∧ (k = 1 → ok = true) ∧ Nw w wx
set_option maxRecDepth 100000 in
theorem rright1_any (w : World) (x : Sch) (hl : x.lo.length ≤ 1000000000000) (hh : x.hi.length ≤ 1000000000000) (g : Nat) (hb : Blk w g 34 (schA x)) :
    Calls Tryz.prog 35 #[.slice (some ⟨g, 0, none⟩) 1 1] w fun e w' => e = .returned (.bool (schOk x)) ∧ Nw w w' := by
  have hcon := fun w1 => rone_any w1 x hl hh
  obtain ⟨ok, hok⟩ : ∃ ok, schOk x = ok := ⟨_, rfl⟩
  simp only [hok] at hcon
  rw [hok]
  clear hok
  go_enter Tryz.func35, Tryz.ntmps35
  go_wp2_with fail
  go_loopw [3] (fun i wx => ROneTo w ok i wx) (fun i _ => 1 - (intOf i).toNat)
  case atStart => exact ⟨0, by omega, rfl, fun h => by omega, Fr.refl _ _⟩
  case round =>
    obtain ⟨k, hk, rfl, hko, hq⟩ := hrel
    by_cases h0 : k = 0
    · subst h0
      have hb1 := hb.fr hq (fun h => h)
      have hcl : ∀ j u, ((schA x).toList)[j]? = some u → wr.cell? ⟨g, 0 + j, none⟩ = some u := Blk.cells_in hb1 0 8
      cases ok with
      | false =>
        go_wp2_with (first | (refine wl_load_cells rfl 34 _ rfl g 0 rfl (schA x).toList _ hcl Tryz.underlying34 rfl sch_size ?_) | (go_at_call 57; refine (hcon _).mono ?_; rintro e w1 ⟨rfl, q1⟩))
        go_ret
        exact ⟨rfl, hq.tr q1⟩
      | true =>
        go_wp2_with (first | (refine wl_load_cells rfl 34 _ rfl g 0 rfl (schA x).toList _ hcl Tryz.underlying34 rfl sch_size ?_) | (go_at_call 57; refine (hcon _).mono ?_; rintro e w1 ⟨rfl, q1⟩))
        go_roundw
        case rel => exact ⟨1, by omega, by go_num, fun _ => rfl, hq.tr q1⟩
        case measure => simp [intOf]
    · obtain rfl : k = 1 := by omega
      obtain rfl := hko rfl
      go_wp2_with fail
      go_ret
      exact ⟨rfl, hq⟩
end Go.Proofs.YtfglibkffcogcaaGreat
