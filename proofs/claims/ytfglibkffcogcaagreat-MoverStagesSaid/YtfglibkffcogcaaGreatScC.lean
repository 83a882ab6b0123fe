/- Handoffs are right, and over, on either side; one alone. -/
import Derived.Test.YtfglibkffcogcaaGreatScB
import Derived.Test.YtfglibkffcogcaaGreatMid
namespace Go.Proofs.YtfglibkffcogcaaGreat
open Go Go.RowKit

theorem sch_size : (Tryz.prog.info? 34).map (·.size) = some 8 := by kernel_rfl
set_option maxRecDepth 100000 in
theorem rightc_any (w : World) (x : Sch) (hl : x.lo.length ≤ 1000000000000) (hh : x.hi.length ≤ 1000000000000) (hst : 0 ≤ x.stage ∧ x.stage ≤ 255) :
    Calls Tryz.prog 50 #[.agg (schA x)] w fun e w' => e = .returned (.bool (!schOk x)) ∧ Nw w w' := by
  obtain ⟨W, hW⟩ : ∃ W, W = w.alloc (.cells (schA x) 34) := ⟨_, rfl⟩
  have q0 : Nw w W := by rw [hW]; exact (Fr.refl (fun _ => False) w).alloc _
  have b0 : Blk W w.heap.size 34 (schA x) := by rw [hW]; exact Blk.new w _ _
  have HW := Lib.hid hW
  clear hW
  have h1 := wright_any W x hl hh hst
  obtain ⟨ok, hok⟩ : ∃ ok, schOk x = ok := ⟨_, rfl⟩
  rw [hok] at h1 ⊢
  clear hok
  have c0 : W.cell? ⟨w.heap.size, 0, none⟩ = some (I64 x.num) := by simpa using b0.cell 0
  have c1 : W.cell? ⟨w.heap.size, 1, none⟩ = some (StrV x.lo) := by simpa using b0.cell 1
  have c2 : W.cell? ⟨w.heap.size, 2, none⟩ = some (StrV x.hi) := by simpa using b0.cell 2
  have c3 : W.cell? ⟨w.heap.size, 3, none⟩ = some (I64 x.src) := by simpa using b0.cell 3
  have c4 : W.cell? ⟨w.heap.size, 4, none⟩ = some (I64 x.dst) := by simpa using b0.cell 4
  have c5 : W.cell? ⟨w.heap.size, 5, none⟩ = some (I64 x.epoch) := by simpa using b0.cell 5
  have c6 : W.cell? ⟨w.heap.size, 6, none⟩ = some (I64 x.under) := by simpa using b0.cell 6
  have c7 : W.cell? ⟨w.heap.size, 7, none⟩ = some (U8V x.stage) := by simpa using b0.cell 7
  go_enter Tryz.func50, Tryz.ntmps50
  go_upto_region 1 with (fail)
  rw [← HW.out]
  go_wp2_with fail
  refine h1.mono ?_
  rintro e w1 ⟨rfl, q1⟩
  go_wp2_with fail
  go_ret
  exact ⟨rfl, q0.tr q1⟩
def OneTo (w : World) (ok : Bool) (i : Value) (wx : World) : Prop := ∃ k : Nat, k ≤ 1 ∧ i = .int .i64 k ∧ (k = 1 → ok = true) ∧ Nw w wx
set_option maxRecDepth 100000 in
theorem indexScheme_any (w : World) (g : Nat) (x : Sch) (hb : Blk w g 34 (schA x)) (hl : x.lo.length ≤ 1000000000000) (hh : x.hi.length ≤ 1000000000000) (hst : 0 ≤ x.stage ∧ x.stage ≤ 255) :
    Calls Tryz.prog 87 #[.slice (some ⟨g, 0, none⟩) 1 1, .func (.func 50) #[] #[]] w fun e w' => ∃ i : Int, e = .returned (.int .i64 i) ∧ decide (0 ≤ i) = !schOk x ∧ Nw w w' := by
  have hcon := fun w1 => rightc_any w1 x hl hh hst
  obtain ⟨ok, hok⟩ : ∃ ok, schOk x = ok := ⟨_, rfl⟩
  simp only [hok] at hcon
  rw [hok]
  clear hok
  go_enter Tryz.func87, Tryz.ntmps87
  go_wp2_with fail
  go_loopw [8] (fun i wx => OneTo w ok i wx) (fun i _ => 1 - (intOf i).toNat)
  case atStart => exact ⟨0, by omega, rfl, fun h => by omega, Fr.refl _ _⟩
  case round =>
    obtain ⟨k, hk, rfl, hko, hq⟩ := hrel
    by_cases h0 : k = 0
    · subst h0
      have hb1 := hb.fr hq (fun h => h)
      have hcl : ∀ j u, ((schA x).toList)[j]? = some u → wr.cell? ⟨g, 0 + j, none⟩ = some u := Blk.cells_in hb1 0 8
      cases ok with
      | false =>
        go_wp2_with (first | (refine wl_load_cells rfl 34 _ rfl g 0 rfl (schA x).toList _ hcl Tryz.underlying34 rfl sch_size ?_) | (go_at_call 50; refine (hcon _).mono ?_; rintro e w1 ⟨rfl, q1⟩))
        go_ret
        exact ⟨0, rfl, rfl, hq.tr q1⟩
      | true =>
        go_wp2_with (first | (refine wl_load_cells rfl 34 _ rfl g 0 rfl (schA x).toList _ hcl Tryz.underlying34 rfl sch_size ?_) | (go_at_call 50; refine (hcon _).mono ?_; rintro e w1 ⟨rfl, q1⟩))
        go_roundw
        case rel => exact ⟨1, by omega, rfl, fun _ => rfl, hq.tr q1⟩
        case measure => simp [intOf]
    · obtain rfl : k = 1 := by omega
      obtain rfl := hko rfl
      go_wp2_with fail
      go_ret
      exact ⟨-1, rfl, by simp, hq⟩
set_option maxRecDepth 100000 in
theorem right1_any (w : World) (x : Sch) (hl : x.lo.length ≤ 1000000000000) (hh : x.hi.length ≤ 1000000000000) (hst : 0 ≤ x.stage ∧ x.stage ≤ 255) (g : Nat) (hb : Blk w g 34 (schA x)) :
    Calls Tryz.prog 24 #[.slice (some ⟨g, 0, none⟩) 1 1] w fun e w' => e = .returned (.bool (schOk x)) ∧ Nw w w' := by
  have hix := indexScheme_any w g x hb hl hh hst
  have hcon : Calls Tryz.prog 49 #[.slice (some ⟨g, 0, none⟩) 1 1, .func (.func 50) #[] #[]] w fun e w' => e = .returned (.bool (!schOk x)) ∧ Nw w w' := by
    obtain ⟨ok, hok⟩ : ∃ ok, schOk x = ok := ⟨_, rfl⟩
    rw [hok] at hix ⊢
    go_enter Tryz.func49, Tryz.ntmps49
    go_wp2_with fail
    refine hix.mono ?_
    rintro e w1 ⟨i, rfl, hd, q1⟩
    have HD := Lib.hid hd
    clear hd
    go_wp2_with fail
    go_ret
    exact ⟨congrArg (fun b => Ending.returned (.bool b)) HD.out, q1⟩
  clear hix
  obtain ⟨ok, hok⟩ : ∃ ok, schOk x = ok := ⟨_, rfl⟩
  rw [hok] at hcon ⊢
  go_enter Tryz.func24, Tryz.ntmps24
  go_wp2_with fail
  refine hcon.mono ?_
  rintro e w1 ⟨rfl, q1⟩
  go_wp2_with fail
  go_ret
  exact ⟨by simp, q1⟩
set_option maxRecDepth 100000 in
theorem over_any (w : World) (x : Sch) : Calls Tryz.prog 25 #[.agg (schA x)] w fun e w' => e = .returned (.bool (schOver x)) ∧ Nw w w' := by
  have hd : schOver x = (decide (x.stage = 6) || decide (x.stage = 9)) := rfl
  rw [hd]
  by_cases h6 : x.stage = 6
  · go_enter Tryz.func25, Tryz.ntmps25
    go_wp2_with fail
    go_ret
    exact ⟨by simp [h6], (Fr.refl (fun _ => False) w).alloc _⟩
  · go_enter Tryz.func25, Tryz.ntmps25
    go_wp2_with fail
    go_ret
    refine ⟨?_, (Fr.refl (fun _ => False) w).alloc _⟩
    by_cases h9 : x.stage = 9 <;> simp [h6, h9]
set_option maxRecDepth 100000 in
theorem rover_any (w : World) (x : Sch) : Calls Tryz.prog 36 #[.agg (schA x)] w fun e w' => e = .returned (.bool (schOver x)) ∧ Nw w w' := by
  have hd : schOver x = (decide (x.stage = 6) || decide (x.stage = 9)) := rfl
  rw [hd]
  by_cases h6 : x.stage = 6
  · go_enter Tryz.func36, Tryz.ntmps36
    go_wp2_with fail
    go_ret
    exact ⟨by simp [h6], (Fr.refl (fun _ => False) w).alloc _⟩
  · go_enter Tryz.func36, Tryz.ntmps36
    go_wp2_with fail
    go_ret
    refine ⟨?_, (Fr.refl (fun _ => False) w).alloc _⟩
    by_cases h9 : x.stage = 9 <;> simp [h6, h9]
end Go.Proofs.YtfglibkffcogcaaGreat
