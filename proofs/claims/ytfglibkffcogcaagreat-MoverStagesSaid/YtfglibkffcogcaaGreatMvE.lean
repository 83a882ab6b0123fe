/- Movers: the law's example. -/
import Derived.Test.YtfglibkffcogcaaGreatMvD
namespace Go.Proofs.YtfglibkffcogcaaGreat
open Go Go.RowKit

/-- The law's handoff. -/
def hand (s : Int) : Sch := ⟨1, [109], [], 1, 2, 1, if 4 ≤ s ∧ s ≤ 6 then 2 else 0, s⟩
abbrev zS : Array Value := #[I64 0, .string ⟨#[]⟩, .string ⟨#[]⟩, I64 0, I64 0, I64 0, I64 0, .int .u8 0]
set_option maxRecDepth 100000 in
set_option maxHeartbeats 2000000 in
theorem handoff_any (w : World) (s : Int) (hs : 0 ≤ s ∧ s ≤ 255) :
    Calls Tryz.prog 21 #[.int .u8 s] w fun e w' => e = .returned (.agg (schA (hand s))) ∧ Nw w w' := by
  obtain ⟨W0, hW0⟩ : ∃ W0, W0 = w.alloc (.cells zS 34) := ⟨_, rfl⟩
  have q0 : Nw w W0 := by rw [hW0]; exact (Fr.refl (fun _ => False) w).alloc _
  have x0 : Blk W0 w.heap.size 34 zS := by rw [hW0]; exact Blk.new w _ _
  have hz0 : W0.heap.size = w.heap.size + 1 := by rw [hW0]; simp
  obtain ⟨W1, hW1⟩ : ∃ W1, W1 = W0.alloc (.cells zS 34) := ⟨_, rfl⟩
  have q1 : Nw W0 W1 := by rw [hW1]; exact (Fr.refl (fun _ => False) W0).alloc _
  have y1 : Blk W1 (w.heap.size + 1) 34 zS := by rw [hW1, ← hz0]; exact Blk.new W0 _ _
  have x1 := x0.fr q1 (fun h => h)
  obtain ⟨h0, hh0⟩ : ∃ h0 : Sch, h0 = ⟨1, [109], [], 1, 2, 1, 0, s⟩ := ⟨_, rfl⟩
  have hth := Blk.there y1 0 8 (by show 0 + 8 ≤ 8; omega)
  have hone := sch_one ⟨1, [109], [], 1, 2, 1, 0, s⟩
  obtain ⟨W2, hW2⟩ : ∃ W2, W2 = W1.setCells (w.heap.size + 1) 0 (schA ⟨1, [109], [], 1, 2, 1, 0, s⟩).toList := ⟨_, rfl⟩
  have y2 : Blk W2 (w.heap.size + 1) 34 (schA ⟨1, [109], [], 1, 2, 1, 0, s⟩) := by rw [hW2]; exact Blk.setCells y1 0 (schA ⟨1, [109], [], 1, 2, 1, 0, s⟩).toList
  have x2 : Blk W2 w.heap.size 34 zS := by rw [hW2]; exact x1.farCells (by omega) _ _
  have f2 : Fr (· = w.heap.size + 1) W1 W2 := by rw [hW2]; exact (Fr.refl _ W1).setCells _ _
  have q2 : Nw w W2 := (q0.tr q1).new f2 (fun b hb => by omega)
  have HW0 := Lib.hid hW0
  have HW1 := Lib.hid hW1
  have HW2 := Lib.hid hW2
  clear hW0 hW1 hW2 x1 y1 x0
  by_cases hu : 4 ≤ s ∧ s ≤ 6
  · have he : hand s = ⟨1, [109], [], 1, 2, 1, 2, s⟩ := by unfold hand; rw [if_pos hu]
    rw [he]
    have e6 := y2.frozen 6
    have c6 : W2.cell? ⟨w.heap.size + 1, 6, none⟩ = some (.int .i64 0) := by simpa using y2.cell 6
    obtain ⟨W3, hW3⟩ : ∃ W3, W3 = W2.setCell ⟨w.heap.size + 1, 6, none⟩ (.int .i64 2) := ⟨_, rfl⟩
    have y3 : Blk W3 (w.heap.size + 1) 34 (schA ⟨1, [109], [], 1, 2, 1, 2, s⟩) := by rw [hW3]; exact y2.set_ 6 _
    have x3 : Blk W3 w.heap.size 34 zS := by rw [hW3]; exact x2.far (by simp) _
    have q3 : Nw w W3 := by rw [hW3]; exact q2.setCell (.inr (by simp)) _
    have hcl : ∀ p u, ((schA ⟨1, [109], [], 1, 2, 1, 2, s⟩).toList)[p]? = some u → W3.cell? ⟨w.heap.size + 1, 0 + p, none⟩ = some u := Blk.cells_in y3 0 8
    have hth3 := Blk.there x3 0 8 (by show 0 + 8 ≤ 8; omega)
    have hone3 := sch_one ⟨1, [109], [], 1, 2, 1, 2, s⟩
    obtain ⟨W4, hW4⟩ : ∃ W4, W4 = W3.setCells w.heap.size 0 (schA ⟨1, [109], [], 1, 2, 1, 2, s⟩).toList := ⟨_, rfl⟩
    have x4 : Blk W4 w.heap.size 34 (schA ⟨1, [109], [], 1, 2, 1, 2, s⟩) := by rw [hW4]; exact Blk.setCells x3 0 (schA ⟨1, [109], [], 1, 2, 1, 2, s⟩).toList
    have q4 : Nw w W4 := by rw [hW4]; exact q3.new ((Fr.refl (· = w.heap.size) W3).setCells _ _) (fun b hb => by omega)
    have HW3 := Lib.hid hW3
    have HW4 := Lib.hid hW4
    have i4 : (4 : Int) ≤ s := hu.1
    have i6 : s ≤ 6 := hu.2
    clear hW3 hW4 y2 y3 x2 x3 hu
    go_enter Tryz.func21, Tryz.ntmps21
    go_upto_region 1 with (fail)
    go_upto_region 2 with (rw [← HW0.out, ← HW1.out]; refine wpList_store_mid rfl 34 _ _ rfl (w.heap.size + 1) 0 (schA ⟨1, [109], [], 1, 2, 1, 0, s⟩) rfl rfl hth sch_size hone ?_)
    rw [← HW2.out]
    go_upto_region 4 with (fail)
    rw [← HW3.out]
    go_wp2_with (first | (refine wl_load_cells rfl 34 _ rfl (w.heap.size + 1) 0 rfl (schA ⟨1, [109], [], 1, 2, 1, 2, s⟩).toList _ hcl Tryz.underlying34 rfl sch_size ?_) | (refine wpList_store_mid rfl 34 _ _ rfl w.heap.size 0 (schA ⟨1, [109], [], 1, 2, 1, 2, s⟩) rfl rfl hth3 sch_size hone3 ?_; rw [← HW4.out]))
    refine bodyPost_ret (v := .agg (schA ⟨1, [109], [], 1, 2, 1, 2, s⟩)) ?_ rfl ?_
    · exact results_cell_row rfl _ _ w.heap.size 34 _ (0, 0) _ rfl x4 Tryz.underlying34 rfl sch_size
    exact ⟨rfl, q4⟩
  · have he : hand s = ⟨1, [109], [], 1, 2, 1, 0, s⟩ := by unfold hand; rw [if_neg hu]
    rw [he]
    have hcl : ∀ p u, ((schA ⟨1, [109], [], 1, 2, 1, 0, s⟩).toList)[p]? = some u → W2.cell? ⟨w.heap.size + 1, 0 + p, none⟩ = some u := Blk.cells_in y2 0 8
    have hth3 := Blk.there x2 0 8 (by show 0 + 8 ≤ 8; omega)
    obtain ⟨W4, hW4⟩ : ∃ W4, W4 = W2.setCells w.heap.size 0 (schA ⟨1, [109], [], 1, 2, 1, 0, s⟩).toList := ⟨_, rfl⟩
    have x4 : Blk W4 w.heap.size 34 (schA ⟨1, [109], [], 1, 2, 1, 0, s⟩) := by rw [hW4]; exact Blk.setCells x2 0 (schA ⟨1, [109], [], 1, 2, 1, 0, s⟩).toList
    have q4 : Nw w W4 := by rw [hW4]; exact q2.new ((Fr.refl (· = w.heap.size) W2).setCells _ _) (fun b hb => by omega)
    have HW4 := Lib.hid hW4
    clear hW4 y2 x2
    have hcd : s < 4 ∨ (4 ≤ s ∧ 6 < s) := by omega
    clear hu
    go_enter Tryz.func21, Tryz.ntmps21
    go_upto_region 1 with (fail)
    go_upto_region 2 with (rw [← HW0.out, ← HW1.out]; refine wpList_store_mid rfl 34 _ _ rfl (w.heap.size + 1) 0 (schA ⟨1, [109], [], 1, 2, 1, 0, s⟩) rfl rfl hth sch_size hone ?_)
    rw [← HW2.out]
    rcases hcd with hc1 | ⟨hc1, hc2⟩
    · have hd1 : decide ((4 : Int) ≤ s) = false := decide_eq_false (by omega)
      have hc3 : ¬ (4 : Int) ≤ s := by omega
      go_wp2_with (first | (refine wl_load_cells rfl 34 _ rfl (w.heap.size + 1) 0 rfl (schA ⟨1, [109], [], 1, 2, 1, 0, s⟩).toList _ hcl Tryz.underlying34 rfl sch_size ?_) | (refine wpList_store_mid rfl 34 _ _ rfl w.heap.size 0 (schA ⟨1, [109], [], 1, 2, 1, 0, s⟩) rfl rfl hth3 sch_size hone ?_; rw [← HW4.out]))
      refine bodyPost_ret (v := .agg (schA ⟨1, [109], [], 1, 2, 1, 0, s⟩)) ?_ rfl ?_
      · exact results_cell_row rfl _ _ w.heap.size 34 _ (0, 0) _ rfl x4 Tryz.underlying34 rfl sch_size
      exact ⟨rfl, q4⟩
    · have hd1 : decide (s ≤ (6 : Int)) = false := decide_eq_false (by omega)
      have hc3 : ¬ s ≤ (6 : Int) := by omega
      go_wp2_with (first | (refine wl_load_cells rfl 34 _ rfl (w.heap.size + 1) 0 rfl (schA ⟨1, [109], [], 1, 2, 1, 0, s⟩).toList _ hcl Tryz.underlying34 rfl sch_size ?_) | (refine wpList_store_mid rfl 34 _ _ rfl w.heap.size 0 (schA ⟨1, [109], [], 1, 2, 1, 0, s⟩) rfl rfl hth3 sch_size hone ?_; rw [← HW4.out]))
      refine bodyPost_ret (v := .agg (schA ⟨1, [109], [], 1, 2, 1, 0, s⟩)) ?_ rfl ?_
      · exact results_cell_row rfl _ _ w.heap.size 34 _ (0, 0) _ rfl x4 Tryz.underlying34 rfl sch_size
      exact ⟨rfl, q4⟩
end Go.Proofs.YtfglibkffcogcaaGreat
