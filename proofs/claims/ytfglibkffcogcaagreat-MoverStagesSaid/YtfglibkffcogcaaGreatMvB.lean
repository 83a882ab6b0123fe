/- Movers: an order held against itself; asks held against each other. -/
import Derived.Test.YtfglibkffcogcaaGreatMvA
import Derived.Test.YtfglibkffcogcaaGreatMrE
namespace Go.Proofs.YtfglibkffcogcaaGreat
open Go Go.RowKit

set_option maxRecDepth 100000 in
theorem sameActs_nil (w : World) : Calls Tryz.prog 63 #[.slice none 0 0, .slice none 0 0] w fun e w' => e = .returned (.bool true) ∧ w = w' := by
  go_enter Tryz.func63, Tryz.ntmps63
  go_wp2_with fail
  refine wp_loop_rounds 1 ?_
  rw [rounds_succ]
  go_wp2_with fail
  go_ret
  exact ⟨rfl, rfl⟩
set_option maxRecDepth 100000 in
theorem sameReads_nil (w : World) : Calls Tryz.prog 64 #[.slice none 0 0, .slice none 0 0] w fun e w' => e = .returned (.bool true) ∧ w = w' := by
  go_enter Tryz.func64, Tryz.ntmps64
  go_wp2_with fail
  refine wp_loop_rounds 1 ?_
  rw [rounds_succ]
  go_wp2_with fail
  go_ret
  exact ⟨rfl, rfl⟩
set_option maxRecDepth 100000 in
set_option maxHeartbeats 2000000 in
theorem same22_any (w : World) (F1 F2 : Nat → Prop) (o : Ord) (A1 A2 : Option Addr) (c1 c2 : Nat) (h1 : Sl w F1 A1 (o.bytes.map B8)) (h2 : Sl w F2 A2 (o.bytes.map B8)) (hz : o.bytes.length ≤ 1000000000) :
    Calls Tryz.prog 45 #[.agg (ordA (I64 o.kind) o A1 c1), .agg (ordA (I64 o.kind) o A2 c2)] w fun e w' => e = .returned (.bool true) ∧ Nw w w' := by
  obtain ⟨W0, hW0⟩ : ∃ W0, W0 = w.alloc (.cells (ordA (I64 o.kind) o A1 c1) 61) := ⟨_, rfl⟩
  have q0 : Nw w W0 := by rw [hW0]; exact (Fr.refl (fun _ => False) w).alloc _
  have x0 : Blk W0 w.heap.size 61 (ordA (I64 o.kind) o A1 c1) := by rw [hW0]; exact Blk.new w _ _
  have hz0 : W0.heap.size = w.heap.size + 1 := by rw [hW0]; simp
  obtain ⟨W1, hW1⟩ : ∃ W1, W1 = W0.alloc (.cells (ordA (I64 o.kind) o A2 c2) 61) := ⟨_, rfl⟩
  have q1 : Nw W0 W1 := by rw [hW1]; exact (Fr.refl (fun _ => False) W0).alloc _
  have y1 : Blk W1 (w.heap.size + 1) 61 (ordA (I64 o.kind) o A2 c2) := by rw [hW1, ← hz0]; exact Blk.new W0 _ _
  have x1 := x0.fr q1 (fun h => h)
  have b0 : W1.cell? ⟨w.heap.size, 0, none⟩ = some (.int .i64 o.kind) := by simpa using x1.cell 0
  have b1 : W1.cell? ⟨w.heap.size, 1, none⟩ = some (.int .i64 0) := by simpa using x1.cell 1
  have b2 : W1.cell? ⟨w.heap.size, 2, none⟩ = some (.int .i64 0) := by simpa using x1.cell 2
  have b3 : W1.cell? ⟨w.heap.size, 3, none⟩ = some (.int .i64 o.epoch) := by simpa using x1.cell 3
  have b4 : W1.cell? ⟨w.heap.size, 4, none⟩ = some (.slice none 0 0) := by simpa using x1.cell 4
  have b5 : W1.cell? ⟨w.heap.size, 5, none⟩ = some (.bool false) := by simpa using x1.cell 5
  have b6 : W1.cell? ⟨w.heap.size, 6, none⟩ = some (.slice none 0 0) := by simpa using x1.cell 6
  have b7 : W1.cell? ⟨w.heap.size, 7, none⟩ = some (.int .i64 o.num) := by simpa using x1.cell 7
  have b8 : W1.cell? ⟨w.heap.size, 8, none⟩ = some (.int .i64 o.stage) := by simpa using x1.cell 8
  have b9 : W1.cell? ⟨w.heap.size, 9, none⟩ = some (.int .i64 0) := by simpa using x1.cell 9
  have b10 : W1.cell? ⟨w.heap.size, 10, none⟩ = some (.string ⟨o.lo.toArray⟩) := by simpa using x1.cell 10
  have b11 : W1.cell? ⟨w.heap.size, 11, none⟩ = some (.string ⟨o.hi.toArray⟩) := by simpa using x1.cell 11
  have b12 : W1.cell? ⟨w.heap.size, 12, none⟩ = some (.slice A1 o.bytes.length c1) := by simpa using x1.cell 12
  have d0 : W1.cell? ⟨w.heap.size + 1, 0, none⟩ = some (.int .i64 o.kind) := by simpa using y1.cell 0
  have d1 : W1.cell? ⟨w.heap.size + 1, 1, none⟩ = some (.int .i64 0) := by simpa using y1.cell 1
  have d2 : W1.cell? ⟨w.heap.size + 1, 2, none⟩ = some (.int .i64 0) := by simpa using y1.cell 2
  have d3 : W1.cell? ⟨w.heap.size + 1, 3, none⟩ = some (.int .i64 o.epoch) := by simpa using y1.cell 3
  have d4 : W1.cell? ⟨w.heap.size + 1, 4, none⟩ = some (.slice none 0 0) := by simpa using y1.cell 4
  have d5 : W1.cell? ⟨w.heap.size + 1, 5, none⟩ = some (.bool false) := by simpa using y1.cell 5
  have d6 : W1.cell? ⟨w.heap.size + 1, 6, none⟩ = some (.slice none 0 0) := by simpa using y1.cell 6
  have d7 : W1.cell? ⟨w.heap.size + 1, 7, none⟩ = some (.int .i64 o.num) := by simpa using y1.cell 7
  have d8 : W1.cell? ⟨w.heap.size + 1, 8, none⟩ = some (.int .i64 o.stage) := by simpa using y1.cell 8
  have d9 : W1.cell? ⟨w.heap.size + 1, 9, none⟩ = some (.int .i64 0) := by simpa using y1.cell 9
  have d10 : W1.cell? ⟨w.heap.size + 1, 10, none⟩ = some (.string ⟨o.lo.toArray⟩) := by simpa using y1.cell 10
  have d11 : W1.cell? ⟨w.heap.size + 1, 11, none⟩ = some (.string ⟨o.hi.toArray⟩) := by simpa using y1.cell 11
  have d12 : W1.cell? ⟨w.heap.size + 1, 12, none⟩ = some (.slice A2 o.bytes.length c2) := by simpa using y1.cell 12
  have HW0 := Lib.hid hW0
  have HW1 := Lib.hid hW1
  have sa := fun w => sameActs_nil w
  have sr := fun w => sameReads_nil w
  have sb := same_u8 W1 F1 F2 A1 A2 c1 c2 o.bytes o.bytes (h1.fr (q0.tr q1) (fun _ _ h => h)) (h2.fr (q0.tr q1) (fun _ _ h => h)) (by omega)
  rw [decide_eq_true rfl] at sb
  clear hW0 hW1 x0 x1 y1
  go_enter Tryz.func45, Tryz.ntmps45
  go_wp2_with fail
  refine (sa _).mono ?_
  rintro e w1 ⟨rfl, rfl⟩
  go_wp2_with fail
  refine (sr _).mono ?_
  rintro e w1 ⟨rfl, rfl⟩
  go_wp2_with fail
  rw [← HW0.out, ← HW1.out]
  refine sb.mono ?_
  rintro e w1 ⟨rfl, hq⟩
  go_wp2_with fail
  go_ret
  exact ⟨rfl, (q0.tr q1).tr (hq.fr _)⟩
end Go.Proofs.YtfglibkffcogcaaGreat
