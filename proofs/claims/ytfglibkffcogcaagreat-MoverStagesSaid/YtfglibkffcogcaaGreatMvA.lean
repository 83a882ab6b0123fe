/- Movers: the law's turned and answered; what holds of a mover through all deeds. -/
import Derived.Test.YtfglibkffcogcaaGreatMoH
namespace Go.Proofs.YtfglibkffcogcaaGreat
open Go Go.RowKit

theorem ord_one (k : Value) (hk : k.oneCell' = true) (o : Ord) (A : Option Addr) (c : Nat) : (ordA k o A c).all (·.oneCell') = true := by
  rw [List.all_toArray]
  simp only [List.all_cons, List.all_nil, hk]
  rfl
theorem an_one (a : AnT) (A : Option Addr) (c : Nat) : (anA a A c).all (·.oneCell') = true := by
  rw [List.all_toArray]
  simp only [List.all_cons, List.all_nil]
  rfl
theorem rord_size : (Tryz.prog.info? 61).map (·.size) = some 13 := by kernel_rfl
theorem ran_size' : (Tryz.prog.info? 52).map (·.size) = some 9 := by kernel_rfl
abbrev zO : Array Value := #[I64 0, I64 0, I64 0, I64 0, .slice none 0 0, .bool false, .slice none 0 0, I64 0, I64 0, I64 0, .string ⟨#[]⟩, .string ⟨#[]⟩, .slice none 0 0]
set_option maxRecDepth 100000 in
set_option maxHeartbeats 2000000 in
theorem turned_any (w : World) (o : Ord) (hk : 0 ≤ o.kind ∧ o.kind ≤ 255) (A : Option Addr) (c : Nat) :
    Calls Tryz.prog 46 #[.agg (ordA (U8V o.kind) o A c)] w fun e w' => e = .returned (.agg (ordA (I64 o.kind) o A c)) ∧ Nw w w' := by
  obtain ⟨W0, hW0⟩ : ∃ W0, W0 = w.alloc (.cells (ordA (U8V o.kind) o A c) 68) := ⟨_, rfl⟩
  have q0 : Nw w W0 := by rw [hW0]; exact (Fr.refl (fun _ => False) w).alloc _
  have x0 : Blk W0 w.heap.size 68 (ordA (U8V o.kind) o A c) := by rw [hW0]; exact Blk.new w _ _
  have hz0 : W0.heap.size = w.heap.size + 1 := by rw [hW0]; simp
  obtain ⟨W1, hW1⟩ : ∃ W1, W1 = W0.alloc (.cells zO 61) := ⟨_, rfl⟩
  have q1 : Nw W0 W1 := by rw [hW1]; exact (Fr.refl (fun _ => False) W0).alloc _
  have y1 : Blk W1 (w.heap.size + 1) 61 zO := by rw [hW1, ← hz0]; exact Blk.new W0 _ _
  have x1 := x0.fr q1 (fun h => h)
  have b0 : W1.cell? ⟨w.heap.size, 0, none⟩ = some (.int .u8 o.kind) := by simpa using x1.cell 0
  have b1 : W1.cell? ⟨w.heap.size, 1, none⟩ = some (.int .i64 0) := by simpa using x1.cell 1
  have b2 : W1.cell? ⟨w.heap.size, 2, none⟩ = some (.int .i64 0) := by simpa using x1.cell 2
  have b3 : W1.cell? ⟨w.heap.size, 3, none⟩ = some (.int .i64 o.epoch) := by simpa using x1.cell 3
  have b4 : W1.cell? ⟨w.heap.size, 4, none⟩ = some (.slice none 0 0) := by simpa using x1.cell 4
  have b5 : W1.cell? ⟨w.heap.size, 5, none⟩ = some (.bool false) := by simpa using x1.cell 5
  have b6 : W1.cell? ⟨w.heap.size, 6, none⟩ = some (.slice none 0 0) := by simpa using x1.cell 6
  have b7 : W1.cell? ⟨w.heap.size, 7, none⟩ = some (.int .i64 o.num) := by simpa using x1.cell 7
  have b8 : W1.cell? ⟨w.heap.size, 8, none⟩ = some (.int .i64 o.stage) := by simpa using x1.cell 8
  have b9 : W1.cell? ⟨w.heap.size, 9, none⟩ = some (.int .i64 0) := by simpa using x1.cell 9
  have b10 : W1.cell? ⟨w.heap.size, 10, none⟩ = some (.string ⟨o.lo.toArray⟩) := by simpa using x1.cell 10
  have b11 : W1.cell? ⟨w.heap.size, 11, none⟩ = some (.string ⟨o.hi.toArray⟩) := by simpa using x1.cell 11
  have b12 : W1.cell? ⟨w.heap.size, 12, none⟩ = some (.slice A o.bytes.length c) := by simpa using x1.cell 12
  have hth := Blk.there y1 0 13 (by show 0 + 13 ≤ 13; omega)
  have hone := ord_one (I64 o.kind) rfl o A c
  obtain ⟨W2, hW2⟩ : ∃ W2, W2 = W1.setCells (w.heap.size + 1) 0 (ordA (I64 o.kind) o A c).toList := ⟨_, rfl⟩
  have y2 : Blk W2 (w.heap.size + 1) 61 (ordA (I64 o.kind) o A c) := by rw [hW2]; exact Blk.setCells y1 0 (ordA (I64 o.kind) o A c).toList
  have f2 : Fr (· = w.heap.size + 1) W1 W2 := by rw [hW2]; exact (Fr.refl _ W1).setCells _ _
  have hcv : IntKind.i64.wrap o.kind = o.kind := IntWalk.i64_in _ (by omega)
  have q2 : Nw w W2 := (q0.tr q1).new f2 (fun b hb => by omega)
  have HW0 := Lib.hid hW0
  have HW1 := Lib.hid hW1
  have HW2 := Lib.hid hW2
  clear hW0 hW1 hW2 x0 x1 y1
  go_enter Tryz.func46, Tryz.ntmps46
  go_upto_region 1 with (fail)
  rw [← HW0.out, ← HW1.out]
  go_upto_region 2 with (refine wpList_store_mid rfl 61 _ _ rfl (w.heap.size + 1) 0 (ordA (I64 o.kind) o A c) rfl rfl hth rord_size hone ?_)
  rw [← HW2.out]
  go_wp2_with fail
  refine bodyPost_ret (v := .agg (ordA (I64 o.kind) o A c)) ?_ rfl ?_
  · exact results_cell_row rfl _ _ (w.heap.size + 1) 61 _ (0, 0) _ rfl y2 Tryz.underlying61 rfl rord_size
  exact ⟨rfl, q2⟩
abbrev zA : Array Value := #[I64 0, I64 0, I64 0, .bool false, .bool false, .slice none 0 0, I64 0, I64 0, .slice none 0 0]
set_option maxRecDepth 100000 in
set_option maxHeartbeats 2000000 in
theorem answered_any (w : World) (a : AnT) (A : Option Addr) (c : Nat) :
    Calls Tryz.prog 15 #[.agg (anA a A c)] w fun e w' => e = .returned (.agg (anA a A c)) ∧ Nw w w' := by
  obtain ⟨W0, hW0⟩ : ∃ W0, W0 = w.alloc (.cells (anA a A c) 41) := ⟨_, rfl⟩
  have q0 : Nw w W0 := by rw [hW0]; exact (Fr.refl (fun _ => False) w).alloc _
  have x0 : Blk W0 w.heap.size 41 (anA a A c) := by rw [hW0]; exact Blk.new w _ _
  have hz0 : W0.heap.size = w.heap.size + 1 := by rw [hW0]; simp
  obtain ⟨W1, hW1⟩ : ∃ W1, W1 = W0.alloc (.cells zA 52) := ⟨_, rfl⟩
  have q1 : Nw W0 W1 := by rw [hW1]; exact (Fr.refl (fun _ => False) W0).alloc _
  have y1 : Blk W1 (w.heap.size + 1) 52 zA := by rw [hW1, ← hz0]; exact Blk.new W0 _ _
  have x1 := x0.fr q1 (fun h => h)
  have b0 : W1.cell? ⟨w.heap.size, 0, none⟩ = some (.int .i64 a.err) := by simpa using x1.cell 0
  have b1 : W1.cell? ⟨w.heap.size, 1, none⟩ = some (.int .i64 a.n1) := by simpa using x1.cell 1
  have b2 : W1.cell? ⟨w.heap.size, 2, none⟩ = some (.int .i64 a.n2) := by simpa using x1.cell 2
  have b3 : W1.cell? ⟨w.heap.size, 3, none⟩ = some (.bool a.is) := by simpa using x1.cell 3
  have b4 : W1.cell? ⟨w.heap.size, 4, none⟩ = some (.bool a.cm) := by simpa using x1.cell 4
  have b5 : W1.cell? ⟨w.heap.size, 5, none⟩ = some (.slice a.Ar a.nr a.cr) := by simpa using x1.cell 5
  have b6 : W1.cell? ⟨w.heap.size, 6, none⟩ = some (.int .i64 a.sc) := by simpa using x1.cell 6
  have b7 : W1.cell? ⟨w.heap.size, 7, none⟩ = some (.int .i64 a.st) := by simpa using x1.cell 7
  have b8 : W1.cell? ⟨w.heap.size, 8, none⟩ = some (.slice A a.bytes.length c) := by simpa using x1.cell 8
  have hth := Blk.there y1 0 9 (by show 0 + 9 ≤ 9; omega)
  have hone := an_one a A c
  obtain ⟨W2, hW2⟩ : ∃ W2, W2 = W1.setCells (w.heap.size + 1) 0 (anA a A c).toList := ⟨_, rfl⟩
  have y2 : Blk W2 (w.heap.size + 1) 52 (anA a A c) := by rw [hW2]; exact Blk.setCells y1 0 (anA a A c).toList
  have f2 : Fr (· = w.heap.size + 1) W1 W2 := by rw [hW2]; exact (Fr.refl _ W1).setCells _ _
  have q2 : Nw w W2 := (q0.tr q1).new f2 (fun b hb => by omega)
  have HW0 := Lib.hid hW0
  have HW1 := Lib.hid hW1
  have HW2 := Lib.hid hW2
  clear hW0 hW1 hW2 x0 x1 y1
  go_enter Tryz.func15, Tryz.ntmps15
  go_upto_region 1 with (fail)
  rw [← HW0.out, ← HW1.out]
  go_upto_region 2 with (refine wpList_store_mid rfl 52 _ _ rfl (w.heap.size + 1) 0 (anA a A c) rfl rfl hth ran_size' hone ?_)
  rw [← HW2.out]
  go_wp2_with fail
  refine bodyPost_ret (v := .agg (anA a A c)) ?_ rfl ?_
  · exact results_cell_row rfl _ _ (w.heap.size + 1) 52 _ (0, 0) _ rfl y2 Tryz.underlying52 rfl ran_size'
  exact ⟨rfl, q2⟩
end Go.Proofs.YtfglibkffcogcaaGreat
