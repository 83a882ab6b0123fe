/- Orders: their parts, held and taken over. (Printed by genodp.py.) -/
import Derived.Test.YtkjnlhidnkbelaaGreatDoorOdC
namespace Go.Proofs.YtkjnlhidnkbelaaGreatDoor
open Go Go.RowKit

/-- What a part does: it tells whether it is right, and takes it over. -/
def PartTo (w : World) (g : Nat) (k : Int) (ok : Bool) (y : OrdF) (q : Pl) (e : Ending) (w' : World) : Prop :=
  e = .returned (.bool ok) ∧ Blk w' g 31 (ofA (U8V k) y q) ∧ Fr (· = g) w w'
set_option maxRecDepth 100000 in
set_option maxHeartbeats 1000000 in
theorem op_name (w : World) (g : Nat) (k : Int) (x y : OrdF) (p q : Pl) (hb : Blk w g 31 (ofA (U8V k) y q)) :
    Calls Tryz.prog 139 #[.agg (ofA (U8V k) x p), .pointer (some ⟨g, 0, none⟩)] w fun e w' => PartTo w g k (partOk x .name) (partTo x y .name) (plTo p q .name) e w' := by
  obtain ⟨W0, hW0⟩ : ∃ W0, W0 = w.alloc (.cells (ofA (U8V k) x p) 31) := ⟨_, rfl⟩
  have q0 : Nw w W0 := by rw [hW0]; exact (Fr.refl (fun _ => False) w).alloc _
  have x0 : Blk W0 w.heap.size 31 (ofA (U8V k) x p) := by rw [hW0]; exact Blk.new w _ _
  have b0 := hb.fr q0 (fun h => h)
  have hgl := hb.lt
  have cg1 : W0.cell? ⟨g, 1, none⟩ = some (I64 y.nm.1) := by simpa using b0.cell 1
  have fg1 := b0.frozen 1
  have cx1 : W0.cell? ⟨w.heap.size, 1, none⟩ = some (I64 x.nm.1) := by simpa using x0.cell 1
  have cg2 : W0.cell? ⟨g, 2, none⟩ = some (I64 y.nm.2) := by simpa using b0.cell 2
  have fg2 := b0.frozen 2
  have cx2 : W0.cell? ⟨w.heap.size, 2, none⟩ = some (I64 x.nm.2) := by simpa using x0.cell 2
  obtain ⟨W1, hW1⟩ : ∃ W1, W1 = (W0.setCell ⟨g, 1, none⟩ (I64 x.nm.1)).setCell ⟨g, 2, none⟩ (I64 x.nm.2) := ⟨_, rfl⟩
  have f1 : Fr (· = g) w W1 := by rw [hW1]; exact (((Nw.on q0).set1 _ _).set1 _ _)
  have b1 : Blk W1 g 31 (ofA (U8V k) (partTo x y .name) (plTo p q .name)) := by rw [hW1]; exact ((b0.set_ 1 _).set_ 2 _)
  have x1 : Blk W1 w.heap.size 31 (ofA (U8V k) x p) := by rw [hW1]; exact ((x0.far (by simp; omega) _).far (by simp; omega) _)
  have dx1 : W1.cell? ⟨w.heap.size, 1, none⟩ = some (I64 x.nm.1) := by simpa using x1.cell 1
  have dx2 : W1.cell? ⟨w.heap.size, 2, none⟩ = some (I64 x.nm.2) := by simpa using x1.cell 2
  have hwi := actName_any W1 x.nm
  have HW0 := Lib.hid hW0
  have HW1 := Lib.hid hW1
  clear hW0 hW1
  go_enter Tryz.func139, Tryz.ntmps139
  go_upto_region 1 with (fail)
  rw [← HW0.out]
  go_upto_region 2 with (fail)
  rw [← HW1.out]
  go_wp2_with fail
  refine hwi.mono ?_
  rintro e w2 ⟨rfl, q2⟩
  go_wp2_with fail
  go_ret
  exact ⟨(by first | rfl | simp [partOk]), b1.fr q2 (fun h => h), f1.tr (Nw.on q2)⟩
set_option maxRecDepth 100000 in
set_option maxHeartbeats 1000000 in
theorem op_epoch (w : World) (g : Nat) (k : Int) (x y : OrdF) (p q : Pl) (hb : Blk w g 31 (ofA (U8V k) y q)) :
    Calls Tryz.prog 140 #[.agg (ofA (U8V k) x p), .pointer (some ⟨g, 0, none⟩)] w fun e w' => PartTo w g k (partOk x .epoch) (partTo x y .epoch) (plTo p q .epoch) e w' := by
  obtain ⟨W0, hW0⟩ : ∃ W0, W0 = w.alloc (.cells (ofA (U8V k) x p) 31) := ⟨_, rfl⟩
  have q0 : Nw w W0 := by rw [hW0]; exact (Fr.refl (fun _ => False) w).alloc _
  have x0 : Blk W0 w.heap.size 31 (ofA (U8V k) x p) := by rw [hW0]; exact Blk.new w _ _
  have b0 := hb.fr q0 (fun h => h)
  have hgl := hb.lt
  have cg3 : W0.cell? ⟨g, 3, none⟩ = some (I64 y.epoch) := by simpa using b0.cell 3
  have fg3 := b0.frozen 3
  have cx3 : W0.cell? ⟨w.heap.size, 3, none⟩ = some (I64 x.epoch) := by simpa using x0.cell 3
  obtain ⟨W1, hW1⟩ : ∃ W1, W1 = W0.setCell ⟨g, 3, none⟩ (I64 x.epoch) := ⟨_, rfl⟩
  have f1 : Fr (· = g) w W1 := by rw [hW1]; exact ((Nw.on q0).set1 _ _)
  have b1 : Blk W1 g 31 (ofA (U8V k) (partTo x y .epoch) (plTo p q .epoch)) := by rw [hW1]; exact (b0.set_ 3 _)
  have x1 : Blk W1 w.heap.size 31 (ofA (U8V k) x p) := by rw [hW1]; exact (x0.far (by simp; omega) _)
  have dx3 : W1.cell? ⟨w.heap.size, 3, none⟩ = some (I64 x.epoch) := by simpa using x1.cell 3
  have hwi := owithin_any W1 0 x.epoch 1073741824
  have HW0 := Lib.hid hW0
  have HW1 := Lib.hid hW1
  clear hW0 hW1
  go_enter Tryz.func140, Tryz.ntmps140
  go_upto_region 1 with (fail)
  rw [← HW0.out]
  go_upto_region 2 with (fail)
  rw [← HW1.out]
  go_wp2_with fail
  refine hwi.mono ?_
  rintro e w2 ⟨rfl, q2⟩
  go_wp2_with fail
  go_ret
  exact ⟨(by first | rfl | simp [partOk]), b1.fr q2 (fun h => h), f1.tr (Nw.on q2)⟩
set_option maxRecDepth 100000 in
set_option maxHeartbeats 1000000 in
theorem op_acts (w : World) (g : Nat) (k : Int) (x y : OrdF) (p q : Pl) (hb : Blk w g 31 (ofA (U8V k) y q)) (F : Nat → Prop) (hi : OrdIn w F x p) (hFg : ∀ j, F j → ¬ j = g) (hz : OrdSz x) :
    Calls Tryz.prog 141 #[.agg (ofA (U8V k) x p), .pointer (some ⟨g, 0, none⟩)] w fun e w' => PartTo w g k (partOk x .acts) (partTo x y .acts) (plTo p q .acts) e w' := by
  obtain ⟨W0, hW0⟩ : ∃ W0, W0 = w.alloc (.cells (ofA (U8V k) x p) 31) := ⟨_, rfl⟩
  have q0 : Nw w W0 := by rw [hW0]; exact (Fr.refl (fun _ => False) w).alloc _
  have x0 : Blk W0 w.heap.size 31 (ofA (U8V k) x p) := by rw [hW0]; exact Blk.new w _ _
  have b0 := hb.fr q0 (fun h => h)
  have hgl := hb.lt
  have cg4 : W0.cell? ⟨g, 4, none⟩ = some (.slice q.a y.acts.length q.ca) := by simpa using b0.cell 4
  have fg4 := b0.frozen 4
  have cx4 : W0.cell? ⟨w.heap.size, 4, none⟩ = some (.slice p.a x.acts.length p.ca) := by simpa using x0.cell 4
  obtain ⟨W1, hW1⟩ : ∃ W1, W1 = W0.setCell ⟨g, 4, none⟩ (.slice p.a x.acts.length p.ca) := ⟨_, rfl⟩
  have f1 : Fr (· = g) w W1 := by rw [hW1]; exact ((Nw.on q0).set1 _ _)
  have b1 : Blk W1 g 31 (ofA (U8V k) (partTo x y .acts) (plTo p q .acts)) := by rw [hW1]; exact (b0.set_ 4 _)
  have x1 : Blk W1 w.heap.size 31 (ofA (U8V k) x p) := by rw [hW1]; exact (x0.far (by simp; omega) _)
  have dx4 : W1.cell? ⟨w.heap.size, 4, none⟩ = some (.slice p.a x.acts.length p.ca) := by simpa using x1.cell 4
  have hwi := actRight_any W1 F p.a p.ca x.acts (hi.acts.fr f1 hFg) hz.acts.1 hz.acts.2
  have HW0 := Lib.hid hW0
  have HW1 := Lib.hid hW1
  clear hW0 hW1
  go_enter Tryz.func141, Tryz.ntmps141
  go_upto_region 1 with (fail)
  rw [← HW0.out]
  go_upto_region 2 with (fail)
  rw [← HW1.out]
  go_wp2_with fail
  refine hwi.mono ?_
  rintro e w2 ⟨rfl, q2⟩
  go_wp2_with fail
  go_ret
  exact ⟨(by first | rfl | simp [partOk]), b1.fr q2 (fun h => h), f1.tr (Nw.on q2)⟩
set_option maxRecDepth 100000 in
set_option maxHeartbeats 1000000 in
theorem op_commit (w : World) (g : Nat) (k : Int) (x y : OrdF) (p q : Pl) (hb : Blk w g 31 (ofA (U8V k) y q)) :
    Calls Tryz.prog 142 #[.agg (ofA (U8V k) x p), .pointer (some ⟨g, 0, none⟩)] w fun e w' => PartTo w g k (partOk x .commit) (partTo x y .commit) (plTo p q .commit) e w' := by
  obtain ⟨W0, hW0⟩ : ∃ W0, W0 = w.alloc (.cells (ofA (U8V k) x p) 31) := ⟨_, rfl⟩
  have q0 : Nw w W0 := by rw [hW0]; exact (Fr.refl (fun _ => False) w).alloc _
  have x0 : Blk W0 w.heap.size 31 (ofA (U8V k) x p) := by rw [hW0]; exact Blk.new w _ _
  have b0 := hb.fr q0 (fun h => h)
  have hgl := hb.lt
  have cg5 : W0.cell? ⟨g, 5, none⟩ = some (.bool y.commit) := by simpa using b0.cell 5
  have fg5 := b0.frozen 5
  have cx5 : W0.cell? ⟨w.heap.size, 5, none⟩ = some (.bool x.commit) := by simpa using x0.cell 5
  obtain ⟨W1, hW1⟩ : ∃ W1, W1 = W0.setCell ⟨g, 5, none⟩ (.bool x.commit) := ⟨_, rfl⟩
  have f1 : Fr (· = g) w W1 := by rw [hW1]; exact ((Nw.on q0).set1 _ _)
  have b1 : Blk W1 g 31 (ofA (U8V k) (partTo x y .commit) (plTo p q .commit)) := by rw [hW1]; exact (b0.set_ 5 _)
  have x1 : Blk W1 w.heap.size 31 (ofA (U8V k) x p) := by rw [hW1]; exact (x0.far (by simp; omega) _)
  have dx5 : W1.cell? ⟨w.heap.size, 5, none⟩ = some (.bool x.commit) := by simpa using x1.cell 5
  have HW0 := Lib.hid hW0
  have HW1 := Lib.hid hW1
  clear hW0 hW1
  go_enter Tryz.func142, Tryz.ntmps142
  go_upto_region 1 with (fail)
  rw [← HW0.out]
  go_upto_region 2 with (fail)
  rw [← HW1.out]
  go_wp2_with fail
  go_ret
  exact ⟨rfl, b1, f1⟩
set_option maxRecDepth 100000 in
set_option maxHeartbeats 1000000 in
theorem op_reads (w : World) (g : Nat) (k : Int) (x y : OrdF) (p q : Pl) (hb : Blk w g 31 (ofA (U8V k) y q)) (F : Nat → Prop) (hi : OrdIn w F x p) (hFg : ∀ j, F j → ¬ j = g) (hz : OrdSz x) :
    Calls Tryz.prog 146 #[.agg (ofA (U8V k) x p), .pointer (some ⟨g, 0, none⟩)] w fun e w' => PartTo w g k (partOk x .reads) (partTo x y .reads) (plTo p q .reads) e w' := by
  obtain ⟨W0, hW0⟩ : ∃ W0, W0 = w.alloc (.cells (ofA (U8V k) x p) 31) := ⟨_, rfl⟩
  have q0 : Nw w W0 := by rw [hW0]; exact (Fr.refl (fun _ => False) w).alloc _
  have x0 : Blk W0 w.heap.size 31 (ofA (U8V k) x p) := by rw [hW0]; exact Blk.new w _ _
  have b0 := hb.fr q0 (fun h => h)
  have hgl := hb.lt
  have cg6 : W0.cell? ⟨g, 6, none⟩ = some (.slice q.r y.reads.length q.cr) := by simpa using b0.cell 6
  have fg6 := b0.frozen 6
  have cx6 : W0.cell? ⟨w.heap.size, 6, none⟩ = some (.slice p.r x.reads.length p.cr) := by simpa using x0.cell 6
  obtain ⟨W1, hW1⟩ : ∃ W1, W1 = W0.setCell ⟨g, 6, none⟩ (.slice p.r x.reads.length p.cr) := ⟨_, rfl⟩
  have f1 : Fr (· = g) w W1 := by rw [hW1]; exact ((Nw.on q0).set1 _ _)
  have b1 : Blk W1 g 31 (ofA (U8V k) (partTo x y .reads) (plTo p q .reads)) := by rw [hW1]; exact (b0.set_ 6 _)
  have x1 : Blk W1 w.heap.size 31 (ofA (U8V k) x p) := by rw [hW1]; exact (x0.far (by simp; omega) _)
  have dx6 : W1.cell? ⟨w.heap.size, 6, none⟩ = some (.slice p.r x.reads.length p.cr) := by simpa using x1.cell 6
  have dx5 : W1.cell? ⟨w.heap.size, 5, none⟩ = some (.bool x.commit) := by simpa using x1.cell 5
  have hwi := told_any W1 F x.commit p.r p.cr x.reads (hi.reads.fr f1 hFg) hi.cr hz.reads
  have HW0 := Lib.hid hW0
  have HW1 := Lib.hid hW1
  clear hW0 hW1
  go_enter Tryz.func146, Tryz.ntmps146
  go_upto_region 1 with (fail)
  rw [← HW0.out]
  go_upto_region 2 with (fail)
  rw [← HW1.out]
  go_wp2_with fail
  refine hwi.mono ?_
  rintro e w2 ⟨rfl, q2⟩
  go_wp2_with fail
  go_ret
  exact ⟨(by first | rfl | simp [partOk]), b1.fr q2 (fun h => h), f1.tr (Nw.on q2)⟩
set_option maxRecDepth 100000 in
set_option maxHeartbeats 1000000 in
theorem op_scheme (w : World) (g : Nat) (k : Int) (x y : OrdF) (p q : Pl) (hb : Blk w g 31 (ofA (U8V k) y q)) :
    Calls Tryz.prog 143 #[.agg (ofA (U8V k) x p), .pointer (some ⟨g, 0, none⟩)] w fun e w' => PartTo w g k (partOk x .scheme) (partTo x y .scheme) (plTo p q .scheme) e w' := by
  obtain ⟨W0, hW0⟩ : ∃ W0, W0 = w.alloc (.cells (ofA (U8V k) x p) 31) := ⟨_, rfl⟩
  have q0 : Nw w W0 := by rw [hW0]; exact (Fr.refl (fun _ => False) w).alloc _
  have x0 : Blk W0 w.heap.size 31 (ofA (U8V k) x p) := by rw [hW0]; exact Blk.new w _ _
  have b0 := hb.fr q0 (fun h => h)
  have hgl := hb.lt
  have cg7 : W0.cell? ⟨g, 7, none⟩ = some (I64 y.scheme) := by simpa using b0.cell 7
  have fg7 := b0.frozen 7
  have cx7 : W0.cell? ⟨w.heap.size, 7, none⟩ = some (I64 x.scheme) := by simpa using x0.cell 7
  obtain ⟨W1, hW1⟩ : ∃ W1, W1 = W0.setCell ⟨g, 7, none⟩ (I64 x.scheme) := ⟨_, rfl⟩
  have f1 : Fr (· = g) w W1 := by rw [hW1]; exact ((Nw.on q0).set1 _ _)
  have b1 : Blk W1 g 31 (ofA (U8V k) (partTo x y .scheme) (plTo p q .scheme)) := by rw [hW1]; exact (b0.set_ 7 _)
  have x1 : Blk W1 w.heap.size 31 (ofA (U8V k) x p) := by rw [hW1]; exact (x0.far (by simp; omega) _)
  have dx7 : W1.cell? ⟨w.heap.size, 7, none⟩ = some (I64 x.scheme) := by simpa using x1.cell 7
  have hwi := owithin_any W1 1 x.scheme 1073741824
  have HW0 := Lib.hid hW0
  have HW1 := Lib.hid hW1
  clear hW0 hW1
  go_enter Tryz.func143, Tryz.ntmps143
  go_upto_region 1 with (fail)
  rw [← HW0.out]
  go_upto_region 2 with (fail)
  rw [← HW1.out]
  go_wp2_with fail
  refine hwi.mono ?_
  rintro e w2 ⟨rfl, q2⟩
  go_wp2_with fail
  go_ret
  exact ⟨(by first | rfl | simp [partOk]), b1.fr q2 (fun h => h), f1.tr (Nw.on q2)⟩
set_option maxRecDepth 100000 in
set_option maxHeartbeats 1000000 in
theorem op_stage (w : World) (g : Nat) (k : Int) (x y : OrdF) (p q : Pl) (hb : Blk w g 31 (ofA (U8V k) y q)) :
    Calls Tryz.prog 148 #[.agg (ofA (U8V k) x p), .pointer (some ⟨g, 0, none⟩)] w fun e w' => PartTo w g k (partOk x .stage) (partTo x y .stage) (plTo p q .stage) e w' := by
  obtain ⟨W0, hW0⟩ : ∃ W0, W0 = w.alloc (.cells (ofA (U8V k) x p) 31) := ⟨_, rfl⟩
  have q0 : Nw w W0 := by rw [hW0]; exact (Fr.refl (fun _ => False) w).alloc _
  have x0 : Blk W0 w.heap.size 31 (ofA (U8V k) x p) := by rw [hW0]; exact Blk.new w _ _
  have b0 := hb.fr q0 (fun h => h)
  have hgl := hb.lt
  have cg8 : W0.cell? ⟨g, 8, none⟩ = some (I64 y.stage) := by simpa using b0.cell 8
  have fg8 := b0.frozen 8
  have cx8 : W0.cell? ⟨w.heap.size, 8, none⟩ = some (I64 x.stage) := by simpa using x0.cell 8
  obtain ⟨W1, hW1⟩ : ∃ W1, W1 = W0.setCell ⟨g, 8, none⟩ (I64 x.stage) := ⟨_, rfl⟩
  have f1 : Fr (· = g) w W1 := by rw [hW1]; exact ((Nw.on q0).set1 _ _)
  have b1 : Blk W1 g 31 (ofA (U8V k) (partTo x y .stage) (plTo p q .stage)) := by rw [hW1]; exact (b0.set_ 8 _)
  have x1 : Blk W1 w.heap.size 31 (ofA (U8V k) x p) := by rw [hW1]; exact (x0.far (by simp; omega) _)
  have dx8 : W1.cell? ⟨w.heap.size, 8, none⟩ = some (I64 x.stage) := by simpa using x1.cell 8
  have hwi := owithin_any W1 0 x.stage 20
  have HW0 := Lib.hid hW0
  have HW1 := Lib.hid hW1
  clear hW0 hW1
  go_enter Tryz.func148, Tryz.ntmps148
  go_upto_region 1 with (fail)
  rw [← HW0.out]
  go_upto_region 2 with (fail)
  rw [← HW1.out]
  go_wp2_with fail
  refine hwi.mono ?_
  rintro e w2 ⟨rfl, q2⟩
  go_wp2_with fail
  go_ret
  exact ⟨(by first | rfl | simp [partOk]), b1.fr q2 (fun h => h), f1.tr (Nw.on q2)⟩
set_option maxRecDepth 100000 in
set_option maxHeartbeats 1000000 in
theorem op_group (w : World) (g : Nat) (k : Int) (x y : OrdF) (p q : Pl) (hb : Blk w g 31 (ofA (U8V k) y q)) :
    Calls Tryz.prog 147 #[.agg (ofA (U8V k) x p), .pointer (some ⟨g, 0, none⟩)] w fun e w' => PartTo w g k (partOk x .group) (partTo x y .group) (plTo p q .group) e w' := by
  obtain ⟨W0, hW0⟩ : ∃ W0, W0 = w.alloc (.cells (ofA (U8V k) x p) 31) := ⟨_, rfl⟩
  have q0 : Nw w W0 := by rw [hW0]; exact (Fr.refl (fun _ => False) w).alloc _
  have x0 : Blk W0 w.heap.size 31 (ofA (U8V k) x p) := by rw [hW0]; exact Blk.new w _ _
  have b0 := hb.fr q0 (fun h => h)
  have hgl := hb.lt
  have cg9 : W0.cell? ⟨g, 9, none⟩ = some (I64 y.to) := by simpa using b0.cell 9
  have fg9 := b0.frozen 9
  have cx9 : W0.cell? ⟨w.heap.size, 9, none⟩ = some (I64 x.to) := by simpa using x0.cell 9
  obtain ⟨W1, hW1⟩ : ∃ W1, W1 = W0.setCell ⟨g, 9, none⟩ (I64 x.to) := ⟨_, rfl⟩
  have f1 : Fr (· = g) w W1 := by rw [hW1]; exact ((Nw.on q0).set1 _ _)
  have b1 : Blk W1 g 31 (ofA (U8V k) (partTo x y .group) (plTo p q .group)) := by rw [hW1]; exact (b0.set_ 9 _)
  have x1 : Blk W1 w.heap.size 31 (ofA (U8V k) x p) := by rw [hW1]; exact (x0.far (by simp; omega) _)
  have dx9 : W1.cell? ⟨w.heap.size, 9, none⟩ = some (I64 x.to) := by simpa using x1.cell 9
  have hwi := owithin_any W1 1 x.to 4
  have HW0 := Lib.hid hW0
  have HW1 := Lib.hid hW1
  clear hW0 hW1
  go_enter Tryz.func147, Tryz.ntmps147
  go_upto_region 1 with (fail)
  rw [← HW0.out]
  go_upto_region 2 with (fail)
  rw [← HW1.out]
  go_wp2_with fail
  refine hwi.mono ?_
  rintro e w2 ⟨rfl, q2⟩
  go_wp2_with fail
  go_ret
  exact ⟨(by first | rfl | simp [partOk]), b1.fr q2 (fun h => h), f1.tr (Nw.on q2)⟩
set_option maxRecDepth 100000 in
set_option maxHeartbeats 1000000 in
theorem op_stretch (w : World) (g : Nat) (k : Int) (x y : OrdF) (p q : Pl) (hb : Blk w g 31 (ofA (U8V k) y q)) (hz : OrdSz x) :
    Calls Tryz.prog 144 #[.agg (ofA (U8V k) x p), .pointer (some ⟨g, 0, none⟩)] w fun e w' => PartTo w g k (partOk x .stretch) (partTo x y .stretch) (plTo p q .stretch) e w' := by
  obtain ⟨W0, hW0⟩ : ∃ W0, W0 = w.alloc (.cells (ofA (U8V k) x p) 31) := ⟨_, rfl⟩
  have q0 : Nw w W0 := by rw [hW0]; exact (Fr.refl (fun _ => False) w).alloc _
  have x0 : Blk W0 w.heap.size 31 (ofA (U8V k) x p) := by rw [hW0]; exact Blk.new w _ _
  have b0 := hb.fr q0 (fun h => h)
  have hgl := hb.lt
  have cg10 : W0.cell? ⟨g, 10, none⟩ = some (StrV y.lo) := by simpa using b0.cell 10
  have fg10 := b0.frozen 10
  have cx10 : W0.cell? ⟨w.heap.size, 10, none⟩ = some (StrV x.lo) := by simpa using x0.cell 10
  have cg11 : W0.cell? ⟨g, 11, none⟩ = some (StrV y.hi) := by simpa using b0.cell 11
  have fg11 := b0.frozen 11
  have cx11 : W0.cell? ⟨w.heap.size, 11, none⟩ = some (StrV x.hi) := by simpa using x0.cell 11
  obtain ⟨W1, hW1⟩ : ∃ W1, W1 = (W0.setCell ⟨g, 10, none⟩ (StrV x.lo)).setCell ⟨g, 11, none⟩ (StrV x.hi) := ⟨_, rfl⟩
  have f1 : Fr (· = g) w W1 := by rw [hW1]; exact (((Nw.on q0).set1 _ _).set1 _ _)
  have b1 : Blk W1 g 31 (ofA (U8V k) (partTo x y .stretch) (plTo p q .stretch)) := by rw [hW1]; exact ((b0.set_ 10 _).set_ 11 _)
  have x1 : Blk W1 w.heap.size 31 (ofA (U8V k) x p) := by rw [hW1]; exact ((x0.far (by simp; omega) _).far (by simp; omega) _)
  have dx10 : W1.cell? ⟨w.heap.size, 10, none⟩ = some (StrV x.lo) := by simpa using x1.cell 10
  have dx11 : W1.cell? ⟨w.heap.size, 11, none⟩ = some (StrV x.hi) := by simpa using x1.cell 11
  have hwi := spanRight_any W1 x.lo x.hi hz.lo hz.hi
  have HW0 := Lib.hid hW0
  have HW1 := Lib.hid hW1
  clear hW0 hW1
  go_enter Tryz.func144, Tryz.ntmps144
  go_upto_region 1 with (fail)
  rw [← HW0.out]
  go_upto_region 2 with (fail)
  rw [← HW1.out]
  go_wp2_with fail
  refine hwi.mono ?_
  rintro e w2 ⟨rfl, q2⟩
  go_wp2_with fail
  go_ret
  exact ⟨(by first | rfl | simp [partOk]), b1.fr q2 (fun h => h), f1.tr (Nw.on q2)⟩
set_option maxRecDepth 100000 in
set_option maxHeartbeats 1000000 in
theorem op_load (w : World) (g : Nat) (k : Int) (x y : OrdF) (p q : Pl) (hb : Blk w g 31 (ofA (U8V k) y q)) :
    Calls Tryz.prog 145 #[.agg (ofA (U8V k) x p), .pointer (some ⟨g, 0, none⟩)] w fun e w' => PartTo w g k (partOk x .load) (partTo x y .load) (plTo p q .load) e w' := by
  obtain ⟨W0, hW0⟩ : ∃ W0, W0 = w.alloc (.cells (ofA (U8V k) x p) 31) := ⟨_, rfl⟩
  have q0 : Nw w W0 := by rw [hW0]; exact (Fr.refl (fun _ => False) w).alloc _
  have x0 : Blk W0 w.heap.size 31 (ofA (U8V k) x p) := by rw [hW0]; exact Blk.new w _ _
  have b0 := hb.fr q0 (fun h => h)
  have hgl := hb.lt
  have cg12 : W0.cell? ⟨g, 12, none⟩ = some (.slice q.b y.bytes.length q.cb) := by simpa using b0.cell 12
  have fg12 := b0.frozen 12
  have cx12 : W0.cell? ⟨w.heap.size, 12, none⟩ = some (.slice p.b x.bytes.length p.cb) := by simpa using x0.cell 12
  obtain ⟨W1, hW1⟩ : ∃ W1, W1 = W0.setCell ⟨g, 12, none⟩ (.slice p.b x.bytes.length p.cb) := ⟨_, rfl⟩
  have f1 : Fr (· = g) w W1 := by rw [hW1]; exact ((Nw.on q0).set1 _ _)
  have b1 : Blk W1 g 31 (ofA (U8V k) (partTo x y .load) (plTo p q .load)) := by rw [hW1]; exact (b0.set_ 12 _)
  have x1 : Blk W1 w.heap.size 31 (ofA (U8V k) x p) := by rw [hW1]; exact (x0.far (by simp; omega) _)
  have dx12 : W1.cell? ⟨w.heap.size, 12, none⟩ = some (.slice p.b x.bytes.length p.cb) := by simpa using x1.cell 12
  obtain ⟨bn, hbn⟩ : ∃ bn, partOk x .load = bn := ⟨_, rfl⟩
  have hbd : decide ((x.bytes.length : Int) ≤ 65536) = bn := by rw [← hbn]; show decide _ = decide _; congr 1; apply propext; omega
  rw [hbn]
  clear hbn
  have HW0 := Lib.hid hW0
  have HW1 := Lib.hid hW1
  clear hW0 hW1
  go_enter Tryz.func145, Tryz.ntmps145
  go_upto_region 1 with (fail)
  rw [← HW0.out]
  go_upto_region 2 with (fail)
  rw [← HW1.out]
  go_wp2_with fail
  go_ret
  exact ⟨by rw [← hbd]; simp, b1, f1⟩
end Go.Proofs.YtkjnlhidnkbelaaGreatDoor
