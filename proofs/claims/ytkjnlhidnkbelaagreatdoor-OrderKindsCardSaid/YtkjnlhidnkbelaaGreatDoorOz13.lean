/- Lemmas of the walks: OfB, OfC. (Laid together by shake.py.) -/
import Derived.Test.YtkjnlhidnkbelaaGreatDoorOz12
set_option linter.unusedVariables false
set_option linter.unusedSimpArgs false
namespace Go.Proofs.YtkjnlhidnkbelaaGreatDoor
open Go Go.RowKit
set_option linter.unusedVariables false
set_option linter.unusedSimpArgs false
/-- The sign of a part. -/
def sgn : Part → UInt8
  | .name => 110
  | .epoch => 101
  | .acts => 97
  | .commit => 99
  | .reads => 114
  | .scheme => 115
  | .stage => 116
  | .group => 111
  | .stretch => 112
  | .load => 98
def signs (l : List Part) : List UInt8 := l.map sgn
theorem rdgs_ref (cm : Bool) (l : List Rdg) : rdgsOk cm l = ((decide (l.length ≤ 6) && l.all rdgOk) && (cm || decide (l = []))) := by
  unfold rdgsOk
  cases decide (l.length ≤ 6) <;> cases l.all rdgOk <;> cases cm <;> cases decide (l = []) <;> rfl
set_option maxRecDepth 100000 in
set_option maxHeartbeats 1000000 in
theorem rp_name (w : World) (F : Nat → Prop) (k : Int) (x : OrdF) (p : Pl) (hi : OrdIn w F x p) (hz : OrdSz x) :
    Calls Tryz.prog 82 #[.agg (ofA (I64 k) x p), .int .u8 110] w fun e w' => e = .returned (.bool (partOk x .name)) ∧ Nw w w' := by
  obtain ⟨W0, hW0⟩ : ∃ W0, W0 = w.alloc (.cells (ofA (I64 k) x p) 55) := ⟨_, rfl⟩
  have q0 : Nw w W0 := by rw [hW0]; exact (Fr.refl (fun _ => False) w).alloc _
  have x0 : Blk W0 w.heap.size 55 (ofA (I64 k) x p) := by rw [hW0]; exact Blk.new w _ _
  have c1 : W0.cell? ⟨w.heap.size, 1, none⟩ = some (I64 x.nm.1) := by simpa using x0.cell 1
  have c2 : W0.cell? ⟨w.heap.size, 2, none⟩ = some (I64 x.nm.2) := by simpa using x0.cell 2
  have hcon := refName_any W0 x.nm
  have hp : partOk x .name = decide (nmOk x.nm) := rfl
  rw [← hp] at hcon
  generalize partOk x .name = res at hcon ⊢
  have HW0 := Lib.hid hW0
  clear hW0 x0
  go_enter Tryz.func82, Tryz.ntmps82
  go_upto_region 1 with (fail)
  rw [← HW0.out]
  go_wp2_with (go_at_call 86; refine hcon.mono ?_; rintro e w1 ⟨rfl, q1⟩)
  go_ret
  exact ⟨rfl, q0.tr q1⟩
set_option maxRecDepth 100000 in
set_option maxHeartbeats 1000000 in
theorem rp_epoch (w : World) (F : Nat → Prop) (k : Int) (x : OrdF) (p : Pl) (hi : OrdIn w F x p) (hz : OrdSz x) :
    Calls Tryz.prog 82 #[.agg (ofA (I64 k) x p), .int .u8 101] w fun e w' => e = .returned (.bool (partOk x .epoch)) ∧ Nw w w' := by
  obtain ⟨W0, hW0⟩ : ∃ W0, W0 = w.alloc (.cells (ofA (I64 k) x p) 55) := ⟨_, rfl⟩
  have q0 : Nw w W0 := by rw [hW0]; exact (Fr.refl (fun _ => False) w).alloc _
  have x0 : Blk W0 w.heap.size 55 (ofA (I64 k) x p) := by rw [hW0]; exact Blk.new w _ _
  have c3 : W0.cell? ⟨w.heap.size, 3, none⟩ = some (I64 x.epoch) := by simpa using x0.cell 3
  have hcon := rfwithin_any W0 0 x.epoch 1073741824
  have hp : partOk x .epoch = decide (0 ≤ x.epoch ∧ x.epoch ≤ 1073741824) := rfl
  rw [← hp] at hcon
  generalize partOk x .epoch = res at hcon ⊢
  have HW0 := Lib.hid hW0
  clear hW0 x0
  go_enter Tryz.func82, Tryz.ntmps82
  go_upto_region 1 with (fail)
  rw [← HW0.out]
  go_wp2_with (go_at_call 81; refine hcon.mono ?_; rintro e w1 ⟨rfl, q1⟩)
  go_ret
  exact ⟨rfl, q0.tr q1⟩
set_option maxRecDepth 100000 in
set_option maxHeartbeats 1000000 in
theorem rp_acts (w : World) (F : Nat → Prop) (k : Int) (x : OrdF) (p : Pl) (hi : OrdIn w F x p) (hz : OrdSz x) :
    Calls Tryz.prog 82 #[.agg (ofA (I64 k) x p), .int .u8 97] w fun e w' => e = .returned (.bool (partOk x .acts)) ∧ Nw w w' := by
  obtain ⟨W0, hW0⟩ : ∃ W0, W0 = w.alloc (.cells (ofA (I64 k) x p) 55) := ⟨_, rfl⟩
  have q0 : Nw w W0 := by rw [hW0]; exact (Fr.refl (fun _ => False) w).alloc _
  have x0 : Blk W0 w.heap.size 55 (ofA (I64 k) x p) := by rw [hW0]; exact Blk.new w _ _
  have c4 : W0.cell? ⟨w.heap.size, 4, none⟩ = some (.slice p.a x.acts.length p.ca) := by simpa using x0.cell 4
  have hcon := refActs_any W0 F p.a p.ca x.acts (hi.acts.fr q0 (fun _ _ h => h)) hz.acts.1 hz.acts.2
  have hp : partOk x .acts = actsOk x.acts := rfl
  rw [← hp] at hcon
  generalize partOk x .acts = res at hcon ⊢
  have HW0 := Lib.hid hW0
  clear hW0 x0
  go_enter Tryz.func82, Tryz.ntmps82
  go_upto_region 1 with (fail)
  rw [← HW0.out]
  go_wp2_with (go_at_call 112; refine hcon.mono ?_; rintro e w1 ⟨rfl, q1⟩)
  go_ret
  exact ⟨rfl, q0.tr q1⟩
set_option maxRecDepth 100000 in
set_option maxHeartbeats 1000000 in
theorem rp_commit (w : World) (F : Nat → Prop) (k : Int) (x : OrdF) (p : Pl) (hi : OrdIn w F x p) (hz : OrdSz x) :
    Calls Tryz.prog 82 #[.agg (ofA (I64 k) x p), .int .u8 99] w fun e w' => e = .returned (.bool (partOk x .commit)) ∧ Nw w w' := by
  obtain ⟨W0, hW0⟩ : ∃ W0, W0 = w.alloc (.cells (ofA (I64 k) x p) 55) := ⟨_, rfl⟩
  have q0 : Nw w W0 := by rw [hW0]; exact (Fr.refl (fun _ => False) w).alloc _
  have x0 : Blk W0 w.heap.size 55 (ofA (I64 k) x p) := by rw [hW0]; exact Blk.new w _ _
  have c5 : W0.cell? ⟨w.heap.size, 5, none⟩ = some (.bool x.commit) := by simpa using x0.cell 5
  have HW0 := Lib.hid hW0
  clear hW0 x0
  go_enter Tryz.func82, Tryz.ntmps82
  go_upto_region 1 with (fail)
  rw [← HW0.out]
  go_wp2_with fail
  go_ret
  exact ⟨rfl, q0⟩
set_option maxRecDepth 100000 in
set_option maxHeartbeats 1000000 in
theorem rp_reads (w : World) (F : Nat → Prop) (k : Int) (x : OrdF) (p : Pl) (hi : OrdIn w F x p) (hz : OrdSz x) :
    Calls Tryz.prog 82 #[.agg (ofA (I64 k) x p), .int .u8 114] w fun e w' => e = .returned (.bool (partOk x .reads)) ∧ Nw w w' := by
  obtain ⟨W0, hW0⟩ : ∃ W0, W0 = w.alloc (.cells (ofA (I64 k) x p) 55) := ⟨_, rfl⟩
  have q0 : Nw w W0 := by rw [hW0]; exact (Fr.refl (fun _ => False) w).alloc _
  have x0 : Blk W0 w.heap.size 55 (ofA (I64 k) x p) := by rw [hW0]; exact Blk.new w _ _
  have c6 : W0.cell? ⟨w.heap.size, 6, none⟩ = some (.slice p.r x.reads.length p.cr) := by simpa using x0.cell 6
  have hcon := refReads_any W0 F p.r p.cr x.reads (hi.reads.fr q0 (fun _ _ h => h)) hz.reads.1 hz.reads.2
  have hS : ∀ w1, Nw W0 w1 → w1.cell? ⟨w.heap.size, 5, none⟩ = some (.bool x.commit) ∧ w1.cell? ⟨w.heap.size, 6, none⟩ = some (.slice p.r x.reads.length p.cr) := fun w1 f => by
    have b := x0.fr f (fun h => h)
    exact ⟨by simpa using b.cell 5, by simpa using b.cell 6⟩
  have hr := rdgs_ref x.commit x.reads
  have hp : partOk x .reads = rdgsOk x.commit x.reads := rfl
  rw [hp]
  obtain ⟨res, hres⟩ : ∃ res, rdgsOk x.commit x.reads = res := ⟨_, rfl⟩
  rw [hres] at hr ⊢
  clear hp hres
  obtain ⟨d, hd⟩ : ∃ d, (decide (x.reads.length ≤ 6) && x.reads.all rdgOk) = d := ⟨_, rfl⟩
  rw [hd] at hr hcon
  have hn : decide (x.reads = []) = decide (x.reads.length = 0) := by cases x.reads <;> simp
  rw [hn] at hr
  obtain ⟨cm, hcm⟩ : ∃ cm, x.commit = cm := ⟨_, rfl⟩
  obtain ⟨n, hnn⟩ : ∃ n, x.reads.length = n := ⟨_, rfl⟩
  simp only [hcm, hnn] at hr hS hcon c6
  have H := Lib.hid hr
  have HW0 := Lib.hid hW0
  clear hW0 hr hn hd x0 hi hz
  cases d with
  | false =>
    go_enter Tryz.func82, Tryz.ntmps82
    go_upto_region 1 with (fail)
    rw [← HW0.out]
    go_wp2_with (go_at_call 87; refine hcon.mono ?_; rintro e w1 ⟨rfl, q1⟩; obtain ⟨k5, k6⟩ := hS w1 q1)
    go_ret
    exact ⟨retB (by rw [H.out]; simp), q0.tr q1⟩
  | true =>
    cases cm with
    | true =>
      go_enter Tryz.func82, Tryz.ntmps82
      go_upto_region 1 with (fail)
      rw [← HW0.out]
      go_wp2_with (go_at_call 87; refine hcon.mono ?_; rintro e w1 ⟨rfl, q1⟩; obtain ⟨k5, k6⟩ := hS w1 q1)
      go_ret
      exact ⟨retB (by rw [H.out]; simp), q0.tr q1⟩
    | false =>
      go_enter Tryz.func82, Tryz.ntmps82
      go_upto_region 1 with (fail)
      rw [← HW0.out]
      go_wp2_with (go_at_call 87; refine hcon.mono ?_; rintro e w1 ⟨rfl, q1⟩; obtain ⟨k5, k6⟩ := hS w1 q1)
      go_ret
      have hd0 : ((n : Int) == 0) = decide (n = 0) := by by_cases h : n = 0 <;> simp [h]
      exact ⟨retB (by rw [H.out, hd0]; simp), q0.tr q1⟩
set_option maxRecDepth 100000 in
set_option maxHeartbeats 1000000 in
theorem rp_scheme (w : World) (F : Nat → Prop) (k : Int) (x : OrdF) (p : Pl) (hi : OrdIn w F x p) (hz : OrdSz x) :
    Calls Tryz.prog 82 #[.agg (ofA (I64 k) x p), .int .u8 115] w fun e w' => e = .returned (.bool (partOk x .scheme)) ∧ Nw w w' := by
  obtain ⟨W0, hW0⟩ : ∃ W0, W0 = w.alloc (.cells (ofA (I64 k) x p) 55) := ⟨_, rfl⟩
  have q0 : Nw w W0 := by rw [hW0]; exact (Fr.refl (fun _ => False) w).alloc _
  have x0 : Blk W0 w.heap.size 55 (ofA (I64 k) x p) := by rw [hW0]; exact Blk.new w _ _
  have c7 : W0.cell? ⟨w.heap.size, 7, none⟩ = some (I64 x.scheme) := by simpa using x0.cell 7
  have hcon := rfwithin_any W0 1 x.scheme 1073741824
  have hp : partOk x .scheme = decide (1 ≤ x.scheme ∧ x.scheme ≤ 1073741824) := rfl
  rw [← hp] at hcon
  generalize partOk x .scheme = res at hcon ⊢
  have HW0 := Lib.hid hW0
  clear hW0 x0
  go_enter Tryz.func82, Tryz.ntmps82
  go_upto_region 1 with (fail)
  rw [← HW0.out]
  go_wp2_with (go_at_call 81; refine hcon.mono ?_; rintro e w1 ⟨rfl, q1⟩)
  go_ret
  exact ⟨rfl, q0.tr q1⟩
set_option maxRecDepth 100000 in
set_option maxHeartbeats 1000000 in
theorem rp_stage (w : World) (F : Nat → Prop) (k : Int) (x : OrdF) (p : Pl) (hi : OrdIn w F x p) (hz : OrdSz x) :
    Calls Tryz.prog 82 #[.agg (ofA (I64 k) x p), .int .u8 116] w fun e w' => e = .returned (.bool (partOk x .stage)) ∧ Nw w w' := by
  obtain ⟨W0, hW0⟩ : ∃ W0, W0 = w.alloc (.cells (ofA (I64 k) x p) 55) := ⟨_, rfl⟩
  have q0 : Nw w W0 := by rw [hW0]; exact (Fr.refl (fun _ => False) w).alloc _
  have x0 : Blk W0 w.heap.size 55 (ofA (I64 k) x p) := by rw [hW0]; exact Blk.new w _ _
  have c8 : W0.cell? ⟨w.heap.size, 8, none⟩ = some (I64 x.stage) := by simpa using x0.cell 8
  have hcon := rfwithin_any W0 0 x.stage 20
  have hp : partOk x .stage = decide (0 ≤ x.stage ∧ x.stage ≤ 20) := rfl
  rw [← hp] at hcon
  generalize partOk x .stage = res at hcon ⊢
  have HW0 := Lib.hid hW0
  clear hW0 x0
  go_enter Tryz.func82, Tryz.ntmps82
  go_upto_region 1 with (fail)
  rw [← HW0.out]
  go_wp2_with (go_at_call 81; refine hcon.mono ?_; rintro e w1 ⟨rfl, q1⟩)
  go_ret
  exact ⟨rfl, q0.tr q1⟩
set_option maxRecDepth 100000 in
set_option maxHeartbeats 1000000 in
theorem rp_group (w : World) (F : Nat → Prop) (k : Int) (x : OrdF) (p : Pl) (hi : OrdIn w F x p) (hz : OrdSz x) :
    Calls Tryz.prog 82 #[.agg (ofA (I64 k) x p), .int .u8 111] w fun e w' => e = .returned (.bool (partOk x .group)) ∧ Nw w w' := by
  obtain ⟨W0, hW0⟩ : ∃ W0, W0 = w.alloc (.cells (ofA (I64 k) x p) 55) := ⟨_, rfl⟩
  have q0 : Nw w W0 := by rw [hW0]; exact (Fr.refl (fun _ => False) w).alloc _
  have x0 : Blk W0 w.heap.size 55 (ofA (I64 k) x p) := by rw [hW0]; exact Blk.new w _ _
  have c9 : W0.cell? ⟨w.heap.size, 9, none⟩ = some (I64 x.to) := by simpa using x0.cell 9
  have hcon := rfwithin_any W0 1 x.to 4
  have hp : partOk x .group = decide (1 ≤ x.to ∧ x.to ≤ 4) := rfl
  rw [← hp] at hcon
  generalize partOk x .group = res at hcon ⊢
  have HW0 := Lib.hid hW0
  clear hW0 x0
  go_enter Tryz.func82, Tryz.ntmps82
  go_upto_region 1 with (fail)
  rw [← HW0.out]
  go_wp2_with (go_at_call 81; refine hcon.mono ?_; rintro e w1 ⟨rfl, q1⟩)
  go_ret
  exact ⟨rfl, q0.tr q1⟩
set_option maxRecDepth 100000 in
set_option maxHeartbeats 1000000 in
theorem rp_stretch (w : World) (F : Nat → Prop) (k : Int) (x : OrdF) (p : Pl) (hi : OrdIn w F x p) (hz : OrdSz x) :
    Calls Tryz.prog 82 #[.agg (ofA (I64 k) x p), .int .u8 112] w fun e w' => e = .returned (.bool (partOk x .stretch)) ∧ Nw w w' := by
  obtain ⟨W0, hW0⟩ : ∃ W0, W0 = w.alloc (.cells (ofA (I64 k) x p) 55) := ⟨_, rfl⟩
  have q0 : Nw w W0 := by rw [hW0]; exact (Fr.refl (fun _ => False) w).alloc _
  have x0 : Blk W0 w.heap.size 55 (ofA (I64 k) x p) := by rw [hW0]; exact Blk.new w _ _
  have c10 : W0.cell? ⟨w.heap.size, 10, none⟩ = some (StrV x.lo) := by simpa using x0.cell 10
  have c11 : W0.cell? ⟨w.heap.size, 11, none⟩ = some (StrV x.hi) := by simpa using x0.cell 11
  have hcon := refRight_any W0 x.lo x.hi hz.lo hz.hi
  have hp : partOk x .stretch = spanOk x.lo x.hi := rfl
  rw [← hp] at hcon
  generalize partOk x .stretch = res at hcon ⊢
  have HW0 := Lib.hid hW0
  clear hW0 x0
  go_enter Tryz.func82, Tryz.ntmps82
  go_upto_region 1 with (fail)
  rw [← HW0.out]
  go_wp2_with (go_at_call 113; refine hcon.mono ?_; rintro e w1 ⟨rfl, q1⟩)
  go_ret
  exact ⟨rfl, q0.tr q1⟩
set_option maxRecDepth 100000 in
set_option maxHeartbeats 1000000 in
theorem rp_load (w : World) (F : Nat → Prop) (k : Int) (x : OrdF) (p : Pl) (hi : OrdIn w F x p) (hz : OrdSz x) :
    Calls Tryz.prog 82 #[.agg (ofA (I64 k) x p), .int .u8 98] w fun e w' => e = .returned (.bool (partOk x .load)) ∧ Nw w w' := by
  obtain ⟨W0, hW0⟩ : ∃ W0, W0 = w.alloc (.cells (ofA (I64 k) x p) 55) := ⟨_, rfl⟩
  have q0 : Nw w W0 := by rw [hW0]; exact (Fr.refl (fun _ => False) w).alloc _
  have x0 : Blk W0 w.heap.size 55 (ofA (I64 k) x p) := by rw [hW0]; exact Blk.new w _ _
  have c12 : W0.cell? ⟨w.heap.size, 12, none⟩ = some (.slice p.b x.bytes.length p.cb) := by simpa using x0.cell 12
  have hb : decide ((x.bytes.length : Int) ≤ 65536) = partOk x .load := by show _ = decide _; congr 1; apply propext; omega
  generalize partOk x .load = res at hb ⊢
  have HW0 := Lib.hid hW0
  clear hW0 x0
  go_enter Tryz.func82, Tryz.ntmps82
  go_upto_region 1 with (fail)
  rw [← HW0.out]
  go_wp2_with fail
  go_ret
  exact ⟨retB (by rw [← hb]), q0⟩
theorem rp_any (r : Part) (w : World) (F : Nat → Prop) (k : Int) (x : OrdF) (p : Pl) (hi : OrdIn w F x p) (hz : OrdSz x) :
    Calls Tryz.prog 82 #[.agg (ofA (I64 k) x p), .int .u8 ((sgn r).toNat : Int)] w fun e w' => e = .returned (.bool (partOk x r)) ∧ Nw w w' := by
  cases r
  · exact rp_name w F k x p hi hz
  · exact rp_epoch w F k x p hi hz
  · exact rp_acts w F k x p hi hz
  · exact rp_commit w F k x p hi hz
  · exact rp_reads w F k x p hi hz
  · exact rp_scheme w F k x p hi hz
  · exact rp_stage w F k x p hi hz
  · exact rp_group w F k x p hi hz
  · exact rp_stretch w F k x p hi hz
  · exact rp_load w F k x p hi hz
/-- The parts before the j-th are taken over. -/
def RoTo (w : World) (g : Nat) (k : Int) (x : OrdF) (p : Pl) (l : List Part) (n : Nat) (i : Value) (wx : World) : Prop :=
  ∃ j : Nat, j ≤ n ∧ i = .int .i64 j ∧ Blk wx g 55 (ofA (I64 k) (onlyF x (l.take j)) (plF p (l.take j))) ∧ Fr (· = g) w wx
set_option maxRecDepth 100000 in
set_option maxHeartbeats 8000000 in
theorem ronly_any (w : World) (k : Int) (x : OrdF) (p : Pl) (l : List Part) (hl : l.length ≤ 1000) :
    Calls Tryz.prog 83 #[.agg (ofA (I64 k) x p), StrV (signs l)] w fun e w' => e = .returned (.agg (ofA (I64 k) (onlyF x l) (plF p l))) ∧ Nw w w' := by
  obtain ⟨W0, hW0⟩ : ∃ W0, W0 = w.alloc (.cells (ofA (I64 k) x p) 55) := ⟨_, rfl⟩
  have q0 : Nw w W0 := by rw [hW0]; exact (Fr.refl (fun _ => False) w).alloc _
  have x0 : Blk W0 w.heap.size 55 (ofA (I64 k) x p) := by rw [hW0]; exact Blk.new w _ _
  have hz0 : W0.heap.size = w.heap.size + 1 := by rw [hW0]; simp
  obtain ⟨W1, hW1⟩ : ∃ W1, W1 = W0.alloc (.cells (zO (I64 0)) 55) := ⟨_, rfl⟩
  have q1 : Nw W0 W1 := by rw [hW1]; exact (Fr.refl (fun _ => False) W0).alloc _
  have y1 : Blk W1 (w.heap.size + 1) 55 (zO (I64 0)) := by rw [hW1, ← hz0]; exact Blk.new W0 _ _
  have hz1 : W1.heap.size = w.heap.size + 2 := by rw [hW1]; simp [hz0]
  have x1 := x0.fr q1 (fun h => h)
  have c0 : W1.cell? ⟨w.heap.size, 0, none⟩ = some (I64 k) := by simpa using x1.cell 0
  obtain ⟨W2, hW2⟩ : ∃ W2, W2 = W1.alloc (.cells (zO (I64 k)) 55) := ⟨_, rfl⟩
  have q2 : Nw W1 W2 := by rw [hW2]; exact (Fr.refl (fun _ => False) W1).alloc _
  have g2 : Blk W2 (w.heap.size + 2) 55 (ofA (I64 k) (ordZ x.kind) plZ) := by rw [hW2, ← hz1]; exact Blk.new W1 _ _
  have x2 := x1.fr q2 (fun h => h)
  have y2 := y1.fr q2 (fun h => h)
  have Q : Nw w W2 := (q0.tr q1).tr q2
  obtain ⟨L, hL⟩ : ∃ L, signs l = L := ⟨_, rfl⟩
  have hll : L.length = l.length := by rw [← hL]; simp [signs]
  have hch : ∀ (k : Nat) (h : k < L.length) (h2 : k < l.length), L[k] = sgn l[k] := fun k h h2 => by
    subst hL
    simp [signs]
  have hsz := str_size L
  have hix : ∀ (w : World) (k : Nat) (h : k < L.length), (Instr.index 9 (.string ⟨L.toArray⟩) (.int .i64 (k : Int))).run Tryz.prog w = .ok (.int .u8 (L[k].toNat : Int)) w := fun w => str_index w L
  have hix2 : ∀ (w : World) (k : Nat) (h : k < l.length), (Instr.index 9 (.string ⟨L.toArray⟩) (.int .i64 (k : Int))).run Tryz.prog w = .ok (.int .u8 ((sgn l[k]).toNat : Int)) w := fun w k h => by
    rw [hix w k (by omega), hch k (by omega) h]
  rw [hL]
  show Calls Tryz.prog 83 #[.agg (ofA (I64 k) x p), .string ⟨L.toArray⟩] w fun e w' => _
  rw [hll] at hsz
  generalize (⟨L.toArray⟩ : ByteArray) = s at hsz hix2 ⊢
  clear hix hch hll hL
  obtain ⟨n, hn⟩ : ∃ n, n = l.length := ⟨_, rfl⟩
  rw [← hn] at hsz hl
  have HN := Lib.hid hn
  have HW0 := Lib.hid hW0
  have HW1 := Lib.hid hW1
  have HW2 := Lib.hid hW2
  clear hW0 hW1 hW2 hn x0 x1 y1
  go_enter Tryz.func83, Tryz.ntmps83
  go_upto_region 1 with (fail)
  rw [← HW0.out, ← HW1.out]
  go_upto_region 2 with (fail)
  rw [← HW2.out]
  go_wp2_with fail
  go_loopw [6] (fun i wx => RoTo W2 (w.heap.size + 2) k x p l n i wx) (fun i _ => n - (intOf i).toNat)
  case atStart => exact ⟨0, Nat.zero_le _, rfl, g2, Fr.refl _ _⟩
  case round =>
    obtain ⟨j, hj, rfl, hb, hf⟩ := hrel
    have xb := x2.fr hf (fun h => by omega)
    have yb := y2.fr hf (fun h => by omega)
    by_cases hlt : j < n
    · have hlt2 : j < l.length := by rw [← HN.out]; exact hlt
      have hx := fun w => hix2 w j hlt2
      have hsn := onlyF_snoc x _ j hlt2
      have hpn := plF_snoc p _ j hlt2
      obtain ⟨r, hr⟩ : ∃ r, l[j] = r := ⟨_, rfl⟩
      rw [hr] at hx hsn hpn
      have HS := Lib.hid (And.intro hsn hpn)
      obtain ⟨y, hy⟩ : ∃ y, onlyF x (l.take j) = y := ⟨_, rfl⟩
      obtain ⟨q, hq⟩ : ∃ q, plF p (l.take j) = q := ⟨_, rfl⟩
      rw [hy, hq] at hb
      have HY := Lib.hid (And.intro hy hq)
      clear hix2 hsn hpn hr c0 hy hq
      cases r with
      | name =>
        have hx : ∀ w, (Instr.index 9 (.string s) (.int .i64 (j : Int))).run Tryz.prog w = .ok (.int .u8 110) w := hx
        have cg1 : wr.cell? ⟨w.heap.size + 2, 1, none⟩ = some (I64 y.nm.1) := by simpa using hb.cell 1
        have fg1 := hb.frozen 1
        have cx1 : wr.cell? ⟨w.heap.size, 1, none⟩ = some (I64 x.nm.1) := by simpa using xb.cell 1
        have cg2 : wr.cell? ⟨w.heap.size + 2, 2, none⟩ = some (I64 y.nm.2) := by simpa using hb.cell 2
        have fg2 := hb.frozen 2
        have cx2 : wr.cell? ⟨w.heap.size, 2, none⟩ = some (I64 x.nm.2) := by simpa using xb.cell 2
        have hb2 : Blk _ (w.heap.size + 2) 55 (ofA (I64 k) (partTo x y .name) (plTo p q .name)) := ((hb.set_ 1 (I64 x.nm.1)).set_ 2 (I64 x.nm.2))
        go_wp2_with fail
        go_roundw
        case rel => exact ⟨j + 1, by omega, rfl, by rw [HS.out.1, HS.out.2, HY.out.1, HY.out.2]; exact hb2, ((hf.set1 _ _).set1 _ _)⟩
        case measure => simp [intOf]; omega
      | epoch =>
        have hx : ∀ w, (Instr.index 9 (.string s) (.int .i64 (j : Int))).run Tryz.prog w = .ok (.int .u8 101) w := hx
        have cg3 : wr.cell? ⟨w.heap.size + 2, 3, none⟩ = some (I64 y.epoch) := by simpa using hb.cell 3
        have fg3 := hb.frozen 3
        have cx3 : wr.cell? ⟨w.heap.size, 3, none⟩ = some (I64 x.epoch) := by simpa using xb.cell 3
        have hb2 : Blk _ (w.heap.size + 2) 55 (ofA (I64 k) (partTo x y .epoch) (plTo p q .epoch)) := (hb.set_ 3 (I64 x.epoch))
        go_wp2_with fail
        go_roundw
        case rel => exact ⟨j + 1, by omega, rfl, by rw [HS.out.1, HS.out.2, HY.out.1, HY.out.2]; exact hb2, (hf.set1 _ _)⟩
        case measure => simp [intOf]; omega
      | acts =>
        have hx : ∀ w, (Instr.index 9 (.string s) (.int .i64 (j : Int))).run Tryz.prog w = .ok (.int .u8 97) w := hx
        have cg4 : wr.cell? ⟨w.heap.size + 2, 4, none⟩ = some (.slice q.a y.acts.length q.ca) := by simpa using hb.cell 4
        have fg4 := hb.frozen 4
        have cx4 : wr.cell? ⟨w.heap.size, 4, none⟩ = some (.slice p.a x.acts.length p.ca) := by simpa using xb.cell 4
        have hb2 : Blk _ (w.heap.size + 2) 55 (ofA (I64 k) (partTo x y .acts) (plTo p q .acts)) := (hb.set_ 4 (.slice p.a x.acts.length p.ca))
        go_wp2_with fail
        go_roundw
        case rel => exact ⟨j + 1, by omega, rfl, by rw [HS.out.1, HS.out.2, HY.out.1, HY.out.2]; exact hb2, (hf.set1 _ _)⟩
        case measure => simp [intOf]; omega
      | commit =>
        have hx : ∀ w, (Instr.index 9 (.string s) (.int .i64 (j : Int))).run Tryz.prog w = .ok (.int .u8 99) w := hx
        have cg5 : wr.cell? ⟨w.heap.size + 2, 5, none⟩ = some (.bool y.commit) := by simpa using hb.cell 5
        have fg5 := hb.frozen 5
        have cx5 : wr.cell? ⟨w.heap.size, 5, none⟩ = some (.bool x.commit) := by simpa using xb.cell 5
        have hb2 : Blk _ (w.heap.size + 2) 55 (ofA (I64 k) (partTo x y .commit) (plTo p q .commit)) := (hb.set_ 5 (.bool x.commit))
        go_wp2_with fail
        go_roundw
        case rel => exact ⟨j + 1, by omega, rfl, by rw [HS.out.1, HS.out.2, HY.out.1, HY.out.2]; exact hb2, (hf.set1 _ _)⟩
        case measure => simp [intOf]; omega
      | reads =>
        have hx : ∀ w, (Instr.index 9 (.string s) (.int .i64 (j : Int))).run Tryz.prog w = .ok (.int .u8 114) w := hx
        have cg6 : wr.cell? ⟨w.heap.size + 2, 6, none⟩ = some (.slice q.r y.reads.length q.cr) := by simpa using hb.cell 6
        have fg6 := hb.frozen 6
        have cx6 : wr.cell? ⟨w.heap.size, 6, none⟩ = some (.slice p.r x.reads.length p.cr) := by simpa using xb.cell 6
        have hb2 : Blk _ (w.heap.size + 2) 55 (ofA (I64 k) (partTo x y .reads) (plTo p q .reads)) := (hb.set_ 6 (.slice p.r x.reads.length p.cr))
        go_wp2_with fail
        go_roundw
        case rel => exact ⟨j + 1, by omega, rfl, by rw [HS.out.1, HS.out.2, HY.out.1, HY.out.2]; exact hb2, (hf.set1 _ _)⟩
        case measure => simp [intOf]; omega
      | scheme =>
        have hx : ∀ w, (Instr.index 9 (.string s) (.int .i64 (j : Int))).run Tryz.prog w = .ok (.int .u8 115) w := hx
        have cg7 : wr.cell? ⟨w.heap.size + 2, 7, none⟩ = some (I64 y.scheme) := by simpa using hb.cell 7
        have fg7 := hb.frozen 7
        have cx7 : wr.cell? ⟨w.heap.size, 7, none⟩ = some (I64 x.scheme) := by simpa using xb.cell 7
        have hb2 : Blk _ (w.heap.size + 2) 55 (ofA (I64 k) (partTo x y .scheme) (plTo p q .scheme)) := (hb.set_ 7 (I64 x.scheme))
        go_wp2_with fail
        go_roundw
        case rel => exact ⟨j + 1, by omega, rfl, by rw [HS.out.1, HS.out.2, HY.out.1, HY.out.2]; exact hb2, (hf.set1 _ _)⟩
        case measure => simp [intOf]; omega
      | stage =>
        have hx : ∀ w, (Instr.index 9 (.string s) (.int .i64 (j : Int))).run Tryz.prog w = .ok (.int .u8 116) w := hx
        have cg8 : wr.cell? ⟨w.heap.size + 2, 8, none⟩ = some (I64 y.stage) := by simpa using hb.cell 8
        have fg8 := hb.frozen 8
        have cx8 : wr.cell? ⟨w.heap.size, 8, none⟩ = some (I64 x.stage) := by simpa using xb.cell 8
        have hb2 : Blk _ (w.heap.size + 2) 55 (ofA (I64 k) (partTo x y .stage) (plTo p q .stage)) := (hb.set_ 8 (I64 x.stage))
        go_wp2_with fail
        go_roundw
        case rel => exact ⟨j + 1, by omega, rfl, by rw [HS.out.1, HS.out.2, HY.out.1, HY.out.2]; exact hb2, (hf.set1 _ _)⟩
        case measure => simp [intOf]; omega
      | group =>
        have hx : ∀ w, (Instr.index 9 (.string s) (.int .i64 (j : Int))).run Tryz.prog w = .ok (.int .u8 111) w := hx
        have cg9 : wr.cell? ⟨w.heap.size + 2, 9, none⟩ = some (I64 y.to) := by simpa using hb.cell 9
        have fg9 := hb.frozen 9
        have cx9 : wr.cell? ⟨w.heap.size, 9, none⟩ = some (I64 x.to) := by simpa using xb.cell 9
        have hb2 : Blk _ (w.heap.size + 2) 55 (ofA (I64 k) (partTo x y .group) (plTo p q .group)) := (hb.set_ 9 (I64 x.to))
        go_wp2_with fail
        go_roundw
        case rel => exact ⟨j + 1, by omega, rfl, by rw [HS.out.1, HS.out.2, HY.out.1, HY.out.2]; exact hb2, (hf.set1 _ _)⟩
        case measure => simp [intOf]; omega
      | stretch =>
        have hx : ∀ w, (Instr.index 9 (.string s) (.int .i64 (j : Int))).run Tryz.prog w = .ok (.int .u8 112) w := hx
        have cg10 : wr.cell? ⟨w.heap.size + 2, 10, none⟩ = some (StrV y.lo) := by simpa using hb.cell 10
        have fg10 := hb.frozen 10
        have cx10 : wr.cell? ⟨w.heap.size, 10, none⟩ = some (StrV x.lo) := by simpa using xb.cell 10
        have cg11 : wr.cell? ⟨w.heap.size + 2, 11, none⟩ = some (StrV y.hi) := by simpa using hb.cell 11
        have fg11 := hb.frozen 11
        have cx11 : wr.cell? ⟨w.heap.size, 11, none⟩ = some (StrV x.hi) := by simpa using xb.cell 11
        have hb2 : Blk _ (w.heap.size + 2) 55 (ofA (I64 k) (partTo x y .stretch) (plTo p q .stretch)) := ((hb.set_ 10 (StrV x.lo)).set_ 11 (StrV x.hi))
        go_wp2_with fail
        go_roundw
        case rel => exact ⟨j + 1, by omega, rfl, by rw [HS.out.1, HS.out.2, HY.out.1, HY.out.2]; exact hb2, ((hf.set1 _ _).set1 _ _)⟩
        case measure => simp [intOf]; omega
      | load =>
        have hx : ∀ w, (Instr.index 9 (.string s) (.int .i64 (j : Int))).run Tryz.prog w = .ok (.int .u8 98) w := hx
        have cg12 : wr.cell? ⟨w.heap.size + 2, 12, none⟩ = some (.slice q.b y.bytes.length q.cb) := by simpa using hb.cell 12
        have fg12 := hb.frozen 12
        have cx12 : wr.cell? ⟨w.heap.size, 12, none⟩ = some (.slice p.b x.bytes.length p.cb) := by simpa using xb.cell 12
        have hb2 : Blk _ (w.heap.size + 2) 55 (ofA (I64 k) (partTo x y .load) (plTo p q .load)) := (hb.set_ 12 (.slice p.b x.bytes.length p.cb))
        go_wp2_with fail
        go_roundw
        case rel => exact ⟨j + 1, by omega, rfl, by rw [HS.out.1, HS.out.2, HY.out.1, HY.out.2]; exact hb2, (hf.set1 _ _)⟩
        case measure => simp [intOf]; omega
    · have hjn : j = l.length := by have := HN.out; omega
      rw [hjn, List.take_length] at hb
      have hone := of_one (I64 k) rfl (onlyF x l) (plF p l)
      have hth := Blk.there yb 0 13 (by show 0 + 13 ≤ 13; omega)
      obtain ⟨W3, hW3⟩ : ∃ W3, W3 = wr.setCells (w.heap.size + 1) 0 (ofA (I64 k) (onlyF x l) (plF p l)).toList := ⟨_, rfl⟩
      have y3 : Blk W3 (w.heap.size + 1) 55 (ofA (I64 k) (onlyF x l) (plF p l)) := by rw [hW3]; exact Blk.setCells yb 0 (ofA (I64 k) (onlyF x l) (plF p l)).toList
      have f3 : Fr (· = w.heap.size + 1) wr W3 := by rw [hW3]; exact (Fr.refl _ wr).setCells _ _
      have HB := Lib.hid ((Q.trans hf (fun k hk => .inr (by omega))).new f3 (fun b hb => by omega))
      have HW3 := Lib.hid hW3
      clear hW3
      obtain ⟨y, hy⟩ : ∃ y, onlyF x l = y := ⟨_, rfl⟩
      obtain ⟨q, hq⟩ : ∃ q, plF p l = q := ⟨_, rfl⟩
      rw [hy, hq] at hb hone y3 HW3
      have HY := Lib.hid (And.intro hy hq)
      clear hy hq
      rw [hjn]
      go_upto_region 26 with (fail)
      go_wp2_with (first | (refine wpList_load_row rfl 55 _ rfl (w.heap.size + 2) rfl 55 _ (0, 0) _ hb Tryz.underlying55 rfl rord_size ?_) | (refine wpList_store_mid rfl 55 _ _ rfl (w.heap.size + 1) 0 (ofA (I64 k) y q) rfl rfl hth rord_size hone ?_; rw [← HW3.out]))
      refine bodyPost_ret (v := .agg (ofA (I64 k) y q)) ?_ rfl ?_
      · exact results_cell_row rfl _ _ (w.heap.size + 1) 55 _ (0, 0) _ rfl y3 Tryz.underlying55 rfl rord_size
      exact ⟨by rw [HY.out.1, HY.out.2], HB.out⟩
end Go.Proofs.YtkjnlhidnkbelaaGreatDoor

namespace Go.Proofs.YtkjnlhidnkbelaaGreatDoor
open Go Go.RowKit

/-- What each kind has, by its signs. -/
def kindTexts : List (List UInt8) := [[110, 101, 97], [110, 99], [115, 112, 101], [115], [115, 112, 98], [115, 101], [115], [115], [110, 99, 114], [110], [112, 111], [115, 116], []]
abbrev kindCells : Array Value := #[.string ⟨#[110, 101, 97]⟩, .string ⟨#[110, 99]⟩, .string ⟨#[115, 112, 101]⟩, .string ⟨#[115]⟩, .string ⟨#[115, 112, 98]⟩, .string ⟨#[115, 101]⟩, .string ⟨#[115]⟩, .string ⟨#[115]⟩, .string ⟨#[110, 99, 114]⟩, .string ⟨#[110]⟩, .string ⟨#[112, 111]⟩, .string ⟨#[115, 116]⟩, .string ⟨#[]⟩]
theorem kindTexts_at (m : Nat) (h : m < 13) : kindTexts[m]? = some (signs (partsOf ((m : Int) + 1))) := by
  have : m = 0 ∨ m = 1 ∨ m = 2 ∨ m = 3 ∨ m = 4 ∨ m = 5 ∨ m = 6 ∨ m = 7 ∨ m = 8 ∨ m = 9 ∨ m = 10 ∨ m = 11 ∨ m = 12 := by omega
  rcases this with rfl | rfl | rfl | rfl | rfl | rfl | rfl | rfl | rfl | rfl | rfl | rfl | rfl <;> decide
/-- The parts before the j-th are right. -/
def RpTo (w : World) (x : OrdF) (l : List Part) (n : Nat) (i : Value) (wx : World) : Prop :=
  ∃ j : Nat, j ≤ n ∧ i = .int .i64 j ∧ (l.take j).all (partOk x) = true ∧ Nw w wx
set_option maxRecDepth 100000 in
set_option maxHeartbeats 4000000 in
theorem rright22_any (w : World) (F : Nat → Prop) (x : OrdF) (p : Pl) (hi : OrdIn w F x p) (hz : OrdSz x) :
    Calls Tryz.prog 28 #[.agg (ofA (I64 x.kind) x p)] w fun e w' => e = .returned (.bool (ordOk x)) ∧ Nw w w' := by
  obtain ⟨W0, hW0⟩ : ∃ W0, W0 = w.alloc (.cells (ofA (I64 x.kind) x p) 55) := ⟨_, rfl⟩
  have q0 : Nw w W0 := by rw [hW0]; exact (Fr.refl (fun _ => False) w).alloc _
  have x0 : Blk W0 w.heap.size 55 (ofA (I64 x.kind) x p) := by rw [hW0]; exact Blk.new w _ _
  have hz0 : W0.heap.size = w.heap.size + 1 := by rw [hW0]; simp
  have c0 : W0.cell? ⟨w.heap.size, 0, none⟩ = some (I64 x.kind) := by simpa using x0.cell 0
  have hok : ordOk x = ((kindOk x.kind && (partsOf x.kind).all (partOk x)) && decide (x = onlyF x (partsOf x.kind))) := rfl
  obtain ⟨r, hr⟩ : ∃ r, ordOk x = r := ⟨_, rfl⟩
  rw [hr] at hok ⊢
  have hwi := fun w => rfwithin_any w 1 x.kind 13
  have HW0 := Lib.hid hW0
  clear hr hW0
  by_cases hk : 1 ≤ x.kind ∧ x.kind ≤ 13
  · rw [decide_eq_true hk] at hwi
    obtain ⟨W1, hW1⟩ : ∃ W1, W1 = W0.alloc (.cells kindCells 9) := ⟨_, rfl⟩
    have q1 : Nw W0 W1 := by rw [hW1]; exact (Fr.refl (fun _ => False) W0).alloc _
    have s1 : Sl W1 (· = w.heap.size + 1) (some ⟨w.heap.size + 1, 0, none⟩) (kindTexts.map StrV) := by rw [hW1]; exact sl_new W0 9 (kindTexts.map StrV) _ hz0
    have x1 := x0.fr q1 (fun h => h)
    obtain ⟨m, hm⟩ : ∃ m : Nat, x.kind = (m : Int) + 1 := ⟨(x.kind - 1).toNat, by omega⟩
    have hm13 : m < 13 := by omega
    obtain ⟨hmt, hme⟩ := List.getElem?_eq_some_iff.1 (kindTexts_at m hm13)
    obtain ⟨b1, o1, e1, _, hc⟩ := s1.get hmt
    cases e1
    rw [hme, ← hm] at hc
    obtain ⟨l, hl⟩ : ∃ l, partsOf x.kind = l := ⟨_, rfl⟩
    rw [hl] at hc hok
    have hll : l.length ≤ 3 := hl ▸ parts_len x.kind
    have hkk : kindOk x.kind = true := decide_eq_true hk
    rw [hkk, Bool.true_and] at hok
    obtain ⟨L, hL⟩ : ∃ L, signs l = L := ⟨_, rfl⟩
    have hLl : L.length = l.length := by rw [← hL]; simp [signs]
    have hch : ∀ (k : Nat) (h : k < L.length) (h2 : k < l.length), L[k] = sgn l[k] := fun k h h2 => by
      subst hL
      simp [signs]
    have hsz := str_size L
    have hix2 : ∀ (w : World) (k : Nat) (h : k < l.length), (Instr.index 9 (.string ⟨L.toArray⟩) (.int .i64 (k : Int))).run Tryz.prog w = .ok (.int .u8 ((sgn l[k]).toNat : Int)) w := fun w k h => by
      rw [str_index w L k (by omega), hch k (by omega) h]
    have hon := fun w1 => ronly_any w1 x.kind x p l (by omega)
    rw [hL] at hon hc
    have hc : W1.cell? ⟨w.heap.size + 1, 0 + m, none⟩ = some (.string ⟨L.toArray⟩) := hc
    rw [hLl] at hsz
    have hon : ∀ w1, Calls Tryz.prog 83 #[.agg (ofA (I64 x.kind) x p), .string ⟨L.toArray⟩] w1 fun e w' => e = .returned (.agg (ofA (I64 x.kind) (onlyF x l) (plF p l))) ∧ Nw w1 w' := hon
    generalize (⟨L.toArray⟩ : ByteArray) = s at hsz hix2 hc hon
    have hsame := fun w1 (f : Nw w w1) => rsame_any w1 F F x (onlyF x l) p (plF p l) (hi.fr f (fun _ _ h => h)) ((only_in hi l).fr f (fun _ _ h => h)) hz
    rw [onlyF_kind] at hsame
    obtain ⟨d, hd⟩ : ∃ d, decide (x = onlyF x l) = d := ⟨_, rfl⟩
    simp only [hd] at hok hsame
    have hpart := fun (rr : Part) w1 (f : Nw w w1) => rp_any rr w1 F x.kind x p (hi.fr f (fun _ _ h => h)) hz
    have HO := Lib.hid hok
    have HW1 := Lib.hid hW1
    have HL := Lib.hid hL
    clear hW1 hok hl hch hL hd hme s1 hLl hi hz
    have hmi : 0 + m = x.kind.toNat - 1 := by omega
    rw [hmi] at hc
    have hz1 : W1.heap.size = w.heap.size + 2 := by rw [HW1.out]; simp [hz0]
    have hb0 : 0 ≤ x.kind - 1 := by omega
    have hb1 : x.kind - 1 < 13 := by omega
    have c1 : ∀ w1, Nw W1 w1 → w1.cell? ⟨w.heap.size, 0, none⟩ = some (I64 x.kind) := fun w1 f => by simpa using (x1.fr f (fun h => h)).cell 0
    clear hk hkk hm hmi hm13 hmt
    go_enter Tryz.func28, Tryz.ntmps28
    go_upto_region 1 with (fail)
    rw [← HW0.out]
    go_upto_region 2 with (fail)
    rw [← HW1.out]
    have c11 := c1 W1 (Fr.refl _ _)
    go_upto_region 4 with (go_at_call 81; refine (hwi _).mono ?_; rintro e w1 ⟨rfl, q2⟩)
    have c12 := c1 w1 q2
    have hc2 := hc
    rw [← q2.cell (by show w.heap.size + 1 < _; omega) (fun h => h)] at hc2
    go_upto_region 5 with (fail)
    have QW : Nw w w1 := (q0.tr q1).tr q2
    have x3 := x1.fr q2 (fun h => h)
    clear hc hc2 c11 c12
    go_wp2_with fail
    go_loopw [5] (fun i wx => RpTo w1 x l l.length i wx) (fun i _ => l.length - (intOf i).toNat)
    case atStart => exact ⟨0, Nat.zero_le _, rfl, by simp, Fr.refl _ _⟩
    case round =>
      obtain ⟨j, hj, rfl, hal, hq⟩ := hrel
      have HA := Lib.hid hal
      clear hal
      have xr := x3.fr hq (fun h => h)
      have hS : ∀ w2, Nw wr w2 → w2.cell? ⟨w.heap.size, 0, none⟩ = some (I64 x.kind) ∧ w2.cell? ⟨w.heap.size, 1, none⟩ = some (I64 x.nm.1) ∧ w2.cell? ⟨w.heap.size, 2, none⟩ = some (I64 x.nm.2) ∧ w2.cell? ⟨w.heap.size, 3, none⟩ = some (I64 x.epoch) ∧ w2.cell? ⟨w.heap.size, 4, none⟩ = some (.slice p.a x.acts.length p.ca) ∧ w2.cell? ⟨w.heap.size, 5, none⟩ = some (.bool x.commit) ∧ w2.cell? ⟨w.heap.size, 6, none⟩ = some (.slice p.r x.reads.length p.cr) ∧ w2.cell? ⟨w.heap.size, 7, none⟩ = some (I64 x.scheme) ∧ w2.cell? ⟨w.heap.size, 8, none⟩ = some (I64 x.stage) ∧ w2.cell? ⟨w.heap.size, 9, none⟩ = some (I64 x.to) ∧ w2.cell? ⟨w.heap.size, 10, none⟩ = some (StrV x.lo) ∧ w2.cell? ⟨w.heap.size, 11, none⟩ = some (StrV x.hi) ∧ w2.cell? ⟨w.heap.size, 12, none⟩ = some (.slice p.b x.bytes.length p.cb) := fun w2 f => by
        have a := xr.fr f (fun h => h)
        exact ⟨by simpa using a.cell 0, by simpa using a.cell 1, by simpa using a.cell 2, by simpa using a.cell 3, by simpa using a.cell 4, by simpa using a.cell 5, by simpa using a.cell 6, by simpa using a.cell 7, by simpa using a.cell 8, by simpa using a.cell 9, by simpa using a.cell 10, by simpa using a.cell 11, by simpa using a.cell 12⟩
      have s0 := hS wr (Fr.refl _ _)
      have sd := hS wr.drew (Fr.refl (fun _ => False) wr).drew
      have Qd : Nw wr wr.drew := (Fr.refl (fun _ => False) wr).drew
      by_cases hlt : j < l.length
      · have hx := fun w => hix2 w j hlt
        have hcon := fun w1 (f : Nw w w1) => hpart l[j] w1 f
        have han := all_snoc x l j hlt
        have hno : partOk x l[j] = false → l.all (partOk x) = false := fun h => Bool.eq_false_iff.2 fun h2 => by
          rw [List.all_eq_true.1 h2 _ (List.getElem_mem hlt)] at h
          cases h
        obtain ⟨ok, hok⟩ : ∃ ok, partOk x l[j] = ok := ⟨_, rfl⟩
        rw [hok] at han hno
        simp only [hok] at hcon
        obtain ⟨sg, hsg⟩ : ∃ sg : Int, ((sgn l[j]).toNat : Int) = sg := ⟨_, rfl⟩
        simp only [hsg] at hcon hx
        have HN := Lib.hid (And.intro han hno)
        have hcd := hcon wr.drew ((QW.tr hq).tr Qd)
        clear han hno hok hsg hcon hix2 hpart
        cases ok
        · go_upto_region 8 with (fail)
          go_region_held3 (fun w2 => w2.cell? ⟨w.heap.size, 0, none⟩ = some (I64 x.kind) ∧ w2.cell? ⟨w.heap.size, 1, none⟩ = some (I64 x.nm.1) ∧ w2.cell? ⟨w.heap.size, 2, none⟩ = some (I64 x.nm.2) ∧ w2.cell? ⟨w.heap.size, 3, none⟩ = some (I64 x.epoch) ∧ w2.cell? ⟨w.heap.size, 4, none⟩ = some (.slice p.a x.acts.length p.ca) ∧ w2.cell? ⟨w.heap.size, 5, none⟩ = some (.bool x.commit) ∧ w2.cell? ⟨w.heap.size, 6, none⟩ = some (.slice p.r x.reads.length p.cr) ∧ w2.cell? ⟨w.heap.size, 7, none⟩ = some (I64 x.scheme) ∧ w2.cell? ⟨w.heap.size, 8, none⟩ = some (I64 x.stage) ∧ w2.cell? ⟨w.heap.size, 9, none⟩ = some (I64 x.to) ∧ w2.cell? ⟨w.heap.size, 10, none⟩ = some (StrV x.lo) ∧ w2.cell? ⟨w.heap.size, 11, none⟩ = some (StrV x.hi) ∧ w2.cell? ⟨w.heap.size, 12, none⟩ = some (.slice p.b x.bytes.length p.cb)) (first | (exact sd) | (exact s1) | fail)
            ((first | (go_at_call 82; refine hcd.mono ?_; rintro e w4 ⟨rfl, q4⟩; have s1 := hS w4 (Qd.tr q4))))
          go_wp2_with fail
          go_ret
          exact ⟨retB (by rw [HO.out, HN.out.2 (by trivial)]; rfl), (QW.tr hq).tr (Qd.tr q4)⟩
        · go_upto_region 8 with (fail)
          go_region_held3 (fun w2 => w2.cell? ⟨w.heap.size, 0, none⟩ = some (I64 x.kind) ∧ w2.cell? ⟨w.heap.size, 1, none⟩ = some (I64 x.nm.1) ∧ w2.cell? ⟨w.heap.size, 2, none⟩ = some (I64 x.nm.2) ∧ w2.cell? ⟨w.heap.size, 3, none⟩ = some (I64 x.epoch) ∧ w2.cell? ⟨w.heap.size, 4, none⟩ = some (.slice p.a x.acts.length p.ca) ∧ w2.cell? ⟨w.heap.size, 5, none⟩ = some (.bool x.commit) ∧ w2.cell? ⟨w.heap.size, 6, none⟩ = some (.slice p.r x.reads.length p.cr) ∧ w2.cell? ⟨w.heap.size, 7, none⟩ = some (I64 x.scheme) ∧ w2.cell? ⟨w.heap.size, 8, none⟩ = some (I64 x.stage) ∧ w2.cell? ⟨w.heap.size, 9, none⟩ = some (I64 x.to) ∧ w2.cell? ⟨w.heap.size, 10, none⟩ = some (StrV x.lo) ∧ w2.cell? ⟨w.heap.size, 11, none⟩ = some (StrV x.hi) ∧ w2.cell? ⟨w.heap.size, 12, none⟩ = some (.slice p.b x.bytes.length p.cb)) (first | (exact sd) | (exact s1) | fail)
            ((first | (go_at_call 82; refine hcd.mono ?_; rintro e w4 ⟨rfl, q4⟩; have s1 := hS w4 (Qd.tr q4))))
          go_wp2_with fail
          go_roundw
          case rel => exact ⟨j + 1, by omega, rfl, by rw [HN.out.1, HA.out]; rfl, hq.tr (Qd.tr q4)⟩
          case measure => simp [intOf]; omega
      · have hjn : j = l.length := by omega
        have hall : l.all (partOk x) = true := by have := HA.out; rwa [hjn, List.take_length] at this
        have QV := (QW.tr hq).tr Qd
        have hod := hon wr.drew
        have hsd := fun w4 (f : Nw wr.drew w4) => hsame w4 (QV.tr f)
        have HH := Lib.hid hall
        clear hall hix2 hpart hon hsame
        go_upto_region 10 with (fail)
        go_region_held3 (fun w2 => w2.cell? ⟨w.heap.size, 0, none⟩ = some (I64 x.kind) ∧ w2.cell? ⟨w.heap.size, 1, none⟩ = some (I64 x.nm.1) ∧ w2.cell? ⟨w.heap.size, 2, none⟩ = some (I64 x.nm.2) ∧ w2.cell? ⟨w.heap.size, 3, none⟩ = some (I64 x.epoch) ∧ w2.cell? ⟨w.heap.size, 4, none⟩ = some (.slice p.a x.acts.length p.ca) ∧ w2.cell? ⟨w.heap.size, 5, none⟩ = some (.bool x.commit) ∧ w2.cell? ⟨w.heap.size, 6, none⟩ = some (.slice p.r x.reads.length p.cr) ∧ w2.cell? ⟨w.heap.size, 7, none⟩ = some (I64 x.scheme) ∧ w2.cell? ⟨w.heap.size, 8, none⟩ = some (I64 x.stage) ∧ w2.cell? ⟨w.heap.size, 9, none⟩ = some (I64 x.to) ∧ w2.cell? ⟨w.heap.size, 10, none⟩ = some (StrV x.lo) ∧ w2.cell? ⟨w.heap.size, 11, none⟩ = some (StrV x.hi) ∧ w2.cell? ⟨w.heap.size, 12, none⟩ = some (.slice p.b x.bytes.length p.cb)) (first | (exact sd) | (exact s1) | (exact s2) | fail)
          ((first | (go_at_call 83; refine hod.mono ?_; rintro e w4 ⟨rfl, q4⟩; have s1 := hS w4 (Qd.tr q4); have Q4 := QV.tr q4) | (go_at_call 18; refine (hsd w4 q4).mono ?_; rintro e w5 ⟨rfl, q5⟩; have s2 := hS w5 ((Qd.tr q4).tr q5); have Q5 := Q4.tr q5)))
        all_goals
          go_wp2_with fail
          go_ret
          exact ⟨retB (by rw [HO.out, HH.out]; rfl), Q5⟩
  · rw [decide_eq_false hk] at hwi
    have hkk : kindOk x.kind = false := decide_eq_false hk
    rw [hkk, Bool.false_and, Bool.false_and] at hok
    have HO := Lib.hid hok
    have c1 : ∀ w1, Nw W0 w1 → w1.cell? ⟨w.heap.size, 0, none⟩ = some (I64 x.kind) := fun w1 f => by simpa using (x0.fr f (fun h => h)).cell 0
    obtain ⟨W1, hW1⟩ : ∃ W1, W1 = W0.alloc (.cells kindCells 9) := ⟨_, rfl⟩
    have q1 : Nw W0 W1 := by rw [hW1]; exact (Fr.refl (fun _ => False) W0).alloc _
    have c11 := c1 W1 q1
    have HW1 := Lib.hid hW1
    clear hok hkk hk hW1
    go_enter Tryz.func28, Tryz.ntmps28
    go_upto_region 1 with (fail)
    rw [← HW0.out]
    go_upto_region 2 with (fail)
    rw [← HW1.out]
    go_wp2_with (go_at_call 81; refine (hwi _).mono ?_; rintro e w1 ⟨rfl, q2⟩)
    go_ret
    exact ⟨retB HO.out.symm, (q0.tr q1).tr q2⟩
end Go.Proofs.YtkjnlhidnkbelaaGreatDoor
