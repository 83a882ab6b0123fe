/- Orders, answers held against each other, by the document. (Printed by gensame.py.) -/
import Derived.Test.YtkjnlhidnkbelaaGreatDoorGr6
import Derived.Test.YtkjnlhidnkbelaaGreatDoorKitA
namespace Go.Proofs.YtkjnlhidnkbelaaGreatDoor
open Go Go.RowKit
set_option maxRecDepth 100000 in
set_option maxHeartbeats 8000000 in
theorem rsameAns_any (w : World) (F1 F2 : Nat → Prop) (x y : AnsF) (p q : Pl) (hx : AnsIn w F1 x p) (hy : AnsIn w F2 y q) (hzx : AnsSz x) :
    Calls Tryz.prog 21 #[.agg (afA x p), .agg (afA y q)] w fun e w' => e = .returned (.bool (decide (x = y))) ∧ Nw w w' := by
  rw [ansF_eq x y]
  obtain ⟨W0, hW0⟩ : ∃ W0, W0 = w.alloc (.cells (afA x p) 60) := ⟨_, rfl⟩
  have q0 : Nw w W0 := by rw [hW0]; exact (Fr.refl (fun _ => False) w).alloc _
  have x0 : Blk W0 w.heap.size 60 (afA x p) := by rw [hW0]; exact Blk.new w _ _
  have hz0 : W0.heap.size = w.heap.size + 1 := by rw [hW0]; simp
  obtain ⟨W1, hW1⟩ : ∃ W1, W1 = W0.alloc (.cells (afA y q) 60) := ⟨_, rfl⟩
  have q1 : Nw W0 W1 := by rw [hW1]; exact (Fr.refl (fun _ => False) W0).alloc _
  have y1 : Blk W1 (w.heap.size + 1) 60 (afA y q) := by rw [hW1, ← hz0]; exact Blk.new W0 _ _
  have x1 := x0.fr q1 (fun h => h)
  have q01 := q0.tr q1
  obtain ⟨d1, e1⟩ : ∃ d, decide (x.err = y.err) = d := ⟨_, rfl⟩
  have z1 : (x.err == y.err) = d1 := (beq_int _ _).trans e1
  obtain ⟨d2, e2⟩ : ∃ d, decide (x.nm = y.nm) = d := ⟨_, rfl⟩
  have z2 := fun w => name_eql w x.nm y.nm
  simp only [e2] at z2
  obtain ⟨d3, e3⟩ : ∃ d, decide (x.is = y.is) = d := ⟨_, rfl⟩
  have z3 : (x.is == y.is) = d3 := (beq_bool _ _).trans e3
  obtain ⟨d4, e4⟩ : ∃ d, decide (x.commit = y.commit) = d := ⟨_, rfl⟩
  have z4 : (x.commit == y.commit) = d4 := (beq_bool _ _).trans e4
  obtain ⟨d5, e5⟩ : ∃ d, decide (x.reads = y.reads) = d := ⟨_, rfl⟩
  have z5 : ∀ w1, Nw W1 w1 → Calls Tryz.prog 68 #[.slice p.r x.reads.length p.cr, .slice q.r y.reads.length q.cr] w1 fun e w' => e = .returned (.bool d5) ∧ Nw w1 w' := fun w1 f => by
    rw [← e5]
    exact sameReads_any w1 F1 F2 p.r q.r p.cr q.cr x.reads y.reads (hx.reads.fr (q01.tr f) (fun _ _ h => h)) (hy.reads.fr (q01.tr f) (fun _ _ h => h)) hzx.reads.1
  obtain ⟨d6, e6⟩ : ∃ d, decide (x.scheme = y.scheme) = d := ⟨_, rfl⟩
  have z6 : (x.scheme == y.scheme) = d6 := (beq_int _ _).trans e6
  obtain ⟨d7, e7⟩ : ∃ d, decide (x.stage = y.stage) = d := ⟨_, rfl⟩
  have z7 : (x.stage == y.stage) = d7 := (beq_int _ _).trans e7
  obtain ⟨d8, e8⟩ : ∃ d, decide (x.bytes = y.bytes) = d := ⟨_, rfl⟩
  have z8 : ∀ w1, Nw W1 w1 → Calls Tryz.prog 23 #[.slice p.b x.bytes.length p.cb, .slice q.b y.bytes.length q.cb] w1 fun e w' => e = .returned (.bool d8) ∧ Nw w1 w' := fun w1 f => by
    rw [← e8]
    exact (same_u8 w1 F1 F2 p.b q.b p.cb q.cb x.bytes y.bytes (hx.bytes.fr (q01.tr f) (fun _ _ h => h)) (hy.bytes.fr (q01.tr f) (fun _ _ h => h)) (by have := hzx.bytes; omega)).mono fun e w' h => ⟨h.1, h.2.fr _⟩
  rw [e1, e2, e3, e4, e5, e6, e7, e8]
  have hS : ∀ w1, Nw W1 w1 → w1.cell? ⟨w.heap.size, 0, none⟩ = some (I64 x.err) ∧ w1.cell? ⟨w.heap.size, 1, none⟩ = some (I64 x.nm.1) ∧ w1.cell? ⟨w.heap.size, 2, none⟩ = some (I64 x.nm.2) ∧ w1.cell? ⟨w.heap.size, 3, none⟩ = some (.bool x.is) ∧ w1.cell? ⟨w.heap.size, 4, none⟩ = some (.bool x.commit) ∧ w1.cell? ⟨w.heap.size, 5, none⟩ = some (.slice p.r x.reads.length p.cr) ∧ w1.cell? ⟨w.heap.size, 6, none⟩ = some (I64 x.scheme) ∧ w1.cell? ⟨w.heap.size, 7, none⟩ = some (I64 x.stage) ∧ w1.cell? ⟨w.heap.size, 8, none⟩ = some (.slice p.b x.bytes.length p.cb) ∧ w1.cell? ⟨w.heap.size + 1, 0, none⟩ = some (I64 y.err) ∧ w1.cell? ⟨w.heap.size + 1, 1, none⟩ = some (I64 y.nm.1) ∧ w1.cell? ⟨w.heap.size + 1, 2, none⟩ = some (I64 y.nm.2) ∧ w1.cell? ⟨w.heap.size + 1, 3, none⟩ = some (.bool y.is) ∧ w1.cell? ⟨w.heap.size + 1, 4, none⟩ = some (.bool y.commit) ∧ w1.cell? ⟨w.heap.size + 1, 5, none⟩ = some (.slice q.r y.reads.length q.cr) ∧ w1.cell? ⟨w.heap.size + 1, 6, none⟩ = some (I64 y.scheme) ∧ w1.cell? ⟨w.heap.size + 1, 7, none⟩ = some (I64 y.stage) ∧ w1.cell? ⟨w.heap.size + 1, 8, none⟩ = some (.slice q.b y.bytes.length q.cb) := fun w1 f => by
    have a := x1.fr f (fun h => h)
    have b := y1.fr f (fun h => h)
    exact ⟨by simpa using a.cell 0, by simpa using a.cell 1, by simpa using a.cell 2, by simpa using a.cell 3, by simpa using a.cell 4, by simpa using a.cell 5, by simpa using a.cell 6, by simpa using a.cell 7, by simpa using a.cell 8, by simpa using b.cell 0, by simpa using b.cell 1, by simpa using b.cell 2, by simpa using b.cell 3, by simpa using b.cell 4, by simpa using b.cell 5, by simpa using b.cell 6, by simpa using b.cell 7, by simpa using b.cell 8⟩
  have HW0 := Lib.hid hW0
  have HW1 := Lib.hid hW1
  have hS1 := hS W1 (Fr.refl _ _)
  clear hW0 hW1 x0 y1 x1 hx hy e1 e2 e3 e4 e5 e6 e7 e8
  cases d1 with
  | false =>
    go_enter Tryz.func21, Tryz.ntmps21
    go_wp2_with fail
    go_ret
    exact ⟨by simp, by have h := q01; rw [HW1.out, HW0.out] at h; exact h⟩
  | true =>
    cases d2 with
    | false =>
      go_enter Tryz.func21, Tryz.ntmps21
      go_wp2_with fail
      go_ret
      exact ⟨by simp, by have h := q01; rw [HW1.out, HW0.out] at h; exact h⟩
    | true =>
      cases d3 with
      | false =>
        go_enter Tryz.func21, Tryz.ntmps21
        go_wp2_with fail
        go_ret
        exact ⟨by simp, by have h := q01; rw [HW1.out, HW0.out] at h; exact h⟩
      | true =>
        cases d4 with
        | false =>
          go_enter Tryz.func21, Tryz.ntmps21
          go_wp2_with fail
          go_ret
          exact ⟨by simp, by have h := q01; rw [HW1.out, HW0.out] at h; exact h⟩
        | true =>
          cases d5 with
          | false =>
            go_enter Tryz.func21, Tryz.ntmps21
            go_wp2_with fail
            rw [← HW0.out, ← HW1.out]
            refine (z5 _ (Fr.refl _ W1)).mono ?_
            rintro e v1 ⟨rfl, r1⟩
            have Q1 := (Fr.refl (fun _ => False) W1).tr r1
            go_wp2_with fail
            go_ret
            exact ⟨by simp, q01.tr Q1⟩
          | true =>
            cases d6 with
            | false =>
              go_enter Tryz.func21, Tryz.ntmps21
              go_wp2_with fail
              rw [← HW0.out, ← HW1.out]
              refine (z5 _ (Fr.refl _ W1)).mono ?_
              rintro e v1 ⟨rfl, r1⟩
              have Q1 := (Fr.refl (fun _ => False) W1).tr r1
              obtain ⟨k0, k1, k2, k3, k4, k5, k6, k7, k8, k9, k10, k11, k12, k13, k14, k15, k16, k17⟩ := hS v1 Q1
              go_wp2_with fail
              go_ret
              exact ⟨by simp, q01.tr Q1⟩
            | true =>
              cases d7 with
              | false =>
                go_enter Tryz.func21, Tryz.ntmps21
                go_wp2_with fail
                rw [← HW0.out, ← HW1.out]
                refine (z5 _ (Fr.refl _ W1)).mono ?_
                rintro e v1 ⟨rfl, r1⟩
                have Q1 := (Fr.refl (fun _ => False) W1).tr r1
                obtain ⟨k0, k1, k2, k3, k4, k5, k6, k7, k8, k9, k10, k11, k12, k13, k14, k15, k16, k17⟩ := hS v1 Q1
                go_wp2_with fail
                go_ret
                exact ⟨by simp, q01.tr Q1⟩
              | true =>
                cases d8 with
                | false =>
                  go_enter Tryz.func21, Tryz.ntmps21
                  go_wp2_with fail
                  rw [← HW0.out, ← HW1.out]
                  refine (z5 _ (Fr.refl _ W1)).mono ?_
                  rintro e v1 ⟨rfl, r1⟩
                  have Q1 := (Fr.refl (fun _ => False) W1).tr r1
                  obtain ⟨k0, k1, k2, k3, k4, k5, k6, k7, k8, k9, k10, k11, k12, k13, k14, k15, k16, k17⟩ := hS v1 Q1
                  go_wp2_with fail
                  refine (z8 _ Q1).mono ?_
                  rintro e v2 ⟨rfl, r2⟩
                  have Q2 := Q1.tr r2
                  go_wp2_with fail
                  go_ret
                  exact ⟨by simp, q01.tr Q2⟩
                | true =>
                  go_enter Tryz.func21, Tryz.ntmps21
                  go_wp2_with fail
                  rw [← HW0.out, ← HW1.out]
                  refine (z5 _ (Fr.refl _ W1)).mono ?_
                  rintro e v1 ⟨rfl, r1⟩
                  have Q1 := (Fr.refl (fun _ => False) W1).tr r1
                  obtain ⟨k0, k1, k2, k3, k4, k5, k6, k7, k8, k9, k10, k11, k12, k13, k14, k15, k16, k17⟩ := hS v1 Q1
                  go_wp2_with fail
                  refine (z8 _ Q1).mono ?_
                  rintro e v2 ⟨rfl, r2⟩
                  have Q2 := Q1.tr r2
                  go_wp2_with fail
                  go_ret
                  exact ⟨by simp, q01.tr Q2⟩
end Go.Proofs.YtkjnlhidnkbelaaGreatDoor
