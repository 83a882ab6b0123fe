/- Lemmas of the walks: OfD. (Laid together by shake.py.) -/
import Derived.Test.YtkjnlhidnkbelaaGreatDoorOz13
set_option linter.unusedVariables false
set_option linter.unusedSimpArgs false
namespace Go.Proofs.YtkjnlhidnkbelaaGreatDoor
open Go Go.RowKit
set_option maxRecDepth 100000 in
set_option maxHeartbeats 4000000 in
theorem rsound_any (w : World) (F : Nat → Prop) (x : AnsF) (p : Pl) (hi : AnsIn w F x p) (hz : AnsSz x) :
    Calls Tryz.prog 34 #[.agg (afA x p)] w fun e w' => e = .returned (.bool (ansOk x)) ∧ Nw w w' := by
  obtain ⟨W0, hW0⟩ : ∃ W0, W0 = w.alloc (.cells (afA x p) 60) := ⟨_, rfl⟩
  have q0 : Nw w W0 := by rw [hW0]; exact (Fr.refl (fun _ => False) w).alloc _
  have x0 : Blk W0 w.heap.size 60 (afA x p) := by rw [hW0]; exact Blk.new w _ _
  have hS : ∀ w1, Nw W0 w1 → w1.cell? ⟨w.heap.size, 0, none⟩ = some (I64 x.err) ∧ w1.cell? ⟨w.heap.size, 1, none⟩ = some (I64 x.nm.1) ∧ w1.cell? ⟨w.heap.size, 2, none⟩ = some (I64 x.nm.2) ∧ w1.cell? ⟨w.heap.size, 3, none⟩ = some (.bool x.is) ∧ w1.cell? ⟨w.heap.size, 4, none⟩ = some (.bool x.commit) ∧ w1.cell? ⟨w.heap.size, 5, none⟩ = some (.slice p.r x.reads.length p.cr) ∧ w1.cell? ⟨w.heap.size, 6, none⟩ = some (I64 x.scheme) ∧ w1.cell? ⟨w.heap.size, 7, none⟩ = some (I64 x.stage) ∧ w1.cell? ⟨w.heap.size, 8, none⟩ = some (.slice p.b x.bytes.length p.cb) := fun w1 f => by
    have a := x0.fr f (fun h => h)
    exact ⟨by simpa using a.cell 0, by simpa using a.cell 1, by simpa using a.cell 2, by simpa using a.cell 3, by simpa using a.cell 4, by simpa using a.cell 5, by simpa using a.cell 6, by simpa using a.cell 7, by simpa using a.cell 8⟩
  have hS0 := hS W0 (Fr.refl _ _)
  have hrd : rdgsOk true x.reads = (decide (x.reads.length ≤ 6) && x.reads.all rdgOk) := by rw [rdgs_ref]; simp
  have hok : ansOk x = (decide (0 ≤ x.err ∧ x.err ≤ 99) && ((decide (x.nm = (0, 0)) || decide (nmOk x.nm)) && (rdgsOk true x.reads && (decide (0 ≤ x.scheme ∧ x.scheme ≤ 1073741824) && (decide (0 ≤ x.stage ∧ x.stage ≤ 20) && decide (x.bytes.length ≤ 131072)))))) := rfl
  rw [hrd] at hok
  obtain ⟨r, hr⟩ : ∃ r, ansOk x = r := ⟨_, rfl⟩
  rw [hr] at hok ⊢
  clear hr
  have zq := fun w => name_eql w x.nm (0, 0)
  obtain ⟨d1, e1⟩ : ∃ d, decide (x.nm = (0, 0)) = d := ⟨_, rfl⟩
  simp only [e1] at zq hok
  have zn := fun w => refName_any w x.nm
  obtain ⟨d2, e2⟩ : ∃ d, decide (nmOk x.nm) = d := ⟨_, rfl⟩
  simp only [e2] at zn hok
  have zw1 := fun w => rfwithin_any w 0 x.err 99
  obtain ⟨d3, e3⟩ : ∃ d, decide (0 ≤ x.err ∧ x.err ≤ 99) = d := ⟨_, rfl⟩
  simp only [e3] at zw1 hok
  have zt : ∀ w1, Nw W0 w1 → Calls Tryz.prog 87 #[.slice p.r x.reads.length p.cr] w1 fun e w' => e = .returned (.bool (decide (x.reads.length ≤ 6) && x.reads.all rdgOk)) ∧ Nw w1 w' := fun w1 f => refReads_any w1 F p.r p.cr x.reads (hi.reads.fr (q0.tr f) (fun _ _ h => h)) hz.reads.1 hz.reads.2
  obtain ⟨d4, e4⟩ : ∃ d, (decide (x.reads.length ≤ 6) && x.reads.all rdgOk) = d := ⟨_, rfl⟩
  simp only [e4] at zt hok
  have zw2 := fun w => rfwithin_any w 0 x.scheme 1073741824
  obtain ⟨d5, e5⟩ : ∃ d, decide (0 ≤ x.scheme ∧ x.scheme ≤ 1073741824) = d := ⟨_, rfl⟩
  simp only [e5] at zw2 hok
  have zw3 := fun w => rfwithin_any w 0 x.stage 20
  obtain ⟨d6, e6⟩ : ∃ d, decide (0 ≤ x.stage ∧ x.stage ≤ 20) = d := ⟨_, rfl⟩
  simp only [e6] at zw3 hok
  have zl : decide ((x.bytes.length : Int) ≤ 131072) = decide (x.bytes.length ≤ 131072) := by congr 1; apply propext; omega
  obtain ⟨d7, e7⟩ : ∃ d, decide (x.bytes.length ≤ 131072) = d := ⟨_, rfl⟩
  rw [e7] at zl hok
  have HO := Lib.hid hok
  have HZ := Lib.hid zl
  have HW0 := Lib.hid hW0
  clear hW0 x0 hi hz hok e1 e2 e3 e4 e5 e6 e7 zl hrd
  cases d3 with
  | false =>
    go_enter Tryz.func34, Tryz.ntmps34
    go_wp2_with fail
    rw [← HW0.out]
    refine (zw1 _).mono ?_
    rintro e w2 ⟨rfl, q2⟩
    have q2q : Nw W0 w2 := (Fr.refl _ W0).tr q2
    obtain ⟨k2_0, k2_1, k2_2, k2_3, k2_4, k2_5, k2_6, k2_7, k2_8⟩ := hS w2 q2q
    go_wp2_with fail
    go_ret
    exact ⟨retB (by rw [HO.out]; first | (simp; done) | (have := HZ.out; simpa using this)), q0.tr q2q⟩
  | true =>
    cases d1 with
    | false =>
      cases d2 with
      | false =>
        go_enter Tryz.func34, Tryz.ntmps34
        go_wp2_with fail
        rw [← HW0.out]
        refine (zw1 _).mono ?_
        rintro e w2 ⟨rfl, q2⟩
        have q2q : Nw W0 w2 := (Fr.refl _ W0).tr q2
        obtain ⟨k2_0, k2_1, k2_2, k2_3, k2_4, k2_5, k2_6, k2_7, k2_8⟩ := hS w2 q2q
        go_wp2_with fail
        refine (zn _).mono ?_
        rintro e w1 ⟨rfl, q1⟩
        have q1q : Nw W0 w1 := q2q.tr q1
        obtain ⟨k1_0, k1_1, k1_2, k1_3, k1_4, k1_5, k1_6, k1_7, k1_8⟩ := hS w1 q1q
        go_wp2_with fail
        go_ret
        exact ⟨retB (by rw [HO.out]; first | (simp; done) | (have := HZ.out; simpa using this)), q0.tr q1q⟩
      | true =>
        cases d4 with
        | false =>
          go_enter Tryz.func34, Tryz.ntmps34
          go_wp2_with fail
          rw [← HW0.out]
          refine (zw1 _).mono ?_
          rintro e w2 ⟨rfl, q2⟩
          have q2q : Nw W0 w2 := (Fr.refl _ W0).tr q2
          obtain ⟨k2_0, k2_1, k2_2, k2_3, k2_4, k2_5, k2_6, k2_7, k2_8⟩ := hS w2 q2q
          go_wp2_with fail
          refine (zn _).mono ?_
          rintro e w1 ⟨rfl, q1⟩
          have q1q : Nw W0 w1 := q2q.tr q1
          obtain ⟨k1_0, k1_1, k1_2, k1_3, k1_4, k1_5, k1_6, k1_7, k1_8⟩ := hS w1 q1q
          go_wp2_with fail
          refine (zt _ q1q).mono ?_
          rintro e w3 ⟨rfl, q3⟩
          have q3q : Nw W0 w3 := q1q.tr q3
          obtain ⟨k3_0, k3_1, k3_2, k3_3, k3_4, k3_5, k3_6, k3_7, k3_8⟩ := hS w3 q3q
          go_wp2_with fail
          go_ret
          exact ⟨retB (by rw [HO.out]; first | (simp; done) | (have := HZ.out; simpa using this)), q0.tr q3q⟩
        | true =>
          cases d5 with
          | false =>
            go_enter Tryz.func34, Tryz.ntmps34
            go_wp2_with fail
            rw [← HW0.out]
            refine (zw1 _).mono ?_
            rintro e w2 ⟨rfl, q2⟩
            have q2q : Nw W0 w2 := (Fr.refl _ W0).tr q2
            obtain ⟨k2_0, k2_1, k2_2, k2_3, k2_4, k2_5, k2_6, k2_7, k2_8⟩ := hS w2 q2q
            go_wp2_with fail
            refine (zn _).mono ?_
            rintro e w1 ⟨rfl, q1⟩
            have q1q : Nw W0 w1 := q2q.tr q1
            obtain ⟨k1_0, k1_1, k1_2, k1_3, k1_4, k1_5, k1_6, k1_7, k1_8⟩ := hS w1 q1q
            go_wp2_with fail
            refine (zt _ q1q).mono ?_
            rintro e w3 ⟨rfl, q3⟩
            have q3q : Nw W0 w3 := q1q.tr q3
            obtain ⟨k3_0, k3_1, k3_2, k3_3, k3_4, k3_5, k3_6, k3_7, k3_8⟩ := hS w3 q3q
            go_wp2_with fail
            refine (zw2 _).mono ?_
            rintro e w4 ⟨rfl, q4⟩
            have q4q : Nw W0 w4 := q3q.tr q4
            obtain ⟨k4_0, k4_1, k4_2, k4_3, k4_4, k4_5, k4_6, k4_7, k4_8⟩ := hS w4 q4q
            go_wp2_with fail
            go_ret
            exact ⟨retB (by rw [HO.out]; first | (simp; done) | (have := HZ.out; simpa using this)), q0.tr q4q⟩
          | true =>
            cases d6 with
            | false =>
              go_enter Tryz.func34, Tryz.ntmps34
              go_wp2_with fail
              rw [← HW0.out]
              refine (zw1 _).mono ?_
              rintro e w2 ⟨rfl, q2⟩
              have q2q : Nw W0 w2 := (Fr.refl _ W0).tr q2
              obtain ⟨k2_0, k2_1, k2_2, k2_3, k2_4, k2_5, k2_6, k2_7, k2_8⟩ := hS w2 q2q
              go_wp2_with fail
              refine (zn _).mono ?_
              rintro e w1 ⟨rfl, q1⟩
              have q1q : Nw W0 w1 := q2q.tr q1
              obtain ⟨k1_0, k1_1, k1_2, k1_3, k1_4, k1_5, k1_6, k1_7, k1_8⟩ := hS w1 q1q
              go_wp2_with fail
              refine (zt _ q1q).mono ?_
              rintro e w3 ⟨rfl, q3⟩
              have q3q : Nw W0 w3 := q1q.tr q3
              obtain ⟨k3_0, k3_1, k3_2, k3_3, k3_4, k3_5, k3_6, k3_7, k3_8⟩ := hS w3 q3q
              go_wp2_with fail
              refine (zw2 _).mono ?_
              rintro e w4 ⟨rfl, q4⟩
              have q4q : Nw W0 w4 := q3q.tr q4
              obtain ⟨k4_0, k4_1, k4_2, k4_3, k4_4, k4_5, k4_6, k4_7, k4_8⟩ := hS w4 q4q
              go_wp2_with fail
              refine (zw3 _).mono ?_
              rintro e w5 ⟨rfl, q5⟩
              have q5q : Nw W0 w5 := q4q.tr q5
              obtain ⟨k5_0, k5_1, k5_2, k5_3, k5_4, k5_5, k5_6, k5_7, k5_8⟩ := hS w5 q5q
              go_wp2_with fail
              go_ret
              exact ⟨retB (by rw [HO.out]; first | (simp; done) | (have := HZ.out; simpa using this)), q0.tr q5q⟩
            | true =>
              go_enter Tryz.func34, Tryz.ntmps34
              go_wp2_with fail
              rw [← HW0.out]
              refine (zw1 _).mono ?_
              rintro e w2 ⟨rfl, q2⟩
              have q2q : Nw W0 w2 := (Fr.refl _ W0).tr q2
              obtain ⟨k2_0, k2_1, k2_2, k2_3, k2_4, k2_5, k2_6, k2_7, k2_8⟩ := hS w2 q2q
              go_wp2_with fail
              refine (zn _).mono ?_
              rintro e w1 ⟨rfl, q1⟩
              have q1q : Nw W0 w1 := q2q.tr q1
              obtain ⟨k1_0, k1_1, k1_2, k1_3, k1_4, k1_5, k1_6, k1_7, k1_8⟩ := hS w1 q1q
              go_wp2_with fail
              refine (zt _ q1q).mono ?_
              rintro e w3 ⟨rfl, q3⟩
              have q3q : Nw W0 w3 := q1q.tr q3
              obtain ⟨k3_0, k3_1, k3_2, k3_3, k3_4, k3_5, k3_6, k3_7, k3_8⟩ := hS w3 q3q
              go_wp2_with fail
              refine (zw2 _).mono ?_
              rintro e w4 ⟨rfl, q4⟩
              have q4q : Nw W0 w4 := q3q.tr q4
              obtain ⟨k4_0, k4_1, k4_2, k4_3, k4_4, k4_5, k4_6, k4_7, k4_8⟩ := hS w4 q4q
              go_wp2_with fail
              refine (zw3 _).mono ?_
              rintro e w5 ⟨rfl, q5⟩
              have q5q : Nw W0 w5 := q4q.tr q5
              obtain ⟨k5_0, k5_1, k5_2, k5_3, k5_4, k5_5, k5_6, k5_7, k5_8⟩ := hS w5 q5q
              go_wp2_with fail
              go_ret
              exact ⟨retB (by rw [HO.out]; first | (simp; done) | (have := HZ.out; simpa using this)), q0.tr q5q⟩
    | true =>
      cases d4 with
      | false =>
        go_enter Tryz.func34, Tryz.ntmps34
        go_wp2_with fail
        rw [← HW0.out]
        refine (zw1 _).mono ?_
        rintro e w2 ⟨rfl, q2⟩
        have q2q : Nw W0 w2 := (Fr.refl _ W0).tr q2
        obtain ⟨k2_0, k2_1, k2_2, k2_3, k2_4, k2_5, k2_6, k2_7, k2_8⟩ := hS w2 q2q
        go_wp2_with fail
        refine (zt _ q2q).mono ?_
        rintro e w3 ⟨rfl, q3⟩
        have q3q : Nw W0 w3 := q2q.tr q3
        obtain ⟨k3_0, k3_1, k3_2, k3_3, k3_4, k3_5, k3_6, k3_7, k3_8⟩ := hS w3 q3q
        go_wp2_with fail
        go_ret
        exact ⟨retB (by rw [HO.out]; first | (simp; done) | (have := HZ.out; simpa using this)), q0.tr q3q⟩
      | true =>
        cases d5 with
        | false =>
          go_enter Tryz.func34, Tryz.ntmps34
          go_wp2_with fail
          rw [← HW0.out]
          refine (zw1 _).mono ?_
          rintro e w2 ⟨rfl, q2⟩
          have q2q : Nw W0 w2 := (Fr.refl _ W0).tr q2
          obtain ⟨k2_0, k2_1, k2_2, k2_3, k2_4, k2_5, k2_6, k2_7, k2_8⟩ := hS w2 q2q
          go_wp2_with fail
          refine (zt _ q2q).mono ?_
          rintro e w3 ⟨rfl, q3⟩
          have q3q : Nw W0 w3 := q2q.tr q3
          obtain ⟨k3_0, k3_1, k3_2, k3_3, k3_4, k3_5, k3_6, k3_7, k3_8⟩ := hS w3 q3q
          go_wp2_with fail
          refine (zw2 _).mono ?_
          rintro e w4 ⟨rfl, q4⟩
          have q4q : Nw W0 w4 := q3q.tr q4
          obtain ⟨k4_0, k4_1, k4_2, k4_3, k4_4, k4_5, k4_6, k4_7, k4_8⟩ := hS w4 q4q
          go_wp2_with fail
          go_ret
          exact ⟨retB (by rw [HO.out]; first | (simp; done) | (have := HZ.out; simpa using this)), q0.tr q4q⟩
        | true =>
          cases d6 with
          | false =>
            go_enter Tryz.func34, Tryz.ntmps34
            go_wp2_with fail
            rw [← HW0.out]
            refine (zw1 _).mono ?_
            rintro e w2 ⟨rfl, q2⟩
            have q2q : Nw W0 w2 := (Fr.refl _ W0).tr q2
            obtain ⟨k2_0, k2_1, k2_2, k2_3, k2_4, k2_5, k2_6, k2_7, k2_8⟩ := hS w2 q2q
            go_wp2_with fail
            refine (zt _ q2q).mono ?_
            rintro e w3 ⟨rfl, q3⟩
            have q3q : Nw W0 w3 := q2q.tr q3
            obtain ⟨k3_0, k3_1, k3_2, k3_3, k3_4, k3_5, k3_6, k3_7, k3_8⟩ := hS w3 q3q
            go_wp2_with fail
            refine (zw2 _).mono ?_
            rintro e w4 ⟨rfl, q4⟩
            have q4q : Nw W0 w4 := q3q.tr q4
            obtain ⟨k4_0, k4_1, k4_2, k4_3, k4_4, k4_5, k4_6, k4_7, k4_8⟩ := hS w4 q4q
            go_wp2_with fail
            refine (zw3 _).mono ?_
            rintro e w5 ⟨rfl, q5⟩
            have q5q : Nw W0 w5 := q4q.tr q5
            obtain ⟨k5_0, k5_1, k5_2, k5_3, k5_4, k5_5, k5_6, k5_7, k5_8⟩ := hS w5 q5q
            go_wp2_with fail
            go_ret
            exact ⟨retB (by rw [HO.out]; first | (simp; done) | (have := HZ.out; simpa using this)), q0.tr q5q⟩
          | true =>
            go_enter Tryz.func34, Tryz.ntmps34
            go_wp2_with fail
            rw [← HW0.out]
            refine (zw1 _).mono ?_
            rintro e w2 ⟨rfl, q2⟩
            have q2q : Nw W0 w2 := (Fr.refl _ W0).tr q2
            obtain ⟨k2_0, k2_1, k2_2, k2_3, k2_4, k2_5, k2_6, k2_7, k2_8⟩ := hS w2 q2q
            go_wp2_with fail
            refine (zt _ q2q).mono ?_
            rintro e w3 ⟨rfl, q3⟩
            have q3q : Nw W0 w3 := q2q.tr q3
            obtain ⟨k3_0, k3_1, k3_2, k3_3, k3_4, k3_5, k3_6, k3_7, k3_8⟩ := hS w3 q3q
            go_wp2_with fail
            refine (zw2 _).mono ?_
            rintro e w4 ⟨rfl, q4⟩
            have q4q : Nw W0 w4 := q3q.tr q4
            obtain ⟨k4_0, k4_1, k4_2, k4_3, k4_4, k4_5, k4_6, k4_7, k4_8⟩ := hS w4 q4q
            go_wp2_with fail
            refine (zw3 _).mono ?_
            rintro e w5 ⟨rfl, q5⟩
            have q5q : Nw W0 w5 := q4q.tr q5
            obtain ⟨k5_0, k5_1, k5_2, k5_3, k5_4, k5_5, k5_6, k5_7, k5_8⟩ := hS w5 q5q
            go_wp2_with fail
            go_ret
            exact ⟨retB (by rw [HO.out]; first | (simp; done) | (have := HZ.out; simpa using this)), q0.tr q5q⟩
set_option maxRecDepth 100000 in
set_option maxHeartbeats 4000000 in
theorem turned22_any (w : World) (x : OrdF) (p : Pl) (hk : 0 ≤ x.kind ∧ x.kind ≤ 255) :
    Calls Tryz.prog 19 #[.agg (ofA (U8V x.kind) x p)] w fun e w' => e = .returned (.agg (ofA (I64 x.kind) x p)) ∧ Nw w w' := by
  obtain ⟨W0, hW0⟩ : ∃ W0, W0 = w.alloc (.cells (ofA (U8V x.kind) x p) 31) := ⟨_, rfl⟩
  have q0 : Nw w W0 := by rw [hW0]; exact (Fr.refl (fun _ => False) w).alloc _
  have x0 : Blk W0 w.heap.size 31 (ofA (U8V x.kind) x p) := by rw [hW0]; exact Blk.new w _ _
  have hz0 : W0.heap.size = w.heap.size + 1 := by rw [hW0]; simp
  obtain ⟨W1, hW1⟩ : ∃ W1, W1 = W0.alloc (.cells (zO (I64 0)) 55) := ⟨_, rfl⟩
  have q1 : Nw W0 W1 := by rw [hW1]; exact (Fr.refl (fun _ => False) W0).alloc _
  have y1 : Blk W1 (w.heap.size + 1) 55 (zO (I64 0)) := by rw [hW1, ← hz0]; exact Blk.new W0 _ _
  have x1 := x0.fr q1 (fun h => h)
  have b0 : W1.cell? ⟨w.heap.size, 0, none⟩ = some (.int .u8 x.kind) := by simpa using x1.cell 0
  have b1 : W1.cell? ⟨w.heap.size, 1, none⟩ = some (I64 x.nm.1) := by simpa using x1.cell 1
  have b2 : W1.cell? ⟨w.heap.size, 2, none⟩ = some (I64 x.nm.2) := by simpa using x1.cell 2
  have b3 : W1.cell? ⟨w.heap.size, 3, none⟩ = some (I64 x.epoch) := by simpa using x1.cell 3
  have b4 : W1.cell? ⟨w.heap.size, 4, none⟩ = some (.slice p.a x.acts.length p.ca) := by simpa using x1.cell 4
  have b5 : W1.cell? ⟨w.heap.size, 5, none⟩ = some (.bool x.commit) := by simpa using x1.cell 5
  have b6 : W1.cell? ⟨w.heap.size, 6, none⟩ = some (.slice p.r x.reads.length p.cr) := by simpa using x1.cell 6
  have b7 : W1.cell? ⟨w.heap.size, 7, none⟩ = some (I64 x.scheme) := by simpa using x1.cell 7
  have b8 : W1.cell? ⟨w.heap.size, 8, none⟩ = some (I64 x.stage) := by simpa using x1.cell 8
  have b9 : W1.cell? ⟨w.heap.size, 9, none⟩ = some (I64 x.to) := by simpa using x1.cell 9
  have b10 : W1.cell? ⟨w.heap.size, 10, none⟩ = some (StrV x.lo) := by simpa using x1.cell 10
  have b11 : W1.cell? ⟨w.heap.size, 11, none⟩ = some (StrV x.hi) := by simpa using x1.cell 11
  have b12 : W1.cell? ⟨w.heap.size, 12, none⟩ = some (.slice p.b x.bytes.length p.cb) := by simpa using x1.cell 12
  have hth := Blk.there y1 0 13 (by show 0 + 13 ≤ 13; omega)
  have hone := of_one (I64 x.kind) rfl x p
  obtain ⟨W2, hW2⟩ : ∃ W2, W2 = W1.setCells (w.heap.size + 1) 0 (ofA (I64 x.kind) x p).toList := ⟨_, rfl⟩
  have y2 : Blk W2 (w.heap.size + 1) 55 (ofA (I64 x.kind) x p) := by rw [hW2]; exact Blk.setCells y1 0 (ofA (I64 x.kind) x p).toList
  have f2 : Fr (· = w.heap.size + 1) W1 W2 := by rw [hW2]; exact (Fr.refl _ W1).setCells _ _
  have hcv : IntKind.i64.wrap x.kind = x.kind := IntWalk.i64_in _ (by omega)
  have q2 : Nw w W2 := (q0.tr q1).new f2 (fun b hb => by omega)
  have HW0 := Lib.hid hW0
  have HW1 := Lib.hid hW1
  have HW2 := Lib.hid hW2
  clear hW0 hW1 hW2 x0 x1 y1
  go_enter Tryz.func19, Tryz.ntmps19
  go_upto_region 1 with (fail)
  rw [← HW0.out, ← HW1.out]
  go_wp2_with (refine wpList_store_mid rfl 55 _ _ rfl (w.heap.size + 1) 0 (ofA (I64 x.kind) x p) rfl rfl hth rord_size hone ?_)
  rw [← HW2.out]
  refine bodyPost_ret (v := .agg (ofA (I64 x.kind) x p)) ?_ rfl ?_
  · exact results_cell_row rfl _ _ (w.heap.size + 1) 55 _ (0, 0) _ rfl y2 Tryz.underlying55 rfl rord_size
  exact ⟨rfl, q2⟩
set_option maxRecDepth 100000 in
set_option maxHeartbeats 4000000 in
theorem told22_any (w : World) (x : AnsF) (p : Pl) :
    Calls Tryz.prog 22 #[.agg (afA x p)] w fun e w' => e = .returned (.agg (afA x p)) ∧ Nw w w' := by
  obtain ⟨W0, hW0⟩ : ∃ W0, W0 = w.alloc (.cells (afA x p) 41) := ⟨_, rfl⟩
  have q0 : Nw w W0 := by rw [hW0]; exact (Fr.refl (fun _ => False) w).alloc _
  have x0 : Blk W0 w.heap.size 41 (afA x p) := by rw [hW0]; exact Blk.new w _ _
  have hz0 : W0.heap.size = w.heap.size + 1 := by rw [hW0]; simp
  obtain ⟨W1, hW1⟩ : ∃ W1, W1 = W0.alloc (.cells (zA) 60) := ⟨_, rfl⟩
  have q1 : Nw W0 W1 := by rw [hW1]; exact (Fr.refl (fun _ => False) W0).alloc _
  have y1 : Blk W1 (w.heap.size + 1) 60 (zA) := by rw [hW1, ← hz0]; exact Blk.new W0 _ _
  have x1 := x0.fr q1 (fun h => h)
  have b0 : W1.cell? ⟨w.heap.size, 0, none⟩ = some (I64 x.err) := by simpa using x1.cell 0
  have b1 : W1.cell? ⟨w.heap.size, 1, none⟩ = some (I64 x.nm.1) := by simpa using x1.cell 1
  have b2 : W1.cell? ⟨w.heap.size, 2, none⟩ = some (I64 x.nm.2) := by simpa using x1.cell 2
  have b3 : W1.cell? ⟨w.heap.size, 3, none⟩ = some (.bool x.is) := by simpa using x1.cell 3
  have b4 : W1.cell? ⟨w.heap.size, 4, none⟩ = some (.bool x.commit) := by simpa using x1.cell 4
  have b5 : W1.cell? ⟨w.heap.size, 5, none⟩ = some (.slice p.r x.reads.length p.cr) := by simpa using x1.cell 5
  have b6 : W1.cell? ⟨w.heap.size, 6, none⟩ = some (I64 x.scheme) := by simpa using x1.cell 6
  have b7 : W1.cell? ⟨w.heap.size, 7, none⟩ = some (I64 x.stage) := by simpa using x1.cell 7
  have b8 : W1.cell? ⟨w.heap.size, 8, none⟩ = some (.slice p.b x.bytes.length p.cb) := by simpa using x1.cell 8
  have hth := Blk.there y1 0 9 (by show 0 + 9 ≤ 9; omega)
  have hone := af_one x p
  obtain ⟨W2, hW2⟩ : ∃ W2, W2 = W1.setCells (w.heap.size + 1) 0 (afA x p).toList := ⟨_, rfl⟩
  have y2 : Blk W2 (w.heap.size + 1) 60 (afA x p) := by rw [hW2]; exact Blk.setCells y1 0 (afA x p).toList
  have f2 : Fr (· = w.heap.size + 1) W1 W2 := by rw [hW2]; exact (Fr.refl _ W1).setCells _ _
  have q2 : Nw w W2 := (q0.tr q1).new f2 (fun b hb => by omega)
  have HW0 := Lib.hid hW0
  have HW1 := Lib.hid hW1
  have HW2 := Lib.hid hW2
  clear hW0 hW1 hW2 x0 x1 y1
  go_enter Tryz.func22, Tryz.ntmps22
  go_upto_region 1 with (fail)
  rw [← HW0.out, ← HW1.out]
  go_wp2_with (refine wpList_store_mid rfl 60 _ _ rfl (w.heap.size + 1) 0 (afA x p) rfl rfl hth rans_size hone ?_)
  rw [← HW2.out]
  refine bodyPost_ret (v := .agg (afA x p)) ?_ rfl ?_
  · exact results_cell_row rfl _ _ (w.heap.size + 1) 60 _ (0, 0) _ rfl y2 Tryz.underlying60 rfl rans_size
  exact ⟨rfl, q2⟩
def lookO : OrdF := ⟨10, (1, 2), 0, [], false, [], 0, 0, 0, [], [], []⟩
abbrev lookA : Array Value := #[.int .u8 10, .int .i64 1, .int .i64 2, .int .i64 0, .slice none 0 0, .bool false, .slice none 0 0, .int .i64 0, .int .i64 0, .int .i64 0, .string ⟨#[]⟩, .string ⟨#[]⟩, .slice none 0 0]
set_option maxRecDepth 100000 in
set_option maxHeartbeats 4000000 in
theorem look_any (w : World) : Calls Tryz.prog 53 #[] w fun e w' => e = .returned (.agg (ofA (U8V lookO.kind) lookO plZ)) ∧ Nw w w' := by
  obtain ⟨W1, hW1⟩ : ∃ W1, W1 = w.alloc (.cells (zO (U8V 0)) 31) := ⟨_, rfl⟩
  have q1 : Nw w W1 := by rw [hW1]; exact (Fr.refl (fun _ => False) w).alloc _
  have y1 : Blk W1 w.heap.size 31 (zO (U8V 0)) := by rw [hW1]; exact Blk.new w _ _
  have hth := Blk.there y1 0 13 (by show 0 + 13 ≤ 13; omega)
  have hone : lookA.all (·.oneCell') = true := of_one (U8V 10) rfl lookO plZ
  obtain ⟨W2, hW2⟩ : ∃ W2, W2 = W1.setCells w.heap.size 0 lookA.toList := ⟨_, rfl⟩
  have y2 : Blk W2 w.heap.size 31 lookA := by rw [hW2]; exact Blk.setCells y1 0 lookA.toList
  have f2 : Fr (· = w.heap.size) W1 W2 := by rw [hW2]; exact (Fr.refl _ W1).setCells _ _
  have q2 : Nw w W2 := q1.new f2 (fun b hb => by omega)
  have HW1 := Lib.hid hW1
  have HW2 := Lib.hid hW2
  clear hW1 hW2 y1
  go_enter Tryz.func53, Tryz.ntmps53
  go_upto_region 1 with (fail)
  rw [← HW1.out]
  go_wp2_with (refine wpList_store_mid rfl 31 _ _ rfl w.heap.size 0 lookA rfl rfl hth ord_size hone ?_)
  rw [← HW2.out]
  refine bodyPost_ret (v := .agg lookA) ?_ rfl ?_
  · exact results_cell_row rfl _ _ w.heap.size 31 _ (0, 0) _ rfl y2 Tryz.underlying31 rfl ord_size
  exact ⟨rfl, q2⟩
end Go.Proofs.YtkjnlhidnkbelaaGreatDoor
