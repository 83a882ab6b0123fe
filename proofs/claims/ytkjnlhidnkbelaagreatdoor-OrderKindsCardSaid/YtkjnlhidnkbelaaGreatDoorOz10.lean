/- Lemmas of the walks: OdW. (Laid together by shake.py.) -/
import Derived.Test.YtkjnlhidnkbelaaGreatDoorOz09
set_option linter.unusedVariables false
set_option linter.unusedSimpArgs false
namespace Go.Proofs.YtkjnlhidnkbelaaGreatDoor
open Go Go.RowKit
set_option maxRecDepth 100000 in
set_option maxHeartbeats 4000000 in
theorem osound1_any (w : World) (F : Nat → Prop) (x : AnsF) (p : Pl) (hi : AnsIn w F x p) (hz : AnsSz x) :
    Calls Tryz.prog 49 #[.agg (afA x p)] w fun e w' => e = .returned (.bool (!ansOk x)) ∧ Nw w w' := by
  obtain ⟨W0, hW0⟩ : ∃ W0, W0 = w.alloc (.cells (afA x p) 41) := ⟨_, rfl⟩
  have q0 : Nw w W0 := by rw [hW0]; exact (Fr.refl (fun _ => False) w).alloc _
  have x0 : Blk W0 w.heap.size 41 (afA x p) := by rw [hW0]; exact Blk.new w _ _
  have hS : ∀ w1, Nw W0 w1 → w1.cell? ⟨w.heap.size, 0, none⟩ = some (I64 x.err) ∧ w1.cell? ⟨w.heap.size, 1, none⟩ = some (I64 x.nm.1) ∧ w1.cell? ⟨w.heap.size, 2, none⟩ = some (I64 x.nm.2) ∧ w1.cell? ⟨w.heap.size, 3, none⟩ = some (.bool x.is) ∧ w1.cell? ⟨w.heap.size, 4, none⟩ = some (.bool x.commit) ∧ w1.cell? ⟨w.heap.size, 5, none⟩ = some (.slice p.r x.reads.length p.cr) ∧ w1.cell? ⟨w.heap.size, 6, none⟩ = some (I64 x.scheme) ∧ w1.cell? ⟨w.heap.size, 7, none⟩ = some (I64 x.stage) ∧ w1.cell? ⟨w.heap.size, 8, none⟩ = some (.slice p.b x.bytes.length p.cb) := fun w1 f => by
    have a := x0.fr f (fun h => h)
    exact ⟨by simpa using a.cell 0, by simpa using a.cell 1, by simpa using a.cell 2, by simpa using a.cell 3, by simpa using a.cell 4, by simpa using a.cell 5, by simpa using a.cell 6, by simpa using a.cell 7, by simpa using a.cell 8⟩
  have hS0 := hS W0 (Fr.refl _ _)
  have hok : ansOk x = (decide (0 ≤ x.err ∧ x.err ≤ 99) && ((decide (x.nm = (0, 0)) || decide (nmOk x.nm)) && (rdgsOk true x.reads && (decide (0 ≤ x.scheme ∧ x.scheme ≤ 1073741824) && (decide (0 ≤ x.stage ∧ x.stage ≤ 20) && decide (x.bytes.length ≤ 131072)))))) := rfl
  obtain ⟨r, hr⟩ : ∃ r, ansOk x = r := ⟨_, rfl⟩
  rw [hr] at hok ⊢
  clear hr
  have zq := fun w => name_eql w x.nm (0, 0)
  obtain ⟨d1, e1⟩ : ∃ d, decide (x.nm = (0, 0)) = d := ⟨_, rfl⟩
  simp only [e1] at zq hok
  have zn := fun w => actName_any w x.nm
  obtain ⟨d2, e2⟩ : ∃ d, decide (nmOk x.nm) = d := ⟨_, rfl⟩
  simp only [e2] at zn hok
  have zw1 := fun w => owithin_any w 0 x.err 99
  obtain ⟨d3, e3⟩ : ∃ d, decide (0 ≤ x.err ∧ x.err ≤ 99) = d := ⟨_, rfl⟩
  simp only [e3] at zw1 hok
  have zt : ∀ w1, Nw W0 w1 → Calls Tryz.prog 52 #[.bool true, .slice p.r x.reads.length p.cr] w1 fun e w' => e = .returned (.bool (rdgsOk true x.reads)) ∧ Nw w1 w' := fun w1 f => told_any w1 F true p.r p.cr x.reads (hi.reads.fr (q0.tr f) (fun _ _ h => h)) hi.cr hz.reads
  obtain ⟨d4, e4⟩ : ∃ d, rdgsOk true x.reads = d := ⟨_, rfl⟩
  simp only [e4] at zt hok
  have zw2 := fun w => owithin_any w 0 x.scheme 1073741824
  obtain ⟨d5, e5⟩ : ∃ d, decide (0 ≤ x.scheme ∧ x.scheme ≤ 1073741824) = d := ⟨_, rfl⟩
  simp only [e5] at zw2 hok
  have zw3 := fun w => owithin_any w 0 x.stage 20
  obtain ⟨d6, e6⟩ : ∃ d, decide (0 ≤ x.stage ∧ x.stage ≤ 20) = d := ⟨_, rfl⟩
  simp only [e6] at zw3 hok
  have zl : decide ((131072 : Int) < (x.bytes.length : Int)) = !decide (x.bytes.length ≤ 131072) := by
    by_cases h : x.bytes.length ≤ 131072
    · rw [decide_eq_true h]; exact decide_eq_false (by omega)
    · rw [decide_eq_false h]; exact decide_eq_true (by omega)
  obtain ⟨d7, e7⟩ : ∃ d, decide (x.bytes.length ≤ 131072) = d := ⟨_, rfl⟩
  rw [e7] at zl hok
  have HO := Lib.hid hok
  have HW0 := Lib.hid hW0
  clear hW0 x0 hi hz hok e1 e2 e3 e4 e5 e6 e7
  cases d1 with
  | false =>
    cases d2 with
    | false =>
      cases d3 with
      | false =>
        go_enter Tryz.func49, Tryz.ntmps49
        go_wp2_with fail
        rw [← HW0.out]
        refine (zn _).mono ?_
        rintro e w1 ⟨rfl, q1⟩
        have q1q : Nw W0 w1 := ((Fr.refl _ W0).tr q1)
        obtain ⟨k1_0, k1_1, k1_2, k1_3, k1_4, k1_5, k1_6, k1_7, k1_8⟩ := hS w1 q1q
        go_wp2_with fail
        refine (zw1 _).mono ?_
        rintro e w2 ⟨rfl, q2⟩
        have q2q : Nw W0 w2 := (q1q.tr q2)
        obtain ⟨k2_0, k2_1, k2_2, k2_3, k2_4, k2_5, k2_6, k2_7, k2_8⟩ := hS w2 q2q
        go_wp2_with fail
        go_ret
        exact ⟨retB (by rw [HO.out]; simp), q0.tr q2q⟩
      | true =>
        go_enter Tryz.func49, Tryz.ntmps49
        go_wp2_with fail
        rw [← HW0.out]
        refine (zn _).mono ?_
        rintro e w1 ⟨rfl, q1⟩
        have q1q : Nw W0 w1 := ((Fr.refl _ W0).tr q1)
        obtain ⟨k1_0, k1_1, k1_2, k1_3, k1_4, k1_5, k1_6, k1_7, k1_8⟩ := hS w1 q1q
        go_wp2_with fail
        refine (zw1 _).mono ?_
        rintro e w2 ⟨rfl, q2⟩
        have q2q : Nw W0 w2 := (q1q.tr q2)
        obtain ⟨k2_0, k2_1, k2_2, k2_3, k2_4, k2_5, k2_6, k2_7, k2_8⟩ := hS w2 q2q
        go_wp2_with fail
        go_ret
        exact ⟨retB (by rw [HO.out]; simp), q0.tr q2q⟩
    | true =>
      cases d3 with
      | false =>
        go_enter Tryz.func49, Tryz.ntmps49
        go_wp2_with fail
        rw [← HW0.out]
        refine (zn _).mono ?_
        rintro e w1 ⟨rfl, q1⟩
        have q1q : Nw W0 w1 := ((Fr.refl _ W0).tr q1)
        obtain ⟨k1_0, k1_1, k1_2, k1_3, k1_4, k1_5, k1_6, k1_7, k1_8⟩ := hS w1 q1q
        go_wp2_with fail
        refine (zw1 _).mono ?_
        rintro e w2 ⟨rfl, q2⟩
        have q2q : Nw W0 w2 := (q1q.tr q2)
        obtain ⟨k2_0, k2_1, k2_2, k2_3, k2_4, k2_5, k2_6, k2_7, k2_8⟩ := hS w2 q2q
        go_wp2_with fail
        go_ret
        exact ⟨retB (by rw [HO.out]; simp), q0.tr q2q⟩
      | true =>
        cases d4 with
        | false =>
          go_enter Tryz.func49, Tryz.ntmps49
          go_wp2_with fail
          rw [← HW0.out]
          refine (zn _).mono ?_
          rintro e w1 ⟨rfl, q1⟩
          have q1q : Nw W0 w1 := ((Fr.refl _ W0).tr q1)
          obtain ⟨k1_0, k1_1, k1_2, k1_3, k1_4, k1_5, k1_6, k1_7, k1_8⟩ := hS w1 q1q
          go_wp2_with fail
          refine (zw1 _).mono ?_
          rintro e w2 ⟨rfl, q2⟩
          have q2q : Nw W0 w2 := (q1q.tr q2)
          obtain ⟨k2_0, k2_1, k2_2, k2_3, k2_4, k2_5, k2_6, k2_7, k2_8⟩ := hS w2 q2q
          go_wp2_with fail
          refine (zt _ q2q).mono ?_
          rintro e w3 ⟨rfl, q3⟩
          have q3q : Nw W0 w3 := (q2q.tr q3)
          obtain ⟨k3_0, k3_1, k3_2, k3_3, k3_4, k3_5, k3_6, k3_7, k3_8⟩ := hS w3 q3q
          go_wp2_with fail
          go_ret
          exact ⟨retB (by rw [HO.out]; simp), q0.tr q3q⟩
        | true =>
          cases d5 with
          | false =>
            go_enter Tryz.func49, Tryz.ntmps49
            go_wp2_with fail
            rw [← HW0.out]
            refine (zn _).mono ?_
            rintro e w1 ⟨rfl, q1⟩
            have q1q : Nw W0 w1 := ((Fr.refl _ W0).tr q1)
            obtain ⟨k1_0, k1_1, k1_2, k1_3, k1_4, k1_5, k1_6, k1_7, k1_8⟩ := hS w1 q1q
            go_wp2_with fail
            refine (zw1 _).mono ?_
            rintro e w2 ⟨rfl, q2⟩
            have q2q : Nw W0 w2 := (q1q.tr q2)
            obtain ⟨k2_0, k2_1, k2_2, k2_3, k2_4, k2_5, k2_6, k2_7, k2_8⟩ := hS w2 q2q
            go_wp2_with fail
            refine (zt _ q2q).mono ?_
            rintro e w3 ⟨rfl, q3⟩
            have q3q : Nw W0 w3 := (q2q.tr q3)
            obtain ⟨k3_0, k3_1, k3_2, k3_3, k3_4, k3_5, k3_6, k3_7, k3_8⟩ := hS w3 q3q
            go_wp2_with fail
            refine (zw2 _).mono ?_
            rintro e w4 ⟨rfl, q4⟩
            have q4q : Nw W0 w4 := (q3q.tr q4)
            obtain ⟨k4_0, k4_1, k4_2, k4_3, k4_4, k4_5, k4_6, k4_7, k4_8⟩ := hS w4 q4q
            go_wp2_with fail
            go_ret
            exact ⟨retB (by rw [HO.out]; simp), q0.tr q4q⟩
          | true =>
            cases d6 with
            | false =>
              go_enter Tryz.func49, Tryz.ntmps49
              go_wp2_with fail
              rw [← HW0.out]
              refine (zn _).mono ?_
              rintro e w1 ⟨rfl, q1⟩
              have q1q : Nw W0 w1 := ((Fr.refl _ W0).tr q1)
              obtain ⟨k1_0, k1_1, k1_2, k1_3, k1_4, k1_5, k1_6, k1_7, k1_8⟩ := hS w1 q1q
              go_wp2_with fail
              refine (zw1 _).mono ?_
              rintro e w2 ⟨rfl, q2⟩
              have q2q : Nw W0 w2 := (q1q.tr q2)
              obtain ⟨k2_0, k2_1, k2_2, k2_3, k2_4, k2_5, k2_6, k2_7, k2_8⟩ := hS w2 q2q
              go_wp2_with fail
              refine (zt _ q2q).mono ?_
              rintro e w3 ⟨rfl, q3⟩
              have q3q : Nw W0 w3 := (q2q.tr q3)
              obtain ⟨k3_0, k3_1, k3_2, k3_3, k3_4, k3_5, k3_6, k3_7, k3_8⟩ := hS w3 q3q
              go_wp2_with fail
              refine (zw2 _).mono ?_
              rintro e w4 ⟨rfl, q4⟩
              have q4q : Nw W0 w4 := (q3q.tr q4)
              obtain ⟨k4_0, k4_1, k4_2, k4_3, k4_4, k4_5, k4_6, k4_7, k4_8⟩ := hS w4 q4q
              go_wp2_with fail
              refine (zw3 _).mono ?_
              rintro e w5 ⟨rfl, q5⟩
              have q5q : Nw W0 w5 := (q4q.tr q5)
              obtain ⟨k5_0, k5_1, k5_2, k5_3, k5_4, k5_5, k5_6, k5_7, k5_8⟩ := hS w5 q5q
              go_wp2_with fail
              go_ret
              exact ⟨retB (by rw [HO.out]; simp), q0.tr q5q⟩
            | true =>
              go_enter Tryz.func49, Tryz.ntmps49
              go_wp2_with fail
              rw [← HW0.out]
              refine (zn _).mono ?_
              rintro e w1 ⟨rfl, q1⟩
              have q1q : Nw W0 w1 := ((Fr.refl _ W0).tr q1)
              obtain ⟨k1_0, k1_1, k1_2, k1_3, k1_4, k1_5, k1_6, k1_7, k1_8⟩ := hS w1 q1q
              go_wp2_with fail
              refine (zw1 _).mono ?_
              rintro e w2 ⟨rfl, q2⟩
              have q2q : Nw W0 w2 := (q1q.tr q2)
              obtain ⟨k2_0, k2_1, k2_2, k2_3, k2_4, k2_5, k2_6, k2_7, k2_8⟩ := hS w2 q2q
              go_wp2_with fail
              refine (zt _ q2q).mono ?_
              rintro e w3 ⟨rfl, q3⟩
              have q3q : Nw W0 w3 := (q2q.tr q3)
              obtain ⟨k3_0, k3_1, k3_2, k3_3, k3_4, k3_5, k3_6, k3_7, k3_8⟩ := hS w3 q3q
              go_wp2_with fail
              refine (zw2 _).mono ?_
              rintro e w4 ⟨rfl, q4⟩
              have q4q : Nw W0 w4 := (q3q.tr q4)
              obtain ⟨k4_0, k4_1, k4_2, k4_3, k4_4, k4_5, k4_6, k4_7, k4_8⟩ := hS w4 q4q
              go_wp2_with fail
              refine (zw3 _).mono ?_
              rintro e w5 ⟨rfl, q5⟩
              have q5q : Nw W0 w5 := (q4q.tr q5)
              obtain ⟨k5_0, k5_1, k5_2, k5_3, k5_4, k5_5, k5_6, k5_7, k5_8⟩ := hS w5 q5q
              go_wp2_with fail
              go_ret
              exact ⟨retB (by rw [HO.out]; simp), q0.tr q5q⟩
  | true =>
    cases d3 with
    | false =>
      go_enter Tryz.func49, Tryz.ntmps49
      go_wp2_with fail
      rw [← HW0.out]
      refine (zw1 _).mono ?_
      rintro e w2 ⟨rfl, q2⟩
      have q2q : Nw W0 w2 := ((Fr.refl _ W0).tr q2)
      obtain ⟨k2_0, k2_1, k2_2, k2_3, k2_4, k2_5, k2_6, k2_7, k2_8⟩ := hS w2 q2q
      go_wp2_with fail
      go_ret
      exact ⟨retB (by rw [HO.out]; simp), q0.tr q2q⟩
    | true =>
      cases d4 with
      | false =>
        go_enter Tryz.func49, Tryz.ntmps49
        go_wp2_with fail
        rw [← HW0.out]
        refine (zw1 _).mono ?_
        rintro e w2 ⟨rfl, q2⟩
        have q2q : Nw W0 w2 := ((Fr.refl _ W0).tr q2)
        obtain ⟨k2_0, k2_1, k2_2, k2_3, k2_4, k2_5, k2_6, k2_7, k2_8⟩ := hS w2 q2q
        go_wp2_with fail
        refine (zt _ q2q).mono ?_
        rintro e w3 ⟨rfl, q3⟩
        have q3q : Nw W0 w3 := (q2q.tr q3)
        obtain ⟨k3_0, k3_1, k3_2, k3_3, k3_4, k3_5, k3_6, k3_7, k3_8⟩ := hS w3 q3q
        go_wp2_with fail
        go_ret
        exact ⟨retB (by rw [HO.out]; simp), q0.tr q3q⟩
      | true =>
        cases d5 with
        | false =>
          go_enter Tryz.func49, Tryz.ntmps49
          go_wp2_with fail
          rw [← HW0.out]
          refine (zw1 _).mono ?_
          rintro e w2 ⟨rfl, q2⟩
          have q2q : Nw W0 w2 := ((Fr.refl _ W0).tr q2)
          obtain ⟨k2_0, k2_1, k2_2, k2_3, k2_4, k2_5, k2_6, k2_7, k2_8⟩ := hS w2 q2q
          go_wp2_with fail
          refine (zt _ q2q).mono ?_
          rintro e w3 ⟨rfl, q3⟩
          have q3q : Nw W0 w3 := (q2q.tr q3)
          obtain ⟨k3_0, k3_1, k3_2, k3_3, k3_4, k3_5, k3_6, k3_7, k3_8⟩ := hS w3 q3q
          go_wp2_with fail
          refine (zw2 _).mono ?_
          rintro e w4 ⟨rfl, q4⟩
          have q4q : Nw W0 w4 := (q3q.tr q4)
          obtain ⟨k4_0, k4_1, k4_2, k4_3, k4_4, k4_5, k4_6, k4_7, k4_8⟩ := hS w4 q4q
          go_wp2_with fail
          go_ret
          exact ⟨retB (by rw [HO.out]; simp), q0.tr q4q⟩
        | true =>
          cases d6 with
          | false =>
            go_enter Tryz.func49, Tryz.ntmps49
            go_wp2_with fail
            rw [← HW0.out]
            refine (zw1 _).mono ?_
            rintro e w2 ⟨rfl, q2⟩
            have q2q : Nw W0 w2 := ((Fr.refl _ W0).tr q2)
            obtain ⟨k2_0, k2_1, k2_2, k2_3, k2_4, k2_5, k2_6, k2_7, k2_8⟩ := hS w2 q2q
            go_wp2_with fail
            refine (zt _ q2q).mono ?_
            rintro e w3 ⟨rfl, q3⟩
            have q3q : Nw W0 w3 := (q2q.tr q3)
            obtain ⟨k3_0, k3_1, k3_2, k3_3, k3_4, k3_5, k3_6, k3_7, k3_8⟩ := hS w3 q3q
            go_wp2_with fail
            refine (zw2 _).mono ?_
            rintro e w4 ⟨rfl, q4⟩
            have q4q : Nw W0 w4 := (q3q.tr q4)
            obtain ⟨k4_0, k4_1, k4_2, k4_3, k4_4, k4_5, k4_6, k4_7, k4_8⟩ := hS w4 q4q
            go_wp2_with fail
            refine (zw3 _).mono ?_
            rintro e w5 ⟨rfl, q5⟩
            have q5q : Nw W0 w5 := (q4q.tr q5)
            obtain ⟨k5_0, k5_1, k5_2, k5_3, k5_4, k5_5, k5_6, k5_7, k5_8⟩ := hS w5 q5q
            go_wp2_with fail
            go_ret
            exact ⟨retB (by rw [HO.out]; simp), q0.tr q5q⟩
          | true =>
            go_enter Tryz.func49, Tryz.ntmps49
            go_wp2_with fail
            rw [← HW0.out]
            refine (zw1 _).mono ?_
            rintro e w2 ⟨rfl, q2⟩
            have q2q : Nw W0 w2 := ((Fr.refl _ W0).tr q2)
            obtain ⟨k2_0, k2_1, k2_2, k2_3, k2_4, k2_5, k2_6, k2_7, k2_8⟩ := hS w2 q2q
            go_wp2_with fail
            refine (zt _ q2q).mono ?_
            rintro e w3 ⟨rfl, q3⟩
            have q3q : Nw W0 w3 := (q2q.tr q3)
            obtain ⟨k3_0, k3_1, k3_2, k3_3, k3_4, k3_5, k3_6, k3_7, k3_8⟩ := hS w3 q3q
            go_wp2_with fail
            refine (zw2 _).mono ?_
            rintro e w4 ⟨rfl, q4⟩
            have q4q : Nw W0 w4 := (q3q.tr q4)
            obtain ⟨k4_0, k4_1, k4_2, k4_3, k4_4, k4_5, k4_6, k4_7, k4_8⟩ := hS w4 q4q
            go_wp2_with fail
            refine (zw3 _).mono ?_
            rintro e w5 ⟨rfl, q5⟩
            have q5q : Nw W0 w5 := (q4q.tr q5)
            obtain ⟨k5_0, k5_1, k5_2, k5_3, k5_4, k5_5, k5_6, k5_7, k5_8⟩ := hS w5 q5q
            go_wp2_with fail
            go_ret
            exact ⟨retB (by rw [HO.out]; simp), q0.tr q5q⟩
set_option maxRecDepth 100000 in
set_option maxHeartbeats 4000000 in
theorem oright1c_any (w : World) (F : Nat → Prop) (x : OrdF) (p : Pl) (hi : OrdIn w F x p) (hz : OrdSz x) :
    Calls Tryz.prog 46 #[.agg (ofA (U8V x.kind) x p)] w fun e w' => e = .returned (.bool (!ordOk x)) ∧ Nw w w' := by
  obtain ⟨W0, hW0⟩ : ∃ W0, W0 = w.alloc (.cells (ofA (U8V x.kind) x p) 31) := ⟨_, rfl⟩
  have q0 : Nw w W0 := by rw [hW0]; exact (Fr.refl (fun _ => False) w).alloc _
  have x0 : Blk W0 w.heap.size 31 (ofA (U8V x.kind) x p) := by rw [hW0]; exact Blk.new w _ _
  have hcon := oright1_any W0 F x p (hi.fr q0 (fun _ _ h => h)) hz
  generalize ordOk x = b at hcon ⊢
  have HW0 := Lib.hid hW0
  clear hW0
  go_enter Tryz.func46, Tryz.ntmps46
  go_upto_region 1 with (fail)
  rw [← HW0.out]
  go_wp2_with (first | (refine wpList_load_row rfl 31 _ rfl w.heap.size rfl 31 _ (0, 0) _ x0 Tryz.underlying31 rfl ord_size ?_) | (go_at_call 47; refine hcon.mono ?_; rintro e w1 ⟨rfl, q1⟩))
  go_ret
  exact ⟨by simp, q0.tr q1⟩
/-- The first one is right. -/
def OrdIx (w : World) (ok : Bool) (i : Value) (wx : World) : Prop := ∃ k : Nat, k ≤ 1 ∧ i = .int .i64 k ∧ (k = 1 → ok = true) ∧ Nw w wx
set_option maxRecDepth 100000 in
set_option maxHeartbeats 4000000 in
theorem oidxOrder_any (w : World) (F : Nat → Prop) (g : Nat) (x : OrdF) (p : Pl) (hb : Blk w g 31 (ofA (U8V x.kind) x p)) (hi : OrdIn w F x p) (hz : OrdSz x) :
    Calls Tryz.prog 98 #[.slice (some ⟨g, 0, none⟩) 1 1, .func (.func 46) #[] #[]] w
      fun e w' => e = .returned (.int .i64 (if ordOk x = true then -1 else 0)) ∧ Nw w w' := by
  have hcon := fun w1 (q : Nw w w1) => oright1c_any w1 F x p (hi.fr q (fun _ _ h => h)) hz
  generalize ordOk x = b at hcon ⊢
  go_enter Tryz.func98, Tryz.ntmps98
  go_wp2_with fail
  go_loopw [8] (fun i wx => OrdIx w b i wx) (fun i _ => 1 - (intOf i).toNat)
  case atStart => exact ⟨0, Nat.zero_le _, rfl, (fun h => by omega), Fr.refl _ _⟩
  case round =>
    obtain ⟨k, hk, rfl, hok, hq⟩ := hrel
    have HK := Lib.hid hok
    clear hok
    have hk2 : k = 0 ∨ k = 1 := by omega
    rcases hk2 with rfl | rfl
    · have hbq := hb.fr hq (fun h => h)
      have hc1 := hcon wr hq
      cases b
      · go_wp2_with (first | (refine wpList_load_row rfl 31 _ rfl g rfl 31 _ (0, 0) _ hbq Tryz.underlying31 rfl ord_size ?_) | (go_at_call 46; refine hc1.mono ?_; rintro e w1 ⟨rfl, q1⟩))
        go_ret
        exact ⟨rfl, hq.tr q1⟩
      · go_wp2_with (first | (refine wpList_load_row rfl 31 _ rfl g rfl 31 _ (0, 0) _ hbq Tryz.underlying31 rfl ord_size ?_) | (go_at_call 46; refine hc1.mono ?_; rintro e w1 ⟨rfl, q1⟩))
        go_roundw
        case rel => exact ⟨1, by omega, rfl, (fun _ => rfl), hq.tr q1⟩
        case measure => simp [intOf]
    · have hb1 := HK.out rfl
      subst hb1
      go_wp2_with fail
      go_ret
      exact ⟨rfl, hq⟩
set_option maxRecDepth 100000 in
set_option maxHeartbeats 4000000 in
theorem ocontOrder_any (w : World) (F : Nat → Prop) (g : Nat) (x : OrdF) (p : Pl) (hb : Blk w g 31 (ofA (U8V x.kind) x p)) (hi : OrdIn w F x p) (hz : OrdSz x) :
    Calls Tryz.prog 45 #[.slice (some ⟨g, 0, none⟩) 1 1, .func (.func 46) #[] #[]] w
      fun e w' => e = .returned (.bool (!ordOk x)) ∧ Nw w w' := by
  have hcon := oidxOrder_any w F g x p hb hi hz
  generalize ordOk x = b at hcon ⊢
  cases b
  all_goals
    go_enter Tryz.func45, Tryz.ntmps45
    go_wp2_with fail
    refine hcon.mono ?_
    rintro e w1 ⟨rfl, q1⟩
    go_wp2_with fail
    go_ret
    exact ⟨rfl, q1⟩
set_option maxRecDepth 100000 in
set_option maxHeartbeats 4000000 in
/-- 'order.Right' of one in a fresh list. -/
theorem oRight_any (w : World) (F : Nat → Prop) (g : Nat) (x : OrdF) (p : Pl) (hb : Blk w g 31 (ofA (U8V x.kind) x p)) (hi : OrdIn w F x p) (hz : OrdSz x) :
    Calls Tryz.prog 11 #[.slice (some ⟨g, 0, none⟩) 1 1] w fun e w' => e = .returned (.bool (ordOk x)) ∧ Nw w w' := by
  have hcon := ocontOrder_any w F g x p hb hi hz
  generalize ordOk x = b at hcon ⊢
  go_enter Tryz.func11, Tryz.ntmps11
  go_wp2_with fail
  refine hcon.mono ?_
  rintro e w1 ⟨rfl, q1⟩
  go_wp2_with fail
  go_ret
  exact ⟨by simp, q1⟩
/-- The first one is right. -/
def AnsIx (w : World) (ok : Bool) (i : Value) (wx : World) : Prop := ∃ k : Nat, k ≤ 1 ∧ i = .int .i64 k ∧ (k = 1 → ok = true) ∧ Nw w wx
set_option maxRecDepth 100000 in
set_option maxHeartbeats 4000000 in
theorem oidxAnswer_any (w : World) (F : Nat → Prop) (g : Nat) (x : AnsF) (p : Pl) (hb : Blk w g 41 (afA x p)) (hi : AnsIn w F x p) (hz : AnsSz x) :
    Calls Tryz.prog 101 #[.slice (some ⟨g, 0, none⟩) 1 1, .func (.func 49) #[] #[]] w
      fun e w' => e = .returned (.int .i64 (if ansOk x = true then -1 else 0)) ∧ Nw w w' := by
  have hcon := fun w1 (q : Nw w w1) => osound1_any w1 F x p (hi.fr q (fun _ _ h => h)) hz
  generalize ansOk x = b at hcon ⊢
  go_enter Tryz.func101, Tryz.ntmps101
  go_wp2_with fail
  go_loopw [8] (fun i wx => AnsIx w b i wx) (fun i _ => 1 - (intOf i).toNat)
  case atStart => exact ⟨0, Nat.zero_le _, rfl, (fun h => by omega), Fr.refl _ _⟩
  case round =>
    obtain ⟨k, hk, rfl, hok, hq⟩ := hrel
    have HK := Lib.hid hok
    clear hok
    have hk2 : k = 0 ∨ k = 1 := by omega
    rcases hk2 with rfl | rfl
    · have hbq := hb.fr hq (fun h => h)
      have hc1 := hcon wr hq
      cases b
      · go_wp2_with (first | (refine wpList_load_row rfl 41 _ rfl g rfl 41 _ (0, 0) _ hbq Tryz.underlying41 rfl ans_size ?_) | (go_at_call 49; refine hc1.mono ?_; rintro e w1 ⟨rfl, q1⟩))
        go_ret
        exact ⟨rfl, hq.tr q1⟩
      · go_wp2_with (first | (refine wpList_load_row rfl 41 _ rfl g rfl 41 _ (0, 0) _ hbq Tryz.underlying41 rfl ans_size ?_) | (go_at_call 49; refine hc1.mono ?_; rintro e w1 ⟨rfl, q1⟩))
        go_roundw
        case rel => exact ⟨1, by omega, rfl, (fun _ => rfl), hq.tr q1⟩
        case measure => simp [intOf]
    · have hb1 := HK.out rfl
      subst hb1
      go_wp2_with fail
      go_ret
      exact ⟨rfl, hq⟩
set_option maxRecDepth 100000 in
set_option maxHeartbeats 4000000 in
theorem ocontAnswer_any (w : World) (F : Nat → Prop) (g : Nat) (x : AnsF) (p : Pl) (hb : Blk w g 41 (afA x p)) (hi : AnsIn w F x p) (hz : AnsSz x) :
    Calls Tryz.prog 48 #[.slice (some ⟨g, 0, none⟩) 1 1, .func (.func 49) #[] #[]] w
      fun e w' => e = .returned (.bool (!ansOk x)) ∧ Nw w w' := by
  have hcon := oidxAnswer_any w F g x p hb hi hz
  generalize ansOk x = b at hcon ⊢
  cases b
  all_goals
    go_enter Tryz.func48, Tryz.ntmps48
    go_wp2_with fail
    refine hcon.mono ?_
    rintro e w1 ⟨rfl, q1⟩
    go_wp2_with fail
    go_ret
    exact ⟨rfl, q1⟩
set_option maxRecDepth 100000 in
set_option maxHeartbeats 4000000 in
/-- 'order.Sound' of one in a fresh list. -/
theorem oSound_any (w : World) (F : Nat → Prop) (g : Nat) (x : AnsF) (p : Pl) (hb : Blk w g 41 (afA x p)) (hi : AnsIn w F x p) (hz : AnsSz x) :
    Calls Tryz.prog 12 #[.slice (some ⟨g, 0, none⟩) 1 1] w fun e w' => e = .returned (.bool (ansOk x)) ∧ Nw w w' := by
  have hcon := ocontAnswer_any w F g x p hb hi hz
  generalize ansOk x = b at hcon ⊢
  go_enter Tryz.func12, Tryz.ntmps12
  go_wp2_with fail
  refine hcon.mono ?_
  rintro e w1 ⟨rfl, q1⟩
  go_wp2_with fail
  go_ret
  exact ⟨by simp, q1⟩
end Go.Proofs.YtkjnlhidnkbelaaGreatDoor
