/- Lemmas of the walks: RgA, RgB. (Laid together by shake.py.) -/
import Derived.Test.YtippdjaakcgeoaaGreatNr04
set_option linter.unusedVariables false
set_option linter.unusedSimpArgs false
namespace Go.Proofs.YtippdjaakcgeoaaGreat
open Go Go.RowKit
set_option linter.unusedVariables false
set_option linter.unusedSimpArgs false
theorem ndAt_zero (l : List Int) (h : 0 < l.length) : ndAt l 0 = decide (1 ≤ l[0] ∧ l[0] ≤ 5) := by
  unfold ndAt
  rw [List.getD_eq_getElem?_getD, List.getElem?_eq_getElem h]
  simp
theorem ndAt_succ (l : List Int) (j : Nat) (h : j + 1 < l.length) : ndAt l (j + 1) = (decide (1 ≤ l[j + 1] ∧ l[j + 1] ≤ 5) && decide (l[j] < l[j + 1])) := by
  unfold ndAt
  have e : j + 1 - 1 = j := by omega
  rw [e, List.getD_eq_getElem?_getD, List.getElem?_eq_getElem h, List.getD_eq_getElem?_getD, List.getElem?_eq_getElem (by omega)]
  simp
theorem nodes_all {l : List Int} (h : ∀ j, j < l.length → ndAt l j = true) : nodesOk l = true := by
  unfold nodesOk
  exact List.all_eq_true.2 fun j hj => h j (List.mem_range.1 hj)
theorem nodes_no {l : List Int} {k : Nat} (hk : k < l.length) (h : ndAt l k = false) : nodesOk l = false := by
  unfold nodesOk
  rw [List.all_eq_false]
  exact ⟨k, List.mem_range.2 hk, by rw [h]; simp⟩
def NdR (w : World) (l : List Int) (i : Value) (wr : World) : Prop := ∃ k : Nat, k ≤ l.length ∧ i = .int .i64 k ∧ (∀ j, j < k → ndAt l j = true) ∧ Nw w wr
set_option maxRecDepth 100000 in
set_option maxHeartbeats 4000000 in
theorem jnodes (w : World) (F : Nat → Prop) (A : Option Addr) (c : Nat) (l : List Int) (h : Sl w F A (intsC l)) (hsz : l.length ≤ 1000000000000) :
    Calls Tryz.prog 154 #[.slice A l.length c] w fun e w' => e = .returned (.bool (nodesOk l)) ∧ Nw w w' := by
  go_enter Tryz.func154, Tryz.ntmps154
  go_wp2_with fail
  go_loopw [7] (fun i wr => NdR w l i wr) (fun i _ => l.length - (intOf i).toNat)
  case atStart => exact ⟨0, Nat.zero_le _, rfl, fun j hj => by omega, Fr.refl _ _⟩
  case round =>
    obtain ⟨k, hk, rfl, hb, hq⟩ := hrel
    have HB := Lib.hid hb
    clear hb
    by_cases hlt : k < l.length
    · cases k with
      | zero =>
        obtain ⟨b, o, rfl, _, p0⟩ := (h.fr hq (fun _ _ h => h)).get hlt
        have hA := ndAt_zero l hlt
        have hi0 : (0 : Int) < (l.length : Int) := by omega
        obtain ⟨x, hx⟩ : ∃ x, l[0] = x := ⟨_, rfl⟩
        rw [hx] at hA p0
        simp only [Nat.add_zero] at p0
        clear hx
        by_cases h1 : x < 1
        · have hA : ndAt l 0 = false := by rw [hA]; exact decide_eq_false (by omega)
          have HA := Lib.hid hA
          clear hA
          have g1 : decide (x < 1) = true := decide_eq_true h1
          go_wp2_with fail
          go_ret
          exact ⟨ret_eq (congrArg Value.bool (nodes_no hlt (HA.out)).symm), hq⟩
        · have h2 : 1 ≤ x := by omega
          have g1 : decide (x < 1) = false := decide_eq_false h1
          by_cases h3 : 5 < x
          · have hA : ndAt l 0 = false := by rw [hA]; exact decide_eq_false (by omega)
            have HA := Lib.hid hA
            clear hA
            have g2 : decide (5 < x) = true := decide_eq_true h3
            go_wp2_with fail
            go_ret
            exact ⟨ret_eq (congrArg Value.bool (nodes_no hlt (HA.out)).symm), hq⟩
          · have h4 : x ≤ 5 := by omega
            have hA : ndAt l 0 = true := by rw [hA]; exact decide_eq_true ⟨h2, h4⟩
            have HA := Lib.hid hA
            clear hA
            have g2 : decide (5 < x) = false := decide_eq_false h3
            go_wp2_with fail
            go_roundw
            case rel =>
              refine ⟨1, by omega, by go_num, fun i hi => ?_, hq⟩
              by_cases e : i = 0
              · subst e; exact HA.out
              · exact HB.out i (by omega)
            case measure => simp [intOf]; omega
      | succ j =>
        obtain ⟨b, o, rfl, _, p0⟩ := (h.fr hq (fun _ _ h => h)).get hlt
        obtain ⟨b', o', hbo, _, r0⟩ := (h.fr hq (fun _ _ h => h)).get (show j < l.length by omega)
        injection hbo with hbo
        injection hbo with e1 e2 _
        subst e1
        subst e2
        have hA := ndAt_succ l j hlt
        have hi0 : (j : Int) + 1 < (l.length : Int) := by omega
        obtain ⟨x, hx⟩ : ∃ x, l[j + 1] = x := ⟨_, rfl⟩
        obtain ⟨y, hy⟩ : ∃ y, l[j] = y := ⟨_, rfl⟩
        rw [hx, hy] at hA
        rw [hx] at p0
        rw [hy] at r0
        have hj0 : (0 : Int) < (j : Int) + 1 := by omega
        have g3 : decide ((0 : Int) < (j : Int) + 1) = true := decide_eq_true hj0
        have hsub : IntKind.i64.wrap ((j : Int) + 1 - 1) = (j : Int) := by rw [IntWalk.i64_in _ (by omega)]; omega
        clear hx hy
        by_cases h1 : x < 1
        · have hA : ndAt l (j + 1) = false := by rw [hA, decide_eq_false (show ¬ (1 ≤ x ∧ x ≤ 5) by omega)]; rfl
          have HA := Lib.hid hA
          clear hA
          have g1 : decide (x < 1) = true := decide_eq_true h1
          go_wp2_with fail
          go_ret
          exact ⟨ret_eq (congrArg Value.bool (nodes_no hlt (HA.out)).symm), hq⟩
        · have h2 : 1 ≤ x := by omega
          have g1 : decide (x < 1) = false := decide_eq_false h1
          by_cases h3 : 5 < x
          · have hA : ndAt l (j + 1) = false := by rw [hA, decide_eq_false (show ¬ (1 ≤ x ∧ x ≤ 5) by omega)]; rfl
            have HA := Lib.hid hA
            clear hA
            have g2 : decide (5 < x) = true := decide_eq_true h3
            go_wp2_with fail
            go_ret
            exact ⟨ret_eq (congrArg Value.bool (nodes_no hlt (HA.out)).symm), hq⟩
          · have h4 : x ≤ 5 := by omega
            have g2 : decide (5 < x) = false := decide_eq_false h3
            by_cases h5 : x ≤ y
            · have hA : ndAt l (j + 1) = false := by rw [hA, decide_eq_false (show ¬ (y < x) by omega)]; exact Bool.and_false _
              have HA := Lib.hid hA
              clear hA
              have g4 : decide (x ≤ y) = true := decide_eq_true h5
              go_wp2_with fail
              go_ret
              exact ⟨ret_eq (congrArg Value.bool (nodes_no hlt (HA.out)).symm), hq⟩
            · have h6 : y < x := by omega
              have hA : ndAt l (j + 1) = true := by rw [hA, decide_eq_true h6, decide_eq_true (show 1 ≤ x ∧ x ≤ 5 from ⟨h2, h4⟩)]; rfl
              have HA := Lib.hid hA
              clear hA
              have g4 : decide (x ≤ y) = false := decide_eq_false h5
              go_wp2_with fail
              go_roundw
              case rel =>
                refine ⟨j + 1 + 1, by omega, by go_num, fun i hi => ?_, hq⟩
                by_cases e : i = j + 1
                · subst e; exact HA.out
                · exact HB.out i (by omega)
              case measure => simp [intOf]; omega
    · obtain rfl : l.length = k := by omega
      go_wp2_with fail
      go_ret
      exact ⟨ret_eq (congrArg Value.bool (nodes_all (fun j hj => HB.out j hj)).symm), hq⟩
set_option maxRecDepth 100000 in
set_option maxHeartbeats 4000000 in
theorem rnodes (w : World) (F : Nat → Prop) (A : Option Addr) (c : Nat) (l : List Int) (h : Sl w F A (intsC l)) (hsz : l.length ≤ 1000000000000) :
    Calls Tryz.prog 222 #[.slice A l.length c] w fun e w' => e = .returned (.bool (nodesOk l)) ∧ Nw w w' := by
  go_enter Tryz.func222, Tryz.ntmps222
  go_wp2_with fail
  go_loopw [3] (fun i wr => NdR w l i wr) (fun i _ => l.length - (intOf i).toNat)
  case atStart => exact ⟨0, Nat.zero_le _, rfl, fun j hj => by omega, Fr.refl _ _⟩
  case round =>
    obtain ⟨k, hk, rfl, hb, hq⟩ := hrel
    have HB := Lib.hid hb
    clear hb
    by_cases hlt : k < l.length
    · cases k with
      | zero =>
        obtain ⟨b, o, rfl, _, p0⟩ := (h.fr hq (fun _ _ h => h)).get hlt
        have hA := ndAt_zero l hlt
        have hi0 : (0 : Int) < (l.length : Int) := by omega
        obtain ⟨x, hx⟩ : ∃ x, l[0] = x := ⟨_, rfl⟩
        rw [hx] at hA p0
        simp only [Nat.add_zero] at p0
        have P0 := fun (m : Later wr) => m.cell p0
        clear p0
        clear hx
        by_cases h1 : x < 1
        · have hA : ndAt l 0 = false := by rw [hA]; exact decide_eq_false (by omega)
          have HA := Lib.hid hA
          clear hA
          have g1 : decide (x < 1) = true := decide_eq_true h1
          go_wp2_with fail
          refine wp_region_later (by kernel_rfl) (by kernel_rfl) ?_
          repeat (go_big_quiet_step (fail))
          refine wpQuiet_later fun w5 q5 => ?_
          go_wp2_with fail
          go_ret
          exact ⟨ret_eq (congrArg Value.bool (nodes_no hlt (HA.out)).symm), hq.tr q5⟩
        · have h2 : 1 ≤ x := by omega
          have g1 : decide (x < 1) = false := decide_eq_false h1
          by_cases h3 : 5 < x
          · have hA : ndAt l 0 = false := by rw [hA]; exact decide_eq_false (by omega)
            have HA := Lib.hid hA
            clear hA
            have g2 : decide (5 < x) = true := decide_eq_true h3
            go_wp2_with fail
            refine wp_region_later (by kernel_rfl) (by kernel_rfl) ?_
            repeat (go_big_quiet_step (fail))
            refine wpQuiet_later fun w5 q5 => ?_
            go_wp2_with fail
            go_ret
            exact ⟨ret_eq (congrArg Value.bool (nodes_no hlt (HA.out)).symm), hq.tr q5⟩
          · have h4 : x ≤ 5 := by omega
            have hA : ndAt l 0 = true := by rw [hA]; exact decide_eq_true ⟨h2, h4⟩
            have HA := Lib.hid hA
            clear hA
            have g2 : decide (5 < x) = false := decide_eq_false h3
            go_wp2_with fail
            refine wp_region_later (by kernel_rfl) (by kernel_rfl) ?_
            repeat (go_big_quiet_step (fail))
            refine wpQuiet_later fun w5 q5 => ?_
            go_wp2_with fail
            go_roundw
            case rel =>
              refine ⟨1, by omega, by go_num, fun i hi => ?_, hq.tr q5⟩
              by_cases e : i = 0
              · subst e; exact HA.out
              · exact HB.out i (by omega)
            case measure => simp [intOf]; omega
      | succ j =>
        obtain ⟨b, o, rfl, _, p0⟩ := (h.fr hq (fun _ _ h => h)).get hlt
        obtain ⟨b', o', hbo, _, r0⟩ := (h.fr hq (fun _ _ h => h)).get (show j < l.length by omega)
        injection hbo with hbo
        injection hbo with e1 e2 _
        subst e1
        subst e2
        have hA := ndAt_succ l j hlt
        have hi0 : (j : Int) + 1 < (l.length : Int) := by omega
        obtain ⟨x, hx⟩ : ∃ x, l[j + 1] = x := ⟨_, rfl⟩
        obtain ⟨y, hy⟩ : ∃ y, l[j] = y := ⟨_, rfl⟩
        rw [hx, hy] at hA
        rw [hx] at p0
        rw [hy] at r0
        have hj0 : (0 : Int) < (j : Int) + 1 := by omega
        have g3 : decide ((0 : Int) < (j : Int) + 1) = true := decide_eq_true hj0
        have hsub : IntKind.i64.wrap ((j : Int) + 1 - 1) = (j : Int) := by rw [IntWalk.i64_in _ (by omega)]; omega
        have P0 := fun (m : Later wr) => m.cell p0
        have R0 := fun (m : Later wr) => m.cell r0
        clear p0 r0
        clear hx hy
        by_cases h1 : x < 1
        · have hA : ndAt l (j + 1) = false := by rw [hA, decide_eq_false (show ¬ (1 ≤ x ∧ x ≤ 5) by omega)]; rfl
          have HA := Lib.hid hA
          clear hA
          have g1 : decide (x < 1) = true := decide_eq_true h1
          go_wp2_with fail
          refine wp_region_later (by kernel_rfl) (by kernel_rfl) ?_
          repeat (go_big_quiet_step (fail))
          refine wpQuiet_later fun w5 q5 => ?_
          go_wp2_with fail
          go_ret
          exact ⟨ret_eq (congrArg Value.bool (nodes_no hlt (HA.out)).symm), hq.tr q5⟩
        · have h2 : 1 ≤ x := by omega
          have g1 : decide (x < 1) = false := decide_eq_false h1
          by_cases h3 : 5 < x
          · have hA : ndAt l (j + 1) = false := by rw [hA, decide_eq_false (show ¬ (1 ≤ x ∧ x ≤ 5) by omega)]; rfl
            have HA := Lib.hid hA
            clear hA
            have g2 : decide (5 < x) = true := decide_eq_true h3
            go_wp2_with fail
            refine wp_region_later (by kernel_rfl) (by kernel_rfl) ?_
            repeat (go_big_quiet_step (fail))
            refine wpQuiet_later fun w5 q5 => ?_
            go_wp2_with fail
            go_ret
            exact ⟨ret_eq (congrArg Value.bool (nodes_no hlt (HA.out)).symm), hq.tr q5⟩
          · have h4 : x ≤ 5 := by omega
            have g2 : decide (5 < x) = false := decide_eq_false h3
            by_cases h5 : x ≤ y
            · have hA : ndAt l (j + 1) = false := by rw [hA, decide_eq_false (show ¬ (y < x) by omega)]; exact Bool.and_false _
              have HA := Lib.hid hA
              clear hA
              have g4 : decide (x ≤ y) = true := decide_eq_true h5
              go_wp2_with fail
              refine wp_region_later (by kernel_rfl) (by kernel_rfl) ?_
              repeat (go_big_quiet_step (fail))
              refine wpQuiet_later fun w5 q5 => ?_
              go_wp2_with fail
              go_ret
              exact ⟨ret_eq (congrArg Value.bool (nodes_no hlt (HA.out)).symm), hq.tr q5⟩
            · have h6 : y < x := by omega
              have hA : ndAt l (j + 1) = true := by rw [hA, decide_eq_true h6, decide_eq_true (show 1 ≤ x ∧ x ≤ 5 from ⟨h2, h4⟩)]; rfl
              have HA := Lib.hid hA
              clear hA
              have g4 : decide (x ≤ y) = false := decide_eq_false h5
              go_wp2_with fail
              refine wp_region_later (by kernel_rfl) (by kernel_rfl) ?_
              repeat (go_big_quiet_step (fail))
              refine wpQuiet_later fun w5 q5 => ?_
              go_wp2_with fail
              go_roundw
              case rel =>
                refine ⟨j + 1 + 1, by omega, by go_num, fun i hi => ?_, hq.tr q5⟩
                by_cases e : i = j + 1
                · subst e; exact HA.out
                · exact HB.out i (by omega)
              case measure => simp [intOf]; omega
    · obtain rfl : l.length = k := by omega
      go_wp2_with fail
      go_ret
      exact ⟨ret_eq (congrArg Value.bool (nodes_all (fun j hj => HB.out j hj)).symm), hq⟩
set_option maxRecDepth 100000 in
set_option maxHeartbeats 4000000 in
theorem jcfg (w : World) (F : Nat → Prop) (x : CfgM) (hx : CfgIn w F x) (hz : CfgSz x) :
    Calls Tryz.prog 78 #[.agg (cfgA x)] w fun e w' => e = .returned (.bool (cfgOk x.x)) ∧ Nw w w' := by
  have hok : cfgOk x.x = (nodesOk x.v.l && (nodesOk x.o.l && (nodesOk x.l.l && nodesOk x.w.l))) := rfl
  rw [hok]
  clear hok
  obtain ⟨W0, hW0⟩ : ∃ W, W = w.alloc (.cells #[.slice x.v.a x.v.l.length x.v.c, .slice x.o.a x.o.l.length x.o.c, .slice x.l.a x.l.l.length x.l.c, .slice x.w.a x.w.l.length x.w.c] 45) := ⟨_, rfl⟩
  have p0 : Nw w W0 := by rw [hW0]; exact (Fr.refl (fun _ => False) _).alloc _
  have b0 : Blk W0 w.heap.size 45 #[.slice x.v.a x.v.l.length x.v.c, .slice x.o.a x.o.l.length x.o.c, .slice x.l.a x.l.l.length x.l.c, .slice x.w.a x.w.l.length x.w.c] := by rw [hW0]; exact Blk.new _ _ _
  have Q0 : Nw w W0 := p0
  have z1 : ∀ m : Later W0, Calls Tryz.prog 154 #[.slice x.v.a x.v.l.length x.v.c] m.at_ fun e w' => e = .returned (.bool (nodesOk x.v.l)) ∧ Nw m.at_ w' := fun m => by
    have f := Q0.tr m.nw
    exact jnodes _ F _ _ _ (hx.v.nw f).sl (by have := hz.v; omega)
  obtain ⟨d1, e1⟩ : ∃ d, (nodesOk x.v.l) = d := ⟨_, rfl⟩
  simp only [e1] at z1 ⊢
  have z2 : ∀ m : Later W0, Calls Tryz.prog 154 #[.slice x.o.a x.o.l.length x.o.c] m.at_ fun e w' => e = .returned (.bool (nodesOk x.o.l)) ∧ Nw m.at_ w' := fun m => by
    have f := Q0.tr m.nw
    exact jnodes _ F _ _ _ (hx.o.nw f).sl (by have := hz.o; omega)
  obtain ⟨d2, e2⟩ : ∃ d, (nodesOk x.o.l) = d := ⟨_, rfl⟩
  simp only [e2] at z2 ⊢
  have z3 : ∀ m : Later W0, Calls Tryz.prog 154 #[.slice x.l.a x.l.l.length x.l.c] m.at_ fun e w' => e = .returned (.bool (nodesOk x.l.l)) ∧ Nw m.at_ w' := fun m => by
    have f := Q0.tr m.nw
    exact jnodes _ F _ _ _ (hx.l.nw f).sl (by have := hz.l; omega)
  obtain ⟨d3, e3⟩ : ∃ d, (nodesOk x.l.l) = d := ⟨_, rfl⟩
  simp only [e3] at z3 ⊢
  have z4 : ∀ m : Later W0, Calls Tryz.prog 154 #[.slice x.w.a x.w.l.length x.w.c] m.at_ fun e w' => e = .returned (.bool (nodesOk x.w.l)) ∧ Nw m.at_ w' := fun m => by
    have f := Q0.tr m.nw
    exact jnodes _ F _ _ _ (hx.w.nw f).sl (by have := hz.w; omega)
  obtain ⟨d4, e4⟩ : ∃ d, (nodesOk x.w.l) = d := ⟨_, rfl⟩
  simp only [e4] at z4 ⊢
  have hS : ∀ w1, Nw W0 w1 → w1.cell? ⟨w.heap.size, 0, none⟩ = some (.slice x.v.a x.v.l.length x.v.c) ∧ w1.cell? ⟨w.heap.size, 1, none⟩ = some (.slice x.o.a x.o.l.length x.o.c) ∧ w1.cell? ⟨w.heap.size, 2, none⟩ = some (.slice x.l.a x.l.l.length x.l.c) ∧ w1.cell? ⟨w.heap.size, 3, none⟩ = some (.slice x.w.a x.w.l.length x.w.c) := fun w1 f => by
    have a0 := b0.fr f (fun h => h)
    exact ⟨by simpa using a0.cell 0, by simpa using a0.cell 1, by simpa using a0.cell 2, by simpa using a0.cell 3⟩
  have HW0 := Lib.hid hW0
  clear hW0 b0 e1 e2 e3 e4
  cases d1 with
  | false =>
    go_enter Tryz.func78, Tryz.ntmps78
    go_upto_region 1 with (fail)
    rw [← HW0.out]
    obtain ⟨k0_0_0, _, _, _⟩ := hS W0 (Fr.refl _ _)
    go_wp2_with fail
    refine (z1 ⟨_, (Fr.refl (fun _ => False) W0)⟩).mono ?_
    rintro e v1 ⟨rfl, r1⟩
    have Q1 : Nw W0 v1 := (Fr.refl (fun _ => False) W0).tr r1
    go_wp2_with fail
    go_ret
    exact ⟨rfl, Q0.tr Q1⟩
  | true =>
  cases d2 with
  | false =>
    go_enter Tryz.func78, Tryz.ntmps78
    go_upto_region 1 with (fail)
    rw [← HW0.out]
    obtain ⟨k0_0_0, _, _, _⟩ := hS W0 (Fr.refl _ _)
    go_wp2_with fail
    refine (z1 ⟨_, (Fr.refl (fun _ => False) W0)⟩).mono ?_
    rintro e v1 ⟨rfl, r1⟩
    have Q1 : Nw W0 v1 := (Fr.refl (fun _ => False) W0).tr r1
    obtain ⟨_, k1_0_1, _, _⟩ := hS v1 Q1
    go_wp2_with fail
    refine (z2 ⟨_, Q1⟩).mono ?_
    rintro e v2 ⟨rfl, r2⟩
    have Q2 : Nw W0 v2 := Q1.tr r2
    go_wp2_with fail
    go_ret
    exact ⟨rfl, Q0.tr Q2⟩
  | true =>
  cases d3 with
  | false =>
    go_enter Tryz.func78, Tryz.ntmps78
    go_upto_region 1 with (fail)
    rw [← HW0.out]
    obtain ⟨k0_0_0, _, _, _⟩ := hS W0 (Fr.refl _ _)
    go_wp2_with fail
    refine (z1 ⟨_, (Fr.refl (fun _ => False) W0)⟩).mono ?_
    rintro e v1 ⟨rfl, r1⟩
    have Q1 : Nw W0 v1 := (Fr.refl (fun _ => False) W0).tr r1
    obtain ⟨_, k1_0_1, _, _⟩ := hS v1 Q1
    go_wp2_with fail
    refine (z2 ⟨_, Q1⟩).mono ?_
    rintro e v2 ⟨rfl, r2⟩
    have Q2 : Nw W0 v2 := Q1.tr r2
    obtain ⟨_, _, k2_0_2, _⟩ := hS v2 Q2
    go_wp2_with fail
    refine (z3 ⟨_, Q2⟩).mono ?_
    rintro e v3 ⟨rfl, r3⟩
    have Q3 : Nw W0 v3 := Q2.tr r3
    go_wp2_with fail
    go_ret
    exact ⟨rfl, Q0.tr Q3⟩
  | true =>
  cases d4 with
  | false =>
    go_enter Tryz.func78, Tryz.ntmps78
    go_upto_region 1 with (fail)
    rw [← HW0.out]
    obtain ⟨k0_0_0, _, _, _⟩ := hS W0 (Fr.refl _ _)
    go_wp2_with fail
    refine (z1 ⟨_, (Fr.refl (fun _ => False) W0)⟩).mono ?_
    rintro e v1 ⟨rfl, r1⟩
    have Q1 : Nw W0 v1 := (Fr.refl (fun _ => False) W0).tr r1
    obtain ⟨_, k1_0_1, _, _⟩ := hS v1 Q1
    go_wp2_with fail
    refine (z2 ⟨_, Q1⟩).mono ?_
    rintro e v2 ⟨rfl, r2⟩
    have Q2 : Nw W0 v2 := Q1.tr r2
    obtain ⟨_, _, k2_0_2, _⟩ := hS v2 Q2
    go_wp2_with fail
    refine (z3 ⟨_, Q2⟩).mono ?_
    rintro e v3 ⟨rfl, r3⟩
    have Q3 : Nw W0 v3 := Q2.tr r3
    obtain ⟨_, _, _, k3_0_3⟩ := hS v3 Q3
    go_wp2_with fail
    refine (z4 ⟨_, Q3⟩).mono ?_
    rintro e v4 ⟨rfl, r4⟩
    have Q4 : Nw W0 v4 := Q3.tr r4
    go_wp2_with fail
    go_ret
    exact ⟨rfl, Q0.tr Q4⟩
  | true =>
  go_enter Tryz.func78, Tryz.ntmps78
  go_upto_region 1 with (fail)
  rw [← HW0.out]
  obtain ⟨k0_0_0, _, _, _⟩ := hS W0 (Fr.refl _ _)
  go_wp2_with fail
  refine (z1 ⟨_, (Fr.refl (fun _ => False) W0)⟩).mono ?_
  rintro e v1 ⟨rfl, r1⟩
  have Q1 : Nw W0 v1 := (Fr.refl (fun _ => False) W0).tr r1
  obtain ⟨_, k1_0_1, _, _⟩ := hS v1 Q1
  go_wp2_with fail
  refine (z2 ⟨_, Q1⟩).mono ?_
  rintro e v2 ⟨rfl, r2⟩
  have Q2 : Nw W0 v2 := Q1.tr r2
  obtain ⟨_, _, k2_0_2, _⟩ := hS v2 Q2
  go_wp2_with fail
  refine (z3 ⟨_, Q2⟩).mono ?_
  rintro e v3 ⟨rfl, r3⟩
  have Q3 : Nw W0 v3 := Q2.tr r3
  obtain ⟨_, _, _, k3_0_3⟩ := hS v3 Q3
  go_wp2_with fail
  refine (z4 ⟨_, Q3⟩).mono ?_
  rintro e v4 ⟨rfl, r4⟩
  have Q4 : Nw W0 v4 := Q3.tr r4
  go_wp2_with fail
  go_ret
  exact ⟨rfl, Q0.tr Q4⟩
set_option maxRecDepth 100000 in
set_option maxHeartbeats 4000000 in
theorem rcfg (w : World) (F : Nat → Prop) (x : CfgM) (hx : CfgIn w F x) (hz : CfgSz x) :
    Calls Tryz.prog 198 #[.agg (cfgA x)] w fun e w' => e = .returned (.bool (cfgOk x.x)) ∧ Nw w w' := by
  have hok : cfgOk x.x = (nodesOk x.v.l && (nodesOk x.o.l && (nodesOk x.l.l && nodesOk x.w.l))) := rfl
  rw [hok]
  clear hok
  obtain ⟨W0, hW0⟩ : ∃ W, W = w.alloc (.cells #[.slice x.v.a x.v.l.length x.v.c, .slice x.o.a x.o.l.length x.o.c, .slice x.l.a x.l.l.length x.l.c, .slice x.w.a x.w.l.length x.w.c] 45) := ⟨_, rfl⟩
  have p0 : Nw w W0 := by rw [hW0]; exact (Fr.refl (fun _ => False) _).alloc _
  have b0 : Blk W0 w.heap.size 45 #[.slice x.v.a x.v.l.length x.v.c, .slice x.o.a x.o.l.length x.o.c, .slice x.l.a x.l.l.length x.l.c, .slice x.w.a x.w.l.length x.w.c] := by rw [hW0]; exact Blk.new _ _ _
  have Q0 : Nw w W0 := p0
  have z1 : ∀ m : Later W0, Calls Tryz.prog 222 #[.slice x.v.a x.v.l.length x.v.c] m.at_ fun e w' => e = .returned (.bool (nodesOk x.v.l)) ∧ Nw m.at_ w' := fun m => by
    have f := Q0.tr m.nw
    exact rnodes _ F _ _ _ (hx.v.nw f).sl (by have := hz.v; omega)
  obtain ⟨d1, e1⟩ : ∃ d, (nodesOk x.v.l) = d := ⟨_, rfl⟩
  simp only [e1] at z1 ⊢
  have z2 : ∀ m : Later W0, Calls Tryz.prog 222 #[.slice x.o.a x.o.l.length x.o.c] m.at_ fun e w' => e = .returned (.bool (nodesOk x.o.l)) ∧ Nw m.at_ w' := fun m => by
    have f := Q0.tr m.nw
    exact rnodes _ F _ _ _ (hx.o.nw f).sl (by have := hz.o; omega)
  obtain ⟨d2, e2⟩ : ∃ d, (nodesOk x.o.l) = d := ⟨_, rfl⟩
  simp only [e2] at z2 ⊢
  have z3 : ∀ m : Later W0, Calls Tryz.prog 222 #[.slice x.l.a x.l.l.length x.l.c] m.at_ fun e w' => e = .returned (.bool (nodesOk x.l.l)) ∧ Nw m.at_ w' := fun m => by
    have f := Q0.tr m.nw
    exact rnodes _ F _ _ _ (hx.l.nw f).sl (by have := hz.l; omega)
  obtain ⟨d3, e3⟩ : ∃ d, (nodesOk x.l.l) = d := ⟨_, rfl⟩
  simp only [e3] at z3 ⊢
  have z4 : ∀ m : Later W0, Calls Tryz.prog 222 #[.slice x.w.a x.w.l.length x.w.c] m.at_ fun e w' => e = .returned (.bool (nodesOk x.w.l)) ∧ Nw m.at_ w' := fun m => by
    have f := Q0.tr m.nw
    exact rnodes _ F _ _ _ (hx.w.nw f).sl (by have := hz.w; omega)
  obtain ⟨d4, e4⟩ : ∃ d, (nodesOk x.w.l) = d := ⟨_, rfl⟩
  simp only [e4] at z4 ⊢
  have hS : ∀ w1, Nw W0 w1 → w1.cell? ⟨w.heap.size, 0, none⟩ = some (.slice x.v.a x.v.l.length x.v.c) ∧ w1.cell? ⟨w.heap.size, 1, none⟩ = some (.slice x.o.a x.o.l.length x.o.c) ∧ w1.cell? ⟨w.heap.size, 2, none⟩ = some (.slice x.l.a x.l.l.length x.l.c) ∧ w1.cell? ⟨w.heap.size, 3, none⟩ = some (.slice x.w.a x.w.l.length x.w.c) := fun w1 f => by
    have a0 := b0.fr f (fun h => h)
    exact ⟨by simpa using a0.cell 0, by simpa using a0.cell 1, by simpa using a0.cell 2, by simpa using a0.cell 3⟩
  have HW0 := Lib.hid hW0
  clear hW0 b0 e1 e2 e3 e4
  cases d1 with
  | false =>
    go_enter Tryz.func198, Tryz.ntmps198
    go_upto_region 1 with (fail)
    rw [← HW0.out]
    obtain ⟨k0_0_0, _, _, _⟩ := hS W0 (Fr.refl _ _)
    go_wp2_with fail
    refine (z1 ⟨_, (Fr.refl (fun _ => False) W0)⟩).mono ?_
    rintro e v1 ⟨rfl, r1⟩
    have Q1 : Nw W0 v1 := (Fr.refl (fun _ => False) W0).tr r1
    go_wp2_with fail
    go_ret
    exact ⟨rfl, Q0.tr Q1⟩
  | true =>
  cases d2 with
  | false =>
    go_enter Tryz.func198, Tryz.ntmps198
    go_upto_region 1 with (fail)
    rw [← HW0.out]
    obtain ⟨k0_0_0, _, _, _⟩ := hS W0 (Fr.refl _ _)
    go_wp2_with fail
    refine (z1 ⟨_, (Fr.refl (fun _ => False) W0)⟩).mono ?_
    rintro e v1 ⟨rfl, r1⟩
    have Q1 : Nw W0 v1 := (Fr.refl (fun _ => False) W0).tr r1
    obtain ⟨_, k1_0_1, _, _⟩ := hS v1 Q1
    go_wp2_with fail
    refine (z2 ⟨_, Q1⟩).mono ?_
    rintro e v2 ⟨rfl, r2⟩
    have Q2 : Nw W0 v2 := Q1.tr r2
    go_wp2_with fail
    go_ret
    exact ⟨rfl, Q0.tr Q2⟩
  | true =>
  cases d3 with
  | false =>
    go_enter Tryz.func198, Tryz.ntmps198
    go_upto_region 1 with (fail)
    rw [← HW0.out]
    obtain ⟨k0_0_0, _, _, _⟩ := hS W0 (Fr.refl _ _)
    go_wp2_with fail
    refine (z1 ⟨_, (Fr.refl (fun _ => False) W0)⟩).mono ?_
    rintro e v1 ⟨rfl, r1⟩
    have Q1 : Nw W0 v1 := (Fr.refl (fun _ => False) W0).tr r1
    obtain ⟨_, k1_0_1, _, _⟩ := hS v1 Q1
    go_wp2_with fail
    refine (z2 ⟨_, Q1⟩).mono ?_
    rintro e v2 ⟨rfl, r2⟩
    have Q2 : Nw W0 v2 := Q1.tr r2
    obtain ⟨_, _, k2_0_2, _⟩ := hS v2 Q2
    go_wp2_with fail
    refine (z3 ⟨_, Q2⟩).mono ?_
    rintro e v3 ⟨rfl, r3⟩
    have Q3 : Nw W0 v3 := Q2.tr r3
    go_wp2_with fail
    go_ret
    exact ⟨rfl, Q0.tr Q3⟩
  | true =>
  cases d4 with
  | false =>
    go_enter Tryz.func198, Tryz.ntmps198
    go_upto_region 1 with (fail)
    rw [← HW0.out]
    obtain ⟨k0_0_0, _, _, _⟩ := hS W0 (Fr.refl _ _)
    go_wp2_with fail
    refine (z1 ⟨_, (Fr.refl (fun _ => False) W0)⟩).mono ?_
    rintro e v1 ⟨rfl, r1⟩
    have Q1 : Nw W0 v1 := (Fr.refl (fun _ => False) W0).tr r1
    obtain ⟨_, k1_0_1, _, _⟩ := hS v1 Q1
    go_wp2_with fail
    refine (z2 ⟨_, Q1⟩).mono ?_
    rintro e v2 ⟨rfl, r2⟩
    have Q2 : Nw W0 v2 := Q1.tr r2
    obtain ⟨_, _, k2_0_2, _⟩ := hS v2 Q2
    go_wp2_with fail
    refine (z3 ⟨_, Q2⟩).mono ?_
    rintro e v3 ⟨rfl, r3⟩
    have Q3 : Nw W0 v3 := Q2.tr r3
    obtain ⟨_, _, _, k3_0_3⟩ := hS v3 Q3
    go_wp2_with fail
    refine (z4 ⟨_, Q3⟩).mono ?_
    rintro e v4 ⟨rfl, r4⟩
    have Q4 : Nw W0 v4 := Q3.tr r4
    go_wp2_with fail
    go_ret
    exact ⟨rfl, Q0.tr Q4⟩
  | true =>
  go_enter Tryz.func198, Tryz.ntmps198
  go_upto_region 1 with (fail)
  rw [← HW0.out]
  obtain ⟨k0_0_0, _, _, _⟩ := hS W0 (Fr.refl _ _)
  go_wp2_with fail
  refine (z1 ⟨_, (Fr.refl (fun _ => False) W0)⟩).mono ?_
  rintro e v1 ⟨rfl, r1⟩
  have Q1 : Nw W0 v1 := (Fr.refl (fun _ => False) W0).tr r1
  obtain ⟨_, k1_0_1, _, _⟩ := hS v1 Q1
  go_wp2_with fail
  refine (z2 ⟨_, Q1⟩).mono ?_
  rintro e v2 ⟨rfl, r2⟩
  have Q2 : Nw W0 v2 := Q1.tr r2
  obtain ⟨_, _, k2_0_2, _⟩ := hS v2 Q2
  go_wp2_with fail
  refine (z3 ⟨_, Q2⟩).mono ?_
  rintro e v3 ⟨rfl, r3⟩
  have Q3 : Nw W0 v3 := Q2.tr r3
  obtain ⟨_, _, _, k3_0_3⟩ := hS v3 Q3
  go_wp2_with fail
  refine (z4 ⟨_, Q3⟩).mono ?_
  rintro e v4 ⟨rfl, r4⟩
  have Q4 : Nw W0 v4 := Q3.tr r4
  go_wp2_with fail
  go_ret
  exact ⟨rfl, Q0.tr Q4⟩
set_option maxRecDepth 100000 in
theorem jempty (w : World) (F : Nat → Prop) (x : CfgM) (hz : CfgSz x) : Calls Tryz.prog 157 #[.agg (cfgA x)] w fun e w' => e = .returned (.bool (cfgNone x.x)) ∧ Nw w w' := by
  obtain ⟨W0, hW0⟩ : ∃ W, W = w.alloc (.cells (cfgA x) 45) := ⟨_, rfl⟩
  have p0 : Nw w W0 := by rw [hW0]; exact (Fr.refl (fun _ => False) _).alloc _
  have b0 : Blk W0 w.heap.size 45 (cfgA x) := by rw [hW0]; exact Blk.new _ _ _
  have k0 : W0.cell? ⟨w.heap.size, 0, none⟩ = some x.v.v := by simpa using b0.cell 0
  have k1 : W0.cell? ⟨w.heap.size, 1, none⟩ = some x.o.v := by simpa using b0.cell 1
  have k2 : W0.cell? ⟨w.heap.size, 2, none⟩ = some x.l.v := by simpa using b0.cell 2
  have k3 : W0.cell? ⟨w.heap.size, 3, none⟩ = some x.w.v := by simpa using b0.cell 3
  have HW0 := Lib.hid hW0
  obtain ⟨hv, ho, hl, hw⟩ := hz
  have hn : cfgNone x.x = decide (x.v.l.length + x.o.l.length + x.l.l.length + x.w.l.length = 0) := rfl
  rw [hn]
  clear hW0 b0 hn
  have he : ((((x.v.l.length : Nat) : Int) + ((x.o.l.length : Nat) : Int) + ((x.l.l.length : Nat) : Int) + ((x.w.l.length : Nat) : Int)) == 0) = decide (x.v.l.length + x.o.l.length + x.l.l.length + x.w.l.length = 0) := by
    rw [Bool.eq_iff_iff, beq_iff_eq, decide_eq_true_eq]; omega
  have HE := Lib.hid he
  clear he
  go_enter Tryz.func157, Tryz.ntmps157
  go_upto_region 1 with (fail)
  rw [← HW0.out]
  go_wp2_with fail
  go_ret
  exact ⟨ret_eq (congrArg Value.bool HE.out), p0⟩
set_option maxRecDepth 100000 in
theorem rnone (w : World) (F : Nat → Prop) (x : CfgM) (hz : CfgSz x) : Calls Tryz.prog 199 #[.agg (cfgA x)] w fun e w' => e = .returned (.bool (cfgNone x.x)) ∧ Nw w w' := by
  obtain ⟨W0, hW0⟩ : ∃ W, W = w.alloc (.cells (cfgA x) 45) := ⟨_, rfl⟩
  have p0 : Nw w W0 := by rw [hW0]; exact (Fr.refl (fun _ => False) _).alloc _
  have b0 : Blk W0 w.heap.size 45 (cfgA x) := by rw [hW0]; exact Blk.new _ _ _
  have k0 : W0.cell? ⟨w.heap.size, 0, none⟩ = some x.v.v := by simpa using b0.cell 0
  have k1 : W0.cell? ⟨w.heap.size, 1, none⟩ = some x.o.v := by simpa using b0.cell 1
  have k2 : W0.cell? ⟨w.heap.size, 2, none⟩ = some x.l.v := by simpa using b0.cell 2
  have k3 : W0.cell? ⟨w.heap.size, 3, none⟩ = some x.w.v := by simpa using b0.cell 3
  have HW0 := Lib.hid hW0
  obtain ⟨hv, ho, hl, hw⟩ := hz
  have hn : cfgNone x.x = decide (x.v.l.length + x.o.l.length + x.l.l.length + x.w.l.length = 0) := rfl
  rw [hn]
  clear hW0 b0 hn
  have he : ((((x.v.l.length : Nat) : Int) + ((x.o.l.length : Nat) : Int) + ((x.l.l.length : Nat) : Int) + ((x.w.l.length : Nat) : Int)) == 0) = decide (x.v.l.length + x.o.l.length + x.l.l.length + x.w.l.length = 0) := by
    rw [Bool.eq_iff_iff, beq_iff_eq, decide_eq_true_eq]; omega
  have HE := Lib.hid he
  clear he
  go_enter Tryz.func199, Tryz.ntmps199
  go_upto_region 1 with (fail)
  rw [← HW0.out]
  go_wp2_with fail
  go_ret
  exact ⟨ret_eq (congrArg Value.bool HE.out), p0⟩
end Go.Proofs.YtippdjaakcgeoaaGreat

namespace Go.Proofs.YtippdjaakcgeoaaGreat
open Go Go.RowKit
set_option linter.unusedVariables false
set_option linter.unusedSimpArgs false
set_option maxRecDepth 100000 in
theorem jwithin_any (w : World) (b c : Int) : Calls Tryz.prog 156 #[I64 b, I64 c] w fun e w' => e = .returned (.bool (decide (0 ≤ b ∧ b ≤ c))) ∧ w = w' := by
  by_cases h1 : 0 ≤ b
  · by_cases h2 : b ≤ c
    · have e : decide (0 ≤ b ∧ b ≤ c) = true := decide_eq_true ⟨h1, h2⟩
      rw [e]
      go_enter Tryz.func156, Tryz.ntmps156
      go_wp2_with fail
      go_ret
      exact ⟨rfl, rfl⟩
    · have e : decide (0 ≤ b ∧ b ≤ c) = false := decide_eq_false fun h => h2 h.2
      rw [e]
      go_enter Tryz.func156, Tryz.ntmps156
      go_wp2_with fail
      go_ret
      exact ⟨by simp, rfl⟩
  · have e : decide (0 ≤ b ∧ b ≤ c) = false := decide_eq_false fun h => h1 h.1
    rw [e]
    go_enter Tryz.func156, Tryz.ntmps156
    go_wp2_with fail
    go_ret
    exact ⟨by simp, rfl⟩
set_option maxRecDepth 100000 in
set_option maxHeartbeats 4000000 in
theorem jent (w : World) (F : Nat → Prop) (x : EntM) (hx : EntIn w F x) (hz : EntSz x) : Calls Tryz.prog 81 #[.agg (entA x)] w fun e w' => e = .returned (.bool (entOk x.x)) ∧ Nw w w' := by
  obtain ⟨W0, hW0⟩ : ∃ W, W = w.alloc (.cells (entA x) 87) := ⟨_, rfl⟩
  have p0 : Nw w W0 := by rw [hW0]; exact (Fr.refl (fun _ => False) _).alloc _
  have b0 : Blk W0 w.heap.size 87 (entA x) := by rw [hW0]; exact Blk.new _ _ _
  have k0 : W0.cell? ⟨w.heap.size, 0, none⟩ = some (I64 x.term) := by simpa using b0.cell 0
  have k1 : W0.cell? ⟨w.heap.size, 1, none⟩ = some (U8V x.kind) := by simpa using b0.cell 1
  have k2 : W0.cell? ⟨w.heap.size, 2, none⟩ = some (.slice x.cmd.a x.cmd.l.length x.cmd.c) := by simpa using b0.cell 2
  have k3 : W0.cell? ⟨w.heap.size, 3, none⟩ = some (.slice x.cfg.v.a x.cfg.v.l.length x.cfg.v.c) := by simpa using b0.cell 3
  have k4 : W0.cell? ⟨w.heap.size, 4, none⟩ = some (.slice x.cfg.o.a x.cfg.o.l.length x.cfg.o.c) := by simpa using b0.cell 4
  have k5 : W0.cell? ⟨w.heap.size, 5, none⟩ = some (.slice x.cfg.l.a x.cfg.l.l.length x.cfg.l.c) := by simpa using b0.cell 5
  have k6 : W0.cell? ⟨w.heap.size, 6, none⟩ = some (.slice x.cfg.w.a x.cfg.w.l.length x.cfg.w.c) := by simpa using b0.cell 6
  have he := fun w' => jempty w' F x.cfg hz.cfg
  have hc : ∀ w', Nw W0 w' → _ := fun w' f => jcfg w' F x.cfg (hx.cfg.nw (p0.tr f)) hz.cfg
  have hok : entOk x.x = (topOk x.term && (if x.kind = 1 then decide (x.cmd.l.length = 0) && cfgNone x.cfg.x else if x.kind = 2 then decide (x.cmd.l.length ≤ 131072) && cfgNone x.cfg.x else decide (x.kind = 3) && (decide (x.cmd.l.length = 0) && cfgOk x.cfg.x))) := rfl
  obtain ⟨nn, hnn⟩ : ∃ d, cfgNone x.cfg.x = d := ⟨_, rfl⟩
  obtain ⟨cc, hcc⟩ : ∃ d, cfgOk x.cfg.x = d := ⟨_, rfl⟩
  simp only [hnn] at he
  simp only [hcc] at hc
  rw [hnn, hcc] at hok
  obtain ⟨r, hr⟩ : ∃ r, entOk x.x = r := ⟨_, rfl⟩
  rw [hr] at hok ⊢
  have hcl := hz.cmd
  have HW0 := Lib.hid hW0
  have HO := Lib.hid hok
  have hkd := hx.kind
  clear hW0 hr hnn hcc hx hz hok b0
  generalize x.cmd.l.length = n at *
  by_cases ht : 0 ≤ x.term ∧ x.term ≤ 1073741824
  case neg =>
    have htd : topOk x.term = false := decide_eq_false ht
    have HT := Lib.hid htd
    clear htd
    have hw := fun w => jwithin_any w x.term 1073741824
    simp only [decide_eq_false ht] at hw
    have HWi := Lib.hid ht
    clear ht
    go_enter Tryz.func81, Tryz.ntmps81
    go_upto_region 1 with (fail)
    rw [← HW0.out]
    go_wp2_with (first | (go_at_call 156; refine (hw _).mono ?_; rintro e v ⟨rfl, rfl⟩) | (go_at_call 157; refine (he _).mono ?_; rintro e w2 ⟨rfl, q2⟩) | (go_at_call 78; refine (hc _ (Fr.refl _ _)).mono ?_; rintro e w2 ⟨rfl, q2⟩))
    go_ret
    exact ⟨ret_eq (congrArg Value.bool (by rw [HO.out]; rw [HT.out]; rfl)), p0⟩
  have htd : topOk x.term = true := decide_eq_true ht
  have HT := Lib.hid htd
  clear htd
  obtain ⟨ht1, ht2⟩ := ht
  have hw := fun w => jwithin_any w x.term 1073741824
  simp only [decide_eq_true (show 0 ≤ x.term ∧ x.term ≤ 1073741824 from ⟨ht1, ht2⟩)] at hw
  by_cases h1 : x.kind = 1
  · have g1 : (x.kind == 1) = true := by simp [h1]
    have H1 := Lib.hid h1
    clear h1
    by_cases h4 : n = 0
    · have g4 : ((n : Int) == 0) = true := by simp [h4]
      have H4 := Lib.hid h4
      clear h4
      go_enter Tryz.func81, Tryz.ntmps81
      go_upto_region 1 with (fail)
      rw [← HW0.out]
      go_wp2_with (first | (go_at_call 156; refine (hw _).mono ?_; rintro e v ⟨rfl, rfl⟩) | (go_at_call 157; refine (he _).mono ?_; rintro e w2 ⟨rfl, q2⟩) | (go_at_call 78; refine (hc _ (Fr.refl _ _)).mono ?_; rintro e w2 ⟨rfl, q2⟩))
      go_ret
      exact ⟨ret_eq (congrArg Value.bool (by rw [HO.out]; rw [HT.out, if_pos H1.out, decide_eq_true H4.out]; rfl)), p0.tr q2⟩
    · have g4 : ((n : Int) == 0) = false := by simp [h4]
      have H4 := Lib.hid h4
      clear h4
      go_enter Tryz.func81, Tryz.ntmps81
      go_upto_region 1 with (fail)
      rw [← HW0.out]
      go_wp2_with (first | (go_at_call 156; refine (hw _).mono ?_; rintro e v ⟨rfl, rfl⟩) | (go_at_call 157; refine (he _).mono ?_; rintro e w2 ⟨rfl, q2⟩) | (go_at_call 78; refine (hc _ (Fr.refl _ _)).mono ?_; rintro e w2 ⟨rfl, q2⟩))
      go_ret
      exact ⟨ret_eq (congrArg Value.bool (by rw [HO.out]; rw [HT.out, if_pos H1.out, decide_eq_false H4.out]; rfl)), p0⟩
  · have g1 : (x.kind == 1) = false := by simp [h1]
    have H1 := Lib.hid h1
    clear h1
    by_cases h2 : x.kind = 2
    · have g2 : (x.kind == 2) = true := by simp [h2]
      have H2 := Lib.hid h2
      clear h2
      by_cases h4 : n ≤ 131072
      · have g4 : (n : Int) ≤ 131072 := by omega
        have H4 := Lib.hid h4
        clear h4
        go_enter Tryz.func81, Tryz.ntmps81
        go_upto_region 1 with (fail)
        rw [← HW0.out]
        go_wp2_with (first | (go_at_call 156; refine (hw _).mono ?_; rintro e v ⟨rfl, rfl⟩) | (go_at_call 157; refine (he _).mono ?_; rintro e w2 ⟨rfl, q2⟩) | (go_at_call 78; refine (hc _ (Fr.refl _ _)).mono ?_; rintro e w2 ⟨rfl, q2⟩))
        go_ret
        exact ⟨ret_eq (congrArg Value.bool (by rw [HO.out]; rw [HT.out, if_neg H1.out, if_pos H2.out, decide_eq_true H4.out]; rfl)), p0.tr q2⟩
      · have g4 : ¬ (n : Int) ≤ 131072 := by omega
        have H4 := Lib.hid h4
        clear h4
        go_enter Tryz.func81, Tryz.ntmps81
        go_upto_region 1 with (fail)
        rw [← HW0.out]
        go_wp2_with (first | (go_at_call 156; refine (hw _).mono ?_; rintro e v ⟨rfl, rfl⟩) | (go_at_call 157; refine (he _).mono ?_; rintro e w2 ⟨rfl, q2⟩) | (go_at_call 78; refine (hc _ (Fr.refl _ _)).mono ?_; rintro e w2 ⟨rfl, q2⟩))
        go_ret
        exact ⟨ret_eq (congrArg Value.bool (by rw [HO.out]; rw [HT.out, if_neg H1.out, if_pos H2.out, decide_eq_false H4.out]; rfl)), p0⟩
    · have g2 : (x.kind == 2) = false := by simp [h2]
      have H2 := Lib.hid h2
      clear h2
      by_cases h3 : x.kind = 3
      · have g3 : (x.kind == 3) = true := by simp [h3]
        have H3 := Lib.hid h3
        clear h3
        by_cases h4 : n = 0
        · have g4 : ((n : Int) == 0) = true := by simp [h4]
          have H4 := Lib.hid h4
          clear h4
          go_enter Tryz.func81, Tryz.ntmps81
          go_upto_region 1 with (fail)
          rw [← HW0.out]
          go_wp2_with (first | (go_at_call 156; refine (hw _).mono ?_; rintro e v ⟨rfl, rfl⟩) | (go_at_call 157; refine (he _).mono ?_; rintro e w2 ⟨rfl, q2⟩) | (go_at_call 78; refine (hc _ (Fr.refl _ _)).mono ?_; rintro e w2 ⟨rfl, q2⟩))
          go_ret
          exact ⟨ret_eq (congrArg Value.bool (by rw [HO.out]; rw [HT.out, if_neg H1.out, if_neg H2.out, decide_eq_true H3.out, decide_eq_true H4.out]; rfl)), p0.tr q2⟩
        · have g4 : ((n : Int) == 0) = false := by simp [h4]
          have H4 := Lib.hid h4
          clear h4
          go_enter Tryz.func81, Tryz.ntmps81
          go_upto_region 1 with (fail)
          rw [← HW0.out]
          go_wp2_with (first | (go_at_call 156; refine (hw _).mono ?_; rintro e v ⟨rfl, rfl⟩) | (go_at_call 157; refine (he _).mono ?_; rintro e w2 ⟨rfl, q2⟩) | (go_at_call 78; refine (hc _ (Fr.refl _ _)).mono ?_; rintro e w2 ⟨rfl, q2⟩))
          go_ret
          exact ⟨ret_eq (congrArg Value.bool (by rw [HO.out]; rw [HT.out, if_neg H1.out, if_neg H2.out, decide_eq_true H3.out, decide_eq_false H4.out]; rfl)), p0⟩
      · have g3 : (x.kind == 3) = false := by simp [h3]
        have H3 := Lib.hid h3
        clear h3
        go_enter Tryz.func81, Tryz.ntmps81
        go_upto_region 1 with (fail)
        rw [← HW0.out]
        go_wp2_with (first | (go_at_call 156; refine (hw _).mono ?_; rintro e v ⟨rfl, rfl⟩) | (go_at_call 157; refine (he _).mono ?_; rintro e w2 ⟨rfl, q2⟩) | (go_at_call 78; refine (hc _ (Fr.refl _ _)).mono ?_; rintro e w2 ⟨rfl, q2⟩))
        go_ret
        exact ⟨ret_eq (congrArg Value.bool (by rw [HO.out]; rw [HT.out, if_neg H1.out, if_neg H2.out, decide_eq_false H3.out]; rfl)), p0⟩
set_option maxRecDepth 100000 in
set_option maxHeartbeats 4000000 in
theorem rent (w : World) (F : Nat → Prop) (x : EntM) (hx : EntIn w F x) (hz : EntSz x) : Calls Tryz.prog 132 #[.agg (entA x)] w fun e w' => e = .returned (.bool (entOk x.x)) ∧ Nw w w' := by
  obtain ⟨W0, hW0⟩ : ∃ W, W = w.alloc (.cells (entA x) 87) := ⟨_, rfl⟩
  have p0 : Nw w W0 := by rw [hW0]; exact (Fr.refl (fun _ => False) _).alloc _
  have b0 : Blk W0 w.heap.size 87 (entA x) := by rw [hW0]; exact Blk.new _ _ _
  have k0 : W0.cell? ⟨w.heap.size, 0, none⟩ = some (I64 x.term) := by simpa using b0.cell 0
  have k1 : W0.cell? ⟨w.heap.size, 1, none⟩ = some (U8V x.kind) := by simpa using b0.cell 1
  have k2 : W0.cell? ⟨w.heap.size, 2, none⟩ = some (.slice x.cmd.a x.cmd.l.length x.cmd.c) := by simpa using b0.cell 2
  have k3 : W0.cell? ⟨w.heap.size, 3, none⟩ = some (.slice x.cfg.v.a x.cfg.v.l.length x.cfg.v.c) := by simpa using b0.cell 3
  have k4 : W0.cell? ⟨w.heap.size, 4, none⟩ = some (.slice x.cfg.o.a x.cfg.o.l.length x.cfg.o.c) := by simpa using b0.cell 4
  have k5 : W0.cell? ⟨w.heap.size, 5, none⟩ = some (.slice x.cfg.l.a x.cfg.l.l.length x.cfg.l.c) := by simpa using b0.cell 5
  have k6 : W0.cell? ⟨w.heap.size, 6, none⟩ = some (.slice x.cfg.w.a x.cfg.w.l.length x.cfg.w.c) := by simpa using b0.cell 6
  have he := fun w' => rnone w' F x.cfg hz.cfg
  have hc : ∀ w', Nw W0 w' → _ := fun w' f => rcfg w' F x.cfg (hx.cfg.nw (p0.tr f)) hz.cfg
  have hok : entOk x.x = (topOk x.term && (if x.kind = 1 then decide (x.cmd.l.length = 0) && cfgNone x.cfg.x else if x.kind = 2 then decide (x.cmd.l.length ≤ 131072) && cfgNone x.cfg.x else decide (x.kind = 3) && (decide (x.cmd.l.length = 0) && cfgOk x.cfg.x))) := rfl
  obtain ⟨nn, hnn⟩ : ∃ d, cfgNone x.cfg.x = d := ⟨_, rfl⟩
  obtain ⟨cc, hcc⟩ : ∃ d, cfgOk x.cfg.x = d := ⟨_, rfl⟩
  simp only [hnn] at he
  simp only [hcc] at hc
  rw [hnn, hcc] at hok
  obtain ⟨r, hr⟩ : ∃ r, entOk x.x = r := ⟨_, rfl⟩
  rw [hr] at hok ⊢
  have hcl := hz.cmd
  have HW0 := Lib.hid hW0
  have HO := Lib.hid hok
  have hkd := hx.kind
  clear hW0 hr hnn hcc hx hz hok b0
  generalize x.cmd.l.length = n at *
  by_cases ht : 0 ≤ x.term ∧ x.term ≤ 1073741824
  case neg =>
    have htd : topOk x.term = false := decide_eq_false ht
    have HT := Lib.hid htd
    clear htd
    by_cases hlo : x.term < 0
    · clear ht
      go_enter Tryz.func132, Tryz.ntmps132
      go_upto_region 1 with (fail)
      rw [← HW0.out]
      go_wp2_with (first | (go_at_call 199; refine (he _).mono ?_; rintro e w2 ⟨rfl, q2⟩) | (go_at_call 198; refine (hc _ (Fr.refl _ _)).mono ?_; rintro e w2 ⟨rfl, q2⟩))
      go_ret
      exact ⟨ret_eq (congrArg Value.bool (by rw [HO.out]; rw [HT.out]; rfl)), p0⟩
    · have hhi : 1073741824 < x.term := by omega
      have hlo2 : 0 ≤ x.term := by omega
      clear ht hlo
      go_enter Tryz.func132, Tryz.ntmps132
      go_upto_region 1 with (fail)
      rw [← HW0.out]
      go_wp2_with (first | (go_at_call 199; refine (he _).mono ?_; rintro e w2 ⟨rfl, q2⟩) | (go_at_call 198; refine (hc _ (Fr.refl _ _)).mono ?_; rintro e w2 ⟨rfl, q2⟩))
      go_ret
      exact ⟨ret_eq (congrArg Value.bool (by rw [HO.out]; rw [HT.out]; rfl)), p0⟩
  have htd : topOk x.term = true := decide_eq_true ht
  have HT := Lib.hid htd
  clear htd
  obtain ⟨ht1, ht2⟩ := ht
  by_cases h1 : x.kind = 1
  · have g1 : (x.kind == 1) = true := by simp [h1]
    have H1 := Lib.hid h1
    clear h1
    by_cases h4 : n = 0
    · have g4 : ((n : Int) == 0) = true := by simp [h4]
      have H4 := Lib.hid h4
      clear h4
      go_enter Tryz.func132, Tryz.ntmps132
      go_upto_region 1 with (fail)
      rw [← HW0.out]
      go_wp2_with (first | (go_at_call 199; refine (he _).mono ?_; rintro e w2 ⟨rfl, q2⟩) | (go_at_call 198; refine (hc _ (Fr.refl _ _)).mono ?_; rintro e w2 ⟨rfl, q2⟩))
      go_ret
      exact ⟨ret_eq (congrArg Value.bool (by rw [HO.out]; rw [HT.out, if_pos H1.out, decide_eq_true H4.out]; rfl)), p0.tr q2⟩
    · have g4 : ((n : Int) == 0) = false := by simp [h4]
      have H4 := Lib.hid h4
      clear h4
      go_enter Tryz.func132, Tryz.ntmps132
      go_upto_region 1 with (fail)
      rw [← HW0.out]
      go_wp2_with (first | (go_at_call 199; refine (he _).mono ?_; rintro e w2 ⟨rfl, q2⟩) | (go_at_call 198; refine (hc _ (Fr.refl _ _)).mono ?_; rintro e w2 ⟨rfl, q2⟩))
      go_ret
      exact ⟨ret_eq (congrArg Value.bool (by rw [HO.out]; rw [HT.out, if_pos H1.out, decide_eq_false H4.out]; rfl)), p0⟩
  · have g1 : (x.kind == 1) = false := by simp [h1]
    have H1 := Lib.hid h1
    clear h1
    by_cases h2 : x.kind = 2
    · have g2 : (x.kind == 2) = true := by simp [h2]
      have H2 := Lib.hid h2
      clear h2
      by_cases h4 : n ≤ 131072
      · have g4 : (n : Int) ≤ 131072 := by omega
        have H4 := Lib.hid h4
        clear h4
        go_enter Tryz.func132, Tryz.ntmps132
        go_upto_region 1 with (fail)
        rw [← HW0.out]
        go_wp2_with (first | (go_at_call 199; refine (he _).mono ?_; rintro e w2 ⟨rfl, q2⟩) | (go_at_call 198; refine (hc _ (Fr.refl _ _)).mono ?_; rintro e w2 ⟨rfl, q2⟩))
        go_ret
        exact ⟨ret_eq (congrArg Value.bool (by rw [HO.out]; rw [HT.out, if_neg H1.out, if_pos H2.out, decide_eq_true H4.out]; rfl)), p0.tr q2⟩
      · have g4 : ¬ (n : Int) ≤ 131072 := by omega
        have H4 := Lib.hid h4
        clear h4
        go_enter Tryz.func132, Tryz.ntmps132
        go_upto_region 1 with (fail)
        rw [← HW0.out]
        go_wp2_with (first | (go_at_call 199; refine (he _).mono ?_; rintro e w2 ⟨rfl, q2⟩) | (go_at_call 198; refine (hc _ (Fr.refl _ _)).mono ?_; rintro e w2 ⟨rfl, q2⟩))
        go_ret
        exact ⟨ret_eq (congrArg Value.bool (by rw [HO.out]; rw [HT.out, if_neg H1.out, if_pos H2.out, decide_eq_false H4.out]; rfl)), p0⟩
    · have g2 : (x.kind == 2) = false := by simp [h2]
      have H2 := Lib.hid h2
      clear h2
      by_cases h3 : x.kind = 3
      · have g3 : (x.kind == 3) = true := by simp [h3]
        have H3 := Lib.hid h3
        clear h3
        by_cases h4 : n = 0
        · have g4 : ((n : Int) == 0) = true := by simp [h4]
          have H4 := Lib.hid h4
          clear h4
          go_enter Tryz.func132, Tryz.ntmps132
          go_upto_region 1 with (fail)
          rw [← HW0.out]
          go_wp2_with (first | (go_at_call 199; refine (he _).mono ?_; rintro e w2 ⟨rfl, q2⟩) | (go_at_call 198; refine (hc _ (Fr.refl _ _)).mono ?_; rintro e w2 ⟨rfl, q2⟩))
          go_ret
          exact ⟨ret_eq (congrArg Value.bool (by rw [HO.out]; rw [HT.out, if_neg H1.out, if_neg H2.out, decide_eq_true H3.out, decide_eq_true H4.out]; rfl)), p0.tr q2⟩
        · have g4 : ((n : Int) == 0) = false := by simp [h4]
          have H4 := Lib.hid h4
          clear h4
          go_enter Tryz.func132, Tryz.ntmps132
          go_upto_region 1 with (fail)
          rw [← HW0.out]
          go_wp2_with (first | (go_at_call 199; refine (he _).mono ?_; rintro e w2 ⟨rfl, q2⟩) | (go_at_call 198; refine (hc _ (Fr.refl _ _)).mono ?_; rintro e w2 ⟨rfl, q2⟩))
          go_ret
          exact ⟨ret_eq (congrArg Value.bool (by rw [HO.out]; rw [HT.out, if_neg H1.out, if_neg H2.out, decide_eq_true H3.out, decide_eq_false H4.out]; rfl)), p0⟩
      · have g3 : (x.kind == 3) = false := by simp [h3]
        have H3 := Lib.hid h3
        clear h3
        go_enter Tryz.func132, Tryz.ntmps132
        go_upto_region 1 with (fail)
        rw [← HW0.out]
        go_wp2_with (first | (go_at_call 199; refine (he _).mono ?_; rintro e w2 ⟨rfl, q2⟩) | (go_at_call 198; refine (hc _ (Fr.refl _ _)).mono ?_; rintro e w2 ⟨rfl, q2⟩))
        go_ret
        exact ⟨ret_eq (congrArg Value.bool (by rw [HO.out]; rw [HT.out, if_neg H1.out, if_neg H2.out, decide_eq_false H3.out]; rfl)), p0⟩
/-! Numbers within bounds. -/
def wOk (lo hi n : Int) : Bool := decide (lo ≤ n ∧ n ≤ hi)
def entOkM (e : EntM) : Bool := entOk e.x
def withinB (lo hi : Int) (l : List Int) : Bool := l.all (wOk lo hi)
set_option maxRecDepth 100000 in
theorem within_c1 (w : World) (x lo hi : Int) (L M : Nat) (cl : w.cell? ⟨L, 0, none⟩ = some (I64 lo)) (cm : w.cell? ⟨M, 0, none⟩ = some (I64 hi)) :
    Calls Tryz.prog 153 #[I64 x, .pointer (some ⟨L, 0, none⟩), .pointer (some ⟨M, 0, none⟩)] w fun e w' => e = .returned (.bool (!wOk lo hi x)) ∧ w = w' := by
  unfold wOk
  by_cases h1 : x < lo
  · have e : (!decide (lo ≤ x ∧ x ≤ hi)) = true := by rw [decide_eq_false (by omega)]; rfl
    rw [e]
    go_enter Tryz.func153, Tryz.ntmps153
    go_wp2_with fail
    go_ret
    exact ⟨by simp, rfl⟩
  · by_cases h2 : hi < x
    · have e : (!decide (lo ≤ x ∧ x ≤ hi)) = true := by rw [decide_eq_false (by omega)]; rfl
      rw [e]
      go_enter Tryz.func153, Tryz.ntmps153
      go_wp2_with fail
      go_ret
      exact ⟨by simp, rfl⟩
    · have e : (!decide (lo ≤ x ∧ x ≤ hi)) = false := by rw [decide_eq_true (by omega)]; rfl
      rw [e]
      go_enter Tryz.func153, Tryz.ntmps153
      go_wp2_with fail
      go_ret
      exact ⟨by simp, rfl⟩
def winR (w : World) (ok : Int → Bool) (l : List Int) (i : Value) (wx : World) : Prop := ∃ k : Nat, k ≤ l.length ∧ i = .int .i64 k ∧ (∀ j (h : j < l.length), j < k → ok l[j] = true) ∧ Nw w wx
set_option maxRecDepth 100000 in
theorem win_index (w : World) (F : Nat → Prop) (A : Option Addr) (c : Nat) (l : List Int) (hs : Sl w F A (intsC l)) (hl : l.length ≤ 1000000000) (lo hi : Int) (L M : Nat) (cl : w.cell? ⟨L, 0, none⟩ = some (I64 lo)) (cm : w.cell? ⟨M, 0, none⟩ = some (I64 hi)) :
    Calls Tryz.prog 208 #[.slice A l.length c, .func (.func 153) #[] #[.pointer (some ⟨L, 0, none⟩), .pointer (some ⟨M, 0, none⟩)]] w
      fun e w' => ∃ i : Int, e = .returned (.int .i64 i) ∧ (0 ≤ i ↔ l.all (wOk lo hi) = false) ∧ Nw w w' := by
  go_enter Tryz.func208, Tryz.ntmps208
  go_wp2_with fail
  go_loopw [8] (fun i wx => winR w (wOk lo hi) l i wx) (fun i _ => l.length - (intOf i).toNat)
  case atStart => exact ⟨0, Nat.zero_le _, rfl, fun _ _ h => by omega, Fr.refl _ _⟩
  case round =>
    obtain ⟨k, hk, rfl, hok, hq⟩ := hrel
    have HK := Lib.hid hok
    clear hok
    by_cases hlt : k < l.length
    · obtain ⟨b, o, rfl, _, hc⟩ := (hs.fr hq (fun _ _ h => h)).get hlt
      have cl2 := (hq.cell (World.block_lt_of_cell? _ _ cl) (fun h => h)).trans cl
      have cm2 := (hq.cell (World.block_lt_of_cell? _ _ cm) (fun h => h)).trans cm
      have hcon := within_c1 wr l[k] lo hi L M cl2 cm2
      obtain ⟨p, hp⟩ : ∃ p, (wOk lo hi) l[k] = p := ⟨_, rfl⟩
      have HP := Lib.hid hp
      simp only [hp] at hcon
      clear hp
      cases p
      · go_wp2_with (first | (go_at_call 153; refine hcon.mono ?_; rintro e w1 ⟨rfl, rfl⟩; have q1 := Fr.refl (fun _ => False) wr))
        go_ret
        refine ⟨k, rfl, ⟨fun _ => ?_, fun _ => by omega⟩, hq.tr q1⟩
        refine Bool.eq_false_iff.2 fun h => ?_
        have := List.all_eq_true.1 h _ (List.getElem_mem hlt)
        rw [HP.out] at this
        cases this
      · go_wp2_with (first | (go_at_call 153; refine hcon.mono ?_; rintro e w1 ⟨rfl, rfl⟩; have q1 := Fr.refl (fun _ => False) wr))
        go_roundw
        case rel =>
          refine ⟨k + 1, by omega, rfl, fun j hj hjk => ?_, hq.tr q1⟩
          by_cases hjk2 : j < k
          · exact HK.out j hj hjk2
          · obtain rfl : j = k := by omega
            exact HP.out
        case measure => simp [intOf]; omega
    · go_wp2_with fail
      go_ret
      have e : l.all (wOk lo hi) = true := List.all_eq_true.2 fun x hx => by
        obtain ⟨j, hj, rfl⟩ := List.mem_iff_getElem.1 hx
        exact HK.out j hj (by omega)
      exact ⟨-1, rfl, ⟨fun h => by omega, fun h => by rw [e] at h; cases h⟩, hq⟩
set_option maxRecDepth 100000 in
theorem win_contains (w : World) (F : Nat → Prop) (A : Option Addr) (c : Nat) (l : List Int) (hs : Sl w F A (intsC l)) (hl : l.length ≤ 1000000000) (lo hi : Int) (L M : Nat) (cl : w.cell? ⟨L, 0, none⟩ = some (I64 lo)) (cm : w.cell? ⟨M, 0, none⟩ = some (I64 hi)) :
    Calls Tryz.prog 152 #[.slice A l.length c, .func (.func 153) #[] #[.pointer (some ⟨L, 0, none⟩), .pointer (some ⟨M, 0, none⟩)]] w fun e w' => e = .returned (.bool (!l.all (wOk lo hi))) ∧ Nw w w' := by
  have hI := win_index w F A c l hs hl lo hi L M cl cm
  have HI := Lib.hid hI
  clear hI
  go_enter Tryz.func152, Tryz.ntmps152
  go_wp2_with fail
  refine HI.out.mono ?_
  rintro e w1 ⟨i, rfl, hii, q1⟩
  have hd : decide (0 ≤ i) = !l.all (wOk lo hi) := by
    by_cases h0 : 0 ≤ i
    · rw [decide_eq_true h0, hii.1 h0]; rfl
    · have hn : l.all (wOk lo hi) = true := by
        cases h : l.all (wOk lo hi) with
        | true => rfl
        | false => exact (h0 (hii.2 h)).elim
      rw [decide_eq_false h0, hn]; rfl
  have HD := Lib.hid hd
  clear hd hii
  go_wp2_with fail
  go_ret
  exact ⟨congrArg (fun b => Ending.returned (.bool b)) HD.out, q1⟩
set_option maxRecDepth 100000 in
theorem within_any (w : World) (F : Nat → Prop) (A : Option Addr) (c : Nat) (l : List Int) (lo hi : Int) (hs : Sl w F A (intsC l)) (hl : l.length ≤ 1000000000) :
    Calls Tryz.prog 77 #[I64 lo, I64 hi, .slice A l.length c] w fun e w' => e = .returned (.bool (withinB lo hi l)) ∧ Nw w w' := by
  obtain ⟨L, hL⟩ : ∃ L, L = w.heap.size := ⟨_, rfl⟩
  obtain ⟨M, hM⟩ : ∃ M, M = w.heap.size + 1 := ⟨_, rfl⟩
  obtain ⟨W0, hW0⟩ : ∃ W, W = (w.alloc (.cells #[I64 lo] 3)).alloc (.cells #[I64 hi] 3) := ⟨_, rfl⟩
  have q0 : Nw w W0 := by rw [hW0]; exact ((Fr.refl (fun _ => False) _).alloc _).alloc _
  have bl : Blk W0 L 3 #[I64 lo] := by rw [hW0, hL]; exact (Blk.new w 3 #[I64 lo]).alloc _
  have bm : Blk W0 M 3 #[I64 hi] := by rw [hW0, hM]; simpa using Blk.new (w.alloc (.cells #[I64 lo] 3)) 3 #[I64 hi]
  have cl : W0.cell? ⟨L, 0, none⟩ = some (I64 lo) := by simpa using bl.cell 0
  have cm : W0.cell? ⟨M, 0, none⟩ = some (I64 hi) := by simpa using bm.cell 0
  have hcon := win_contains W0 F A c l (hs.fr q0 (fun _ _ h => h)) hl lo hi L M cl cm
  have HL := Lib.hid hL
  have HM := Lib.hid hM
  have HW0 := Lib.hid hW0
  have HC := Lib.hid hcon
  clear hL hM hW0 hcon cl cm bl bm
  go_enter Tryz.func77, Tryz.ntmps77
  go_upto_region 1 with (fail)
  rw [← HM.out, ← HL.out, ← HW0.out]
  go_wp2_with fail
  refine HC.out.mono ?_
  rintro e w1 ⟨rfl, q1⟩
  go_wp2_with fail
  go_ret
  exact ⟨ret_eq (congrArg Value.bool (by unfold withinB; simp)), q0.tr q1⟩
set_option maxRecDepth 100000 in
theorem right_c1 (w : World) (F : Nat → Prop) (x : EntM) (hx : EntIn w F x) (hz : EntSz x) :
    Calls Tryz.prog 80 #[.agg (entA x)] w fun e w' => e = .returned (.bool (!entOkM x)) ∧ Nw w w' := by
  unfold entOkM
  obtain ⟨W0, hW0⟩ : ∃ W, W = w.alloc (.cells (entA x) 87) := ⟨_, rfl⟩
  have p0 : Nw w W0 := by rw [hW0]; exact (Fr.refl (fun _ => False) _).alloc _
  have b0 : Blk W0 w.heap.size 87 (entA x) := by rw [hW0]; exact Blk.new _ _ _
  have hcon := jent W0 F x (hx.nw p0) hz
  generalize entOk x.x = r at hcon ⊢
  have HW0 := Lib.hid hW0
  have HC := Lib.hid hcon
  clear hW0 hcon
  go_enter Tryz.func80, Tryz.ntmps80
  go_upto_region 1 with (fail)
  rw [← HW0.out]
  go_wp2_with (refine wpList_load_row rfl 87 _ rfl w.heap.size rfl 87 _ (0, 0) _ b0 Tryz.underlying87 rfl (by kernel_rfl) ?_)
  refine HC.out.mono ?_
  rintro e w1 ⟨rfl, q1⟩
  go_wp2_with fail
  go_ret
  exact ⟨rfl, p0.tr q1⟩
def entsR (w : World) (ok : EntM → Bool) (l : List EntM) (i : Value) (wx : World) : Prop := ∃ k : Nat, k ≤ l.length ∧ i = .int .i64 k ∧ (∀ j (h : j < l.length), j < k → ok l[j] = true) ∧ Nw w wx
set_option maxRecDepth 100000 in
theorem ents_index (w : World) (F : Nat → Prop) (A : Option Addr) (c : Nat) (l : List EntM) (hs : Sl w F A (entsC l)) (hl : l.length ≤ 1000000000) (he : ∀ e ∈ l, EntIn w F e) (hz : ∀ e ∈ l, EntSz e) :
    Calls Tryz.prog 155 #[.slice A l.length c, .func (.func 80) #[] #[]] w
      fun e w' => ∃ i : Int, e = .returned (.int .i64 i) ∧ (0 ≤ i ↔ l.all (entOkM) = false) ∧ Nw w w' := by
  have HE := Lib.hid he
  have HZ := Lib.hid hz
  clear he hz
  go_enter Tryz.func155, Tryz.ntmps155
  go_wp2_with fail
  go_loopw [8] (fun i wx => entsR w (entOkM) l i wx) (fun i _ => l.length - (intOf i).toNat)
  case atStart => exact ⟨0, Nat.zero_le _, rfl, fun _ _ h => by omega, Fr.refl _ _⟩
  case round =>
    obtain ⟨k, hk, rfl, hok, hq⟩ := hrel
    have HK := Lib.hid hok
    clear hok
    by_cases hlt : k < l.length
    · obtain ⟨b, o, rfl, _, _, hc⟩ := (hs.fr hq (fun _ _ h => h)).ent hlt
      have hcon := right_c1 wr F l[k] ((HE.out _ (List.getElem_mem hlt)).nw hq) (HZ.out _ (List.getElem_mem hlt))
      obtain ⟨p, hp⟩ : ∃ p, (entOkM) l[k] = p := ⟨_, rfl⟩
      have HP := Lib.hid hp
      simp only [hp] at hcon
      clear hp
      cases p
      · go_wp2_with (first | (refine wl_load_cells rfl 87 _ rfl b (o + k * 7) rfl _ _ hc Tryz.underlying87 rfl (by kernel_rfl) ?_) | (go_at_call 80; refine hcon.mono ?_; rintro e w1 ⟨rfl, q1⟩))
        go_ret
        refine ⟨k, rfl, ⟨fun _ => ?_, fun _ => by omega⟩, hq.tr q1⟩
        refine Bool.eq_false_iff.2 fun h => ?_
        have := List.all_eq_true.1 h _ (List.getElem_mem hlt)
        rw [HP.out] at this
        cases this
      · go_wp2_with (first | (refine wl_load_cells rfl 87 _ rfl b (o + k * 7) rfl _ _ hc Tryz.underlying87 rfl (by kernel_rfl) ?_) | (go_at_call 80; refine hcon.mono ?_; rintro e w1 ⟨rfl, q1⟩))
        go_roundw
        case rel =>
          refine ⟨k + 1, by omega, rfl, fun j hj hjk => ?_, hq.tr q1⟩
          by_cases hjk2 : j < k
          · exact HK.out j hj hjk2
          · obtain rfl : j = k := by omega
            exact HP.out
        case measure => simp [intOf]; omega
    · go_wp2_with fail
      go_ret
      have e : l.all (entOkM) = true := List.all_eq_true.2 fun x hx => by
        obtain ⟨j, hj, rfl⟩ := List.mem_iff_getElem.1 hx
        exact HK.out j hj (by omega)
      exact ⟨-1, rfl, ⟨fun h => by omega, fun h => by rw [e] at h; cases h⟩, hq⟩
set_option maxRecDepth 100000 in
theorem ents_contains (w : World) (F : Nat → Prop) (A : Option Addr) (c : Nat) (l : List EntM) (hs : Sl w F A (entsC l)) (hl : l.length ≤ 1000000000) (he : ∀ e ∈ l, EntIn w F e) (hz : ∀ e ∈ l, EntSz e) :
    Calls Tryz.prog 79 #[.slice A l.length c, .func (.func 80) #[] #[]] w fun e w' => e = .returned (.bool (!l.all (entOkM))) ∧ Nw w w' := by
  have hI := ents_index w F A c l hs hl he hz
  have HI := Lib.hid hI
  clear hI
  go_enter Tryz.func79, Tryz.ntmps79
  go_wp2_with fail
  refine HI.out.mono ?_
  rintro e w1 ⟨i, rfl, hii, q1⟩
  have hd : decide (0 ≤ i) = !l.all (entOkM) := by
    by_cases h0 : 0 ≤ i
    · rw [decide_eq_true h0, hii.1 h0]; rfl
    · have hn : l.all (entOkM) = true := by
        cases h : l.all (entOkM) with
        | true => rfl
        | false => exact (h0 (hii.2 h)).elim
      rw [decide_eq_false h0, hn]; rfl
  have HD := Lib.hid hd
  clear hd hii
  go_wp2_with fail
  go_ret
  exact ⟨congrArg (fun b => Ending.returned (.bool b)) HD.out, q1⟩
end Go.Proofs.YtippdjaakcgeoaaGreat
