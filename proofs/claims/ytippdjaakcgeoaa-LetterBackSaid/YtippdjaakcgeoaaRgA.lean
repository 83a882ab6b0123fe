/- Letters: which nodes, configs, entries are right, by the program, by the document. (Printed by genrga.py.) -/
import Derived.Test.YtippdjaakcgeoaaCpC
namespace Go.Proofs.Ytippdjaakcgeoaa
open Go Go.RowKit
set_option linter.unusedVariables false
set_option linter.unusedSimpArgs false
theorem ndAt_zero (l : List Int) (h : 0 < l.length) : ndAt l 0 = decide (1 ≤ l[0] ∧ l[0] ≤ 5) := by
  unfold ndAt
  rw [List.getD_eq_getElem?_getD, List.getElem?_eq_getElem h]
  simp
theorem ndAt_succ (l : List Int) (j : Nat) (h : j + 1 < l.length) : ndAt l (j + 1) = (decide (1 ≤ l[j + 1] ∧ l[j + 1] ≤ 5) && decide (l[j] < l[j + 1])) := by
  unfold ndAt
  have e : j + 1 - 1 = j := by omega
  rw [e, List.getD_eq_getElem?_getD, List.getElem?_eq_getElem h, List.getD_eq_getElem?_getD, List.getElem?_eq_getElem (by omega)]
  simp
theorem nodes_all {l : List Int} (h : ∀ j, j < l.length → ndAt l j = true) : nodesOk l = true := by
  unfold nodesOk
  exact List.all_eq_true.2 fun j hj => h j (List.mem_range.1 hj)
theorem nodes_no {l : List Int} {k : Nat} (hk : k < l.length) (h : ndAt l k = false) : nodesOk l = false := by
  unfold nodesOk
  rw [List.all_eq_false]
  exact ⟨k, List.mem_range.2 hk, by rw [h]; simp⟩
def NdR (w : World) (l : List Int) (i : Value) (wr : World) : Prop := ∃ k : Nat, k ≤ l.length ∧ i = .int .i64 k ∧ (∀ j, j < k → ndAt l j = true) ∧ Nw w wr
set_option maxRecDepth 100000 in
set_option maxHeartbeats 4000000 in
theorem jnodes (w : World) (F : Nat → Prop) (A : Option Addr) (c : Nat) (l : List Int) (h : Sl w F A (intsC l)) (hsz : l.length ≤ 1000000000000) :
    Calls Try.prog 74 #[.slice A l.length c] w fun e w' => e = .returned (.bool (nodesOk l)) ∧ Nw w w' := by
  go_enter Try.func74, Try.ntmps74
  go_wp2_with fail
  go_loopw [7] (fun i wr => NdR w l i wr) (fun i _ => l.length - (intOf i).toNat)
  case atStart => exact ⟨0, Nat.zero_le _, rfl, fun j hj => by omega, Fr.refl _ _⟩
  case round =>
    obtain ⟨k, hk, rfl, hb, hq⟩ := hrel
    have HB := Lib.hid hb
    clear hb
    by_cases hlt : k < l.length
    · cases k with
      | zero =>
        obtain ⟨b, o, rfl, _, p0⟩ := (h.fr hq (fun _ _ h => h)).get hlt
        have hA := ndAt_zero l hlt
        have hi0 : (0 : Int) < (l.length : Int) := by omega
        obtain ⟨x, hx⟩ : ∃ x, l[0] = x := ⟨_, rfl⟩
        rw [hx] at hA p0
        simp only [Nat.add_zero] at p0
        clear hx
        by_cases h1 : x < 1
        · have hA : ndAt l 0 = false := by rw [hA]; exact decide_eq_false (by omega)
          have HA := Lib.hid hA
          clear hA
          have g1 : decide (x < 1) = true := decide_eq_true h1
          go_wp2_with fail
          go_ret
          exact ⟨ret_eq (congrArg Value.bool (nodes_no hlt (HA.out)).symm), hq⟩
        · have h2 : 1 ≤ x := by omega
          have g1 : decide (x < 1) = false := decide_eq_false h1
          by_cases h3 : 5 < x
          · have hA : ndAt l 0 = false := by rw [hA]; exact decide_eq_false (by omega)
            have HA := Lib.hid hA
            clear hA
            have g2 : decide (5 < x) = true := decide_eq_true h3
            go_wp2_with fail
            go_ret
            exact ⟨ret_eq (congrArg Value.bool (nodes_no hlt (HA.out)).symm), hq⟩
          · have h4 : x ≤ 5 := by omega
            have hA : ndAt l 0 = true := by rw [hA]; exact decide_eq_true ⟨h2, h4⟩
            have HA := Lib.hid hA
            clear hA
            have g2 : decide (5 < x) = false := decide_eq_false h3
            go_wp2_with fail
            go_roundw
            case rel =>
              refine ⟨1, by omega, by go_num, fun i hi => ?_, hq⟩
              by_cases e : i = 0
              · subst e; exact HA.out
              · exact HB.out i (by omega)
            case measure => simp [intOf]; omega
      | succ j =>
        obtain ⟨b, o, rfl, _, p0⟩ := (h.fr hq (fun _ _ h => h)).get hlt
        obtain ⟨b', o', hbo, _, r0⟩ := (h.fr hq (fun _ _ h => h)).get (show j < l.length by omega)
        injection hbo with hbo
        injection hbo with e1 e2 _
        subst e1
        subst e2
        have hA := ndAt_succ l j hlt
        have hi0 : (j : Int) + 1 < (l.length : Int) := by omega
        obtain ⟨x, hx⟩ : ∃ x, l[j + 1] = x := ⟨_, rfl⟩
        obtain ⟨y, hy⟩ : ∃ y, l[j] = y := ⟨_, rfl⟩
        rw [hx, hy] at hA
        rw [hx] at p0
        rw [hy] at r0
        have hj0 : (0 : Int) < (j : Int) + 1 := by omega
        have g3 : decide ((0 : Int) < (j : Int) + 1) = true := decide_eq_true hj0
        have hsub : IntKind.i64.wrap ((j : Int) + 1 - 1) = (j : Int) := by rw [IntWalk.i64_in _ (by omega)]; omega
        clear hx hy
        by_cases h1 : x < 1
        · have hA : ndAt l (j + 1) = false := by rw [hA, decide_eq_false (show ¬ (1 ≤ x ∧ x ≤ 5) by omega)]; rfl
          have HA := Lib.hid hA
          clear hA
          have g1 : decide (x < 1) = true := decide_eq_true h1
          go_wp2_with fail
          go_ret
          exact ⟨ret_eq (congrArg Value.bool (nodes_no hlt (HA.out)).symm), hq⟩
        · have h2 : 1 ≤ x := by omega
          have g1 : decide (x < 1) = false := decide_eq_false h1
          by_cases h3 : 5 < x
          · have hA : ndAt l (j + 1) = false := by rw [hA, decide_eq_false (show ¬ (1 ≤ x ∧ x ≤ 5) by omega)]; rfl
            have HA := Lib.hid hA
            clear hA
            have g2 : decide (5 < x) = true := decide_eq_true h3
            go_wp2_with fail
            go_ret
            exact ⟨ret_eq (congrArg Value.bool (nodes_no hlt (HA.out)).symm), hq⟩
          · have h4 : x ≤ 5 := by omega
            have g2 : decide (5 < x) = false := decide_eq_false h3
            by_cases h5 : x ≤ y
            · have hA : ndAt l (j + 1) = false := by rw [hA, decide_eq_false (show ¬ (y < x) by omega)]; exact Bool.and_false _
              have HA := Lib.hid hA
              clear hA
              have g4 : decide (x ≤ y) = true := decide_eq_true h5
              go_wp2_with fail
              go_ret
              exact ⟨ret_eq (congrArg Value.bool (nodes_no hlt (HA.out)).symm), hq⟩
            · have h6 : y < x := by omega
              have hA : ndAt l (j + 1) = true := by rw [hA, decide_eq_true h6, decide_eq_true (show 1 ≤ x ∧ x ≤ 5 from ⟨h2, h4⟩)]; rfl
              have HA := Lib.hid hA
              clear hA
              have g4 : decide (x ≤ y) = false := decide_eq_false h5
              go_wp2_with fail
              go_roundw
              case rel =>
                refine ⟨j + 1 + 1, by omega, by go_num, fun i hi => ?_, hq⟩
                by_cases e : i = j + 1
                · subst e; exact HA.out
                · exact HB.out i (by omega)
              case measure => simp [intOf]; omega
    · obtain rfl : l.length = k := by omega
      go_wp2_with fail
      go_ret
      exact ⟨ret_eq (congrArg Value.bool (nodes_all (fun j hj => HB.out j hj)).symm), hq⟩
set_option maxRecDepth 100000 in
set_option maxHeartbeats 4000000 in
theorem jcfg (w : World) (F : Nat → Prop) (x : CfgM) (hx : CfgIn w F x) (hz : CfgSz x) :
    Calls Try.prog 48 #[.agg (cfgA x)] w fun e w' => e = .returned (.bool (cfgOk x.x)) ∧ Nw w w' := by
  have hok : cfgOk x.x = (nodesOk x.v.l && (nodesOk x.o.l && (nodesOk x.l.l && nodesOk x.w.l))) := rfl
  rw [hok]
  clear hok
  obtain ⟨W0, hW0⟩ : ∃ W, W = w.alloc (.cells #[.slice x.v.a x.v.l.length x.v.c, .slice x.o.a x.o.l.length x.o.c, .slice x.l.a x.l.l.length x.l.c, .slice x.w.a x.w.l.length x.w.c] 35) := ⟨_, rfl⟩
  have p0 : Nw w W0 := by rw [hW0]; exact (Fr.refl (fun _ => False) _).alloc _
  have b0 : Blk W0 w.heap.size 35 #[.slice x.v.a x.v.l.length x.v.c, .slice x.o.a x.o.l.length x.o.c, .slice x.l.a x.l.l.length x.l.c, .slice x.w.a x.w.l.length x.w.c] := by rw [hW0]; exact Blk.new _ _ _
  have Q0 : Nw w W0 := p0
  have z1 : ∀ m : Later W0, Calls Try.prog 74 #[.slice x.v.a x.v.l.length x.v.c] m.at_ fun e w' => e = .returned (.bool (nodesOk x.v.l)) ∧ Nw m.at_ w' := fun m => by
    have f := Q0.tr m.nw
    exact jnodes _ F _ _ _ (hx.v.nw f).sl (by have := hz.v; omega)
  obtain ⟨d1, e1⟩ : ∃ d, (nodesOk x.v.l) = d := ⟨_, rfl⟩
  simp only [e1] at z1 ⊢
  have z2 : ∀ m : Later W0, Calls Try.prog 74 #[.slice x.o.a x.o.l.length x.o.c] m.at_ fun e w' => e = .returned (.bool (nodesOk x.o.l)) ∧ Nw m.at_ w' := fun m => by
    have f := Q0.tr m.nw
    exact jnodes _ F _ _ _ (hx.o.nw f).sl (by have := hz.o; omega)
  obtain ⟨d2, e2⟩ : ∃ d, (nodesOk x.o.l) = d := ⟨_, rfl⟩
  simp only [e2] at z2 ⊢
  have z3 : ∀ m : Later W0, Calls Try.prog 74 #[.slice x.l.a x.l.l.length x.l.c] m.at_ fun e w' => e = .returned (.bool (nodesOk x.l.l)) ∧ Nw m.at_ w' := fun m => by
    have f := Q0.tr m.nw
    exact jnodes _ F _ _ _ (hx.l.nw f).sl (by have := hz.l; omega)
  obtain ⟨d3, e3⟩ : ∃ d, (nodesOk x.l.l) = d := ⟨_, rfl⟩
  simp only [e3] at z3 ⊢
  have z4 : ∀ m : Later W0, Calls Try.prog 74 #[.slice x.w.a x.w.l.length x.w.c] m.at_ fun e w' => e = .returned (.bool (nodesOk x.w.l)) ∧ Nw m.at_ w' := fun m => by
    have f := Q0.tr m.nw
    exact jnodes _ F _ _ _ (hx.w.nw f).sl (by have := hz.w; omega)
  obtain ⟨d4, e4⟩ : ∃ d, (nodesOk x.w.l) = d := ⟨_, rfl⟩
  simp only [e4] at z4 ⊢
  have hS : ∀ w1, Nw W0 w1 → w1.cell? ⟨w.heap.size, 0, none⟩ = some (.slice x.v.a x.v.l.length x.v.c) ∧ w1.cell? ⟨w.heap.size, 1, none⟩ = some (.slice x.o.a x.o.l.length x.o.c) ∧ w1.cell? ⟨w.heap.size, 2, none⟩ = some (.slice x.l.a x.l.l.length x.l.c) ∧ w1.cell? ⟨w.heap.size, 3, none⟩ = some (.slice x.w.a x.w.l.length x.w.c) := fun w1 f => by
    have a0 := b0.fr f (fun h => h)
    exact ⟨by simpa using a0.cell 0, by simpa using a0.cell 1, by simpa using a0.cell 2, by simpa using a0.cell 3⟩
  have HW0 := Lib.hid hW0
  clear hW0 b0 e1 e2 e3 e4
  cases d1 with
  | false =>
    go_enter Try.func48, Try.ntmps48
    go_upto_region 1 with (fail)
    rw [← HW0.out]
    obtain ⟨k0_0_0, _, _, _⟩ := hS W0 (Fr.refl _ _)
    go_wp2_with fail
    refine (z1 ⟨_, (Fr.refl (fun _ => False) W0)⟩).mono ?_
    rintro e v1 ⟨rfl, r1⟩
    have Q1 : Nw W0 v1 := (Fr.refl (fun _ => False) W0).tr r1
    go_wp2_with fail
    go_ret
    exact ⟨rfl, Q0.tr Q1⟩
  | true =>
  cases d2 with
  | false =>
    go_enter Try.func48, Try.ntmps48
    go_upto_region 1 with (fail)
    rw [← HW0.out]
    obtain ⟨k0_0_0, _, _, _⟩ := hS W0 (Fr.refl _ _)
    go_wp2_with fail
    refine (z1 ⟨_, (Fr.refl (fun _ => False) W0)⟩).mono ?_
    rintro e v1 ⟨rfl, r1⟩
    have Q1 : Nw W0 v1 := (Fr.refl (fun _ => False) W0).tr r1
    obtain ⟨_, k1_0_1, _, _⟩ := hS v1 Q1
    go_wp2_with fail
    refine (z2 ⟨_, Q1⟩).mono ?_
    rintro e v2 ⟨rfl, r2⟩
    have Q2 : Nw W0 v2 := Q1.tr r2
    go_wp2_with fail
    go_ret
    exact ⟨rfl, Q0.tr Q2⟩
  | true =>
  cases d3 with
  | false =>
    go_enter Try.func48, Try.ntmps48
    go_upto_region 1 with (fail)
    rw [← HW0.out]
    obtain ⟨k0_0_0, _, _, _⟩ := hS W0 (Fr.refl _ _)
    go_wp2_with fail
    refine (z1 ⟨_, (Fr.refl (fun _ => False) W0)⟩).mono ?_
    rintro e v1 ⟨rfl, r1⟩
    have Q1 : Nw W0 v1 := (Fr.refl (fun _ => False) W0).tr r1
    obtain ⟨_, k1_0_1, _, _⟩ := hS v1 Q1
    go_wp2_with fail
    refine (z2 ⟨_, Q1⟩).mono ?_
    rintro e v2 ⟨rfl, r2⟩
    have Q2 : Nw W0 v2 := Q1.tr r2
    obtain ⟨_, _, k2_0_2, _⟩ := hS v2 Q2
    go_wp2_with fail
    refine (z3 ⟨_, Q2⟩).mono ?_
    rintro e v3 ⟨rfl, r3⟩
    have Q3 : Nw W0 v3 := Q2.tr r3
    go_wp2_with fail
    go_ret
    exact ⟨rfl, Q0.tr Q3⟩
  | true =>
  cases d4 with
  | false =>
    go_enter Try.func48, Try.ntmps48
    go_upto_region 1 with (fail)
    rw [← HW0.out]
    obtain ⟨k0_0_0, _, _, _⟩ := hS W0 (Fr.refl _ _)
    go_wp2_with fail
    refine (z1 ⟨_, (Fr.refl (fun _ => False) W0)⟩).mono ?_
    rintro e v1 ⟨rfl, r1⟩
    have Q1 : Nw W0 v1 := (Fr.refl (fun _ => False) W0).tr r1
    obtain ⟨_, k1_0_1, _, _⟩ := hS v1 Q1
    go_wp2_with fail
    refine (z2 ⟨_, Q1⟩).mono ?_
    rintro e v2 ⟨rfl, r2⟩
    have Q2 : Nw W0 v2 := Q1.tr r2
    obtain ⟨_, _, k2_0_2, _⟩ := hS v2 Q2
    go_wp2_with fail
    refine (z3 ⟨_, Q2⟩).mono ?_
    rintro e v3 ⟨rfl, r3⟩
    have Q3 : Nw W0 v3 := Q2.tr r3
    obtain ⟨_, _, _, k3_0_3⟩ := hS v3 Q3
    go_wp2_with fail
    refine (z4 ⟨_, Q3⟩).mono ?_
    rintro e v4 ⟨rfl, r4⟩
    have Q4 : Nw W0 v4 := Q3.tr r4
    go_wp2_with fail
    go_ret
    exact ⟨rfl, Q0.tr Q4⟩
  | true =>
  go_enter Try.func48, Try.ntmps48
  go_upto_region 1 with (fail)
  rw [← HW0.out]
  obtain ⟨k0_0_0, _, _, _⟩ := hS W0 (Fr.refl _ _)
  go_wp2_with fail
  refine (z1 ⟨_, (Fr.refl (fun _ => False) W0)⟩).mono ?_
  rintro e v1 ⟨rfl, r1⟩
  have Q1 : Nw W0 v1 := (Fr.refl (fun _ => False) W0).tr r1
  obtain ⟨_, k1_0_1, _, _⟩ := hS v1 Q1
  go_wp2_with fail
  refine (z2 ⟨_, Q1⟩).mono ?_
  rintro e v2 ⟨rfl, r2⟩
  have Q2 : Nw W0 v2 := Q1.tr r2
  obtain ⟨_, _, k2_0_2, _⟩ := hS v2 Q2
  go_wp2_with fail
  refine (z3 ⟨_, Q2⟩).mono ?_
  rintro e v3 ⟨rfl, r3⟩
  have Q3 : Nw W0 v3 := Q2.tr r3
  obtain ⟨_, _, _, k3_0_3⟩ := hS v3 Q3
  go_wp2_with fail
  refine (z4 ⟨_, Q3⟩).mono ?_
  rintro e v4 ⟨rfl, r4⟩
  have Q4 : Nw W0 v4 := Q3.tr r4
  go_wp2_with fail
  go_ret
  exact ⟨rfl, Q0.tr Q4⟩
set_option maxRecDepth 100000 in
theorem jempty (w : World) (F : Nat → Prop) (x : CfgM) (hz : CfgSz x) : Calls Try.prog 77 #[.agg (cfgA x)] w fun e w' => e = .returned (.bool (cfgNone x.x)) ∧ Nw w w' := by
  obtain ⟨W0, hW0⟩ : ∃ W, W = w.alloc (.cells (cfgA x) 35) := ⟨_, rfl⟩
  have p0 : Nw w W0 := by rw [hW0]; exact (Fr.refl (fun _ => False) _).alloc _
  have b0 : Blk W0 w.heap.size 35 (cfgA x) := by rw [hW0]; exact Blk.new _ _ _
  have k0 : W0.cell? ⟨w.heap.size, 0, none⟩ = some x.v.v := by simpa using b0.cell 0
  have k1 : W0.cell? ⟨w.heap.size, 1, none⟩ = some x.o.v := by simpa using b0.cell 1
  have k2 : W0.cell? ⟨w.heap.size, 2, none⟩ = some x.l.v := by simpa using b0.cell 2
  have k3 : W0.cell? ⟨w.heap.size, 3, none⟩ = some x.w.v := by simpa using b0.cell 3
  have HW0 := Lib.hid hW0
  obtain ⟨hv, ho, hl, hw⟩ := hz
  have hn : cfgNone x.x = decide (x.v.l.length + x.o.l.length + x.l.l.length + x.w.l.length = 0) := rfl
  rw [hn]
  clear hW0 b0 hn
  have he : ((((x.v.l.length : Nat) : Int) + ((x.o.l.length : Nat) : Int) + ((x.l.l.length : Nat) : Int) + ((x.w.l.length : Nat) : Int)) == 0) = decide (x.v.l.length + x.o.l.length + x.l.l.length + x.w.l.length = 0) := by
    rw [Bool.eq_iff_iff, beq_iff_eq, decide_eq_true_eq]; omega
  have HE := Lib.hid he
  clear he
  go_enter Try.func77, Try.ntmps77
  go_upto_region 1 with (fail)
  rw [← HW0.out]
  go_wp2_with fail
  go_ret
  exact ⟨ret_eq (congrArg Value.bool HE.out), p0⟩
end Go.Proofs.Ytippdjaakcgeoaa
